/-
  A call of a model and of the reference, whose states are any; where both are the same, so are the answers.
  Whether calls are more than is looked at; whether two lists of handles are the same.
  What calls lead to; the law of plays.
  From a law's contract to its row: every argument reads behind the call as it read before.
-/
import Derived.Test.YtbbklijmnknmhaaYx
import Derived.Test.YtbbklijmnknmhaaYr
import Derived.Test.YtbbklijmnknmhaaBx1
import Derived.Test.YtbbklijmnknmhaaRows
import Derived.Test.YtbbklijmnknmhaaUe
import Derived.Test.YtbbklijmnknmhaaE5
import Derived.ProofKit
namespace Go.Proofs.Ytbbklijmnknmhaa
open Av Bk

set_option maxRecDepth 100000 in
theorem fnOk_doC : FnOk Try.prog 35 Try.f35 := ⟨by rfl, by kernel_rfl, by
 show okCode _ _ = true ∧ drawsOk _ = true
 exact ⟨by kernel_rfl, by kernel_rfl⟩⟩
def PM.step (p : PM) (kd : Int) (key val lo hi : ByteArray) (bd : Bool) (i g : Int) (ws : List wrT.El) : PM :=
 if kd = 1 then p.writeN [(key, val, false, ())] else if kd = 2 then p.writeN [(key, ⟨#[]⟩, true, ())] else if kd = 3 then p.writeN ws
 else if kd = 8 then p.pinN else if kd = 9 then p.unpinN i g else if kd = 10 then p.openN i g lo hi bd else if kd = 11 then p.nextN i g else if kd = 12 then p.prevN i g else if kd = 13 then p.shutN i g else p
theorem wf_step {k : Nat} {p : PM} (h : Wf k p) (kd : Int) (key val lo hi : ByteArray) (bd : Bool) (i g : Int) (ws : List wrT.El) : Wf (k + 1) (p.step kd key val lo hi bd i g ws) := by
 unfold PM.step
 repeat' split
 ·exact wf_up (wf_write h _)
 ·exact wf_up (wf_write h _)
 ·exact wf_up (wf_write h _)
 ·exact wf_pin h
 ·exact wf_up (wf_unpin h _ _)
 ·exact wf_open h _ _ _ _ _
 ·exact wf_up (wf_next h _ _)
 ·exact wf_up (wf_prev h _ _)
 ·exact wf_up (wf_shut h _ _)
 ·exact wf_up h
abbrev DH (hx hy : List pairT.El) (m0 : List (Nat × List pairT.El)) (m1 : List (Nat × cuT.El)) (gP : Nat) (P : List slT.El) (gC : Nat) (C : List scT.El) (gQ : Nat) (Q : List rsT.El) (gD : Nat) (D : List rsT.El) : Hp :=
 [.oth (.bxs 22 (.sl pairT) m0), .oth (.bxs 109 cuT m1), .cells 88 [.bool true, .lst pairT hx, .own 4 gP P.length, .own 5 gC C.length], .cells 106 [.lst pairT hy, .own 6 gQ Q.length, .own 7 gD D.length], .arr 133 slT P false gP, .arr 136 scT C false gC, .arr 128 rsT Q false gQ, .arr 128 rsT D false gD]
inductive doP (ys : List AV) (h : Hp) (K : AV → Hp → Prop) : Prop where
 | mk (px py : PM) (k : Nat) (kd gr : Int) (key val lo hi : ByteArray) (bd : Bool) (i g oi og : Int) (ws : List wrT.El)
  (m0 : List (Nat × List pairT.El)) (m1 : List (Nat × cuT.El)) (gP : Nat) (P : List slT.El) (gC : Nat) (C : List scT.El) (gQ : Nat) (Q : List rsT.El) (gD : Nat) (D : List rsT.El)
  (hy : ys = [.ptr 2 0, .ptr 3 0, .agg [.int .i64 kd, .int .i64 gr, .str key, .str val, .str lo, .str hi, .bool bd, .int .i64 i, .int .i64 g, .int .i64 oi, .int .i64 og, .lst wrT ws]])
  (hh : h = DH px.hd py.hd m0 m1 gP P gC C gQ Q gD D) (hwx : Wf k px) (hwy : Wf k py) (hk : k ≤ 1000000) (hws : ws.length ≤ 1000000) (hrx : XRel px m0 m1 P C) (hry : YRel py Q D)
  (hK : ∀ b m0' m1' gP' P' gC' C' gQ' Q' gD' D', (px = py → b = true) → XRel (px.step kd key val lo hi bd i g ws) m0' m1' P' C' → YRel (py.step kd key val lo hi bd i g ws) Q' D' →
   K (.bool b) (DH (px.step kd key val lo hi bd i g ws).hd (py.step kd key val lo hi bd i g ws).hd m0' m1' gP' P' gC' C' gQ' Q' gD' D')) : doP ys h K
def doA : LocA := fun ys h K => doP ys h K
theorem eqH_refl (a b : Int) : eqT (.st [.int .i64, .int .i64]) (a, b, ()) (a, b, ()) = true := by
 show ((a == a) && (b == b)) = true
 rw [beq_self_eq_true, beq_self_eq_true]
 rfl
noncomputable def cxD : Cx := ⟨tb, [], [(18, .d spSameP)]⟩
theorem specsD : SpecsOk Try.prog cxD.specs := .cons same05_ok .nil
def locD : List (FuncId × LocA) := [(43, xWriteA), (40, xMapA), (47, xPinA), (48, xUnpinA), (41, xOpenA), (44, xNextA), (45, xPrevA), (46, xShutA), (36, xLiveA), (63, yWriteA), (70, yMapA), (64, yPinA), (65, yUnpinA), (66, yOpenA), (67, yNextA), (68, yPrevA), (69, yShutA), (37, yLiveA)]
theorem locDok : LocsOk Try.prog locD := .cons xWrite_ok (.cons xMap_ok (.cons xPin_ok (.cons xUnpin_ok (.cons xOpen_ok (.cons xNext_ok (.cons xPrev_ok (.cons xShut_ok (.cons xLive_ok (.cons yWrite_ok (.cons yMap_ok (.cons yPin_ok (.cons yUnpin_ok (.cons yOpen_ok (.cons yNext_ok (.cons yPrev_ok (.cons yShut_ok (.cons yLive_ok (.nil))))))))))))))))))
theorem callD : CallOk Try.prog (callM cxD locD 2) := callM_ok mixed tbOk specsD FnsOk.nil locDok 2
set_option maxRecDepth 100000 in
set_option maxHeartbeats 4000000 in
theorem do_ok : LocOk Try.prog 35 doA := by
 refine loc_body (C := cxD) mixed tbOk specsD callD fnOk_doC ?_
 rintro ys h0 K ⟨px, py, k, kd, gr, key, val, lo, hi, bd, i, g, oi, og, ws, m0, m1, gP, P, gC, C, gQ, Q, gD, D, rfl, rfl, hwx, hwy, hk, hws, hrx, hry, hK⟩
 by_cases k1 : kd = 1
 ·subst k1
  have es : ∀ p : PM, p.step 1 key val lo hi bd i g ws = p.writeN [(key, val, false, ())] := fun p => rfl
  simp only [es] at hK
  conv => whnf
  repeat' first | ((first | refine auIk ?_ | refine auIi ?_ | refine auT ?_ | refine auF ?_ | with_reducible first | refine auKt ?_ | refine auKf ?_ | refine auNt ?_ | refine auNf ?_ | refine auEt ?_ | refine auEf ?_); conv => whnf) | ((with_reducible first | refine br_dec ?_ ?_ | refine br_ndec ?_ ?_ | refine br_ne ?_ ?_ | refine br_eq ?_ ?_) <;> intro h <;> first | (exfalso; omega) | conv => whnf) | (refine br_intro ?_ ?_ <;> intro h <;> conv => whnf) | ((first | refine auNd ?_ | refine idx_nat (by omega) (fun x hx => ?_) | refine frz_auto ?_ | refine auIx (fun x hx => ?_)); conv => whnf) | (refine both.mk ?_ ?_ <;> conv => whnf) | ((first | refine bx_idx ?_ | refine bx_intro (fun b hb => ?_)); conv => whnf)
  refine .mk [.lst 7 wrT] ?_
  conv => whnf
  repeat' first | ((first | refine auTq ?_ | refine auFq ?_ | first | (refine frP.mk [0, 1, 2, 4, 5] ?_; (conv => whnf); refine ⟨[(key, val, false, ())], by simp, xP.mk px k _ _ _ _ _ _ rfl rfl hwx hk hrx ?_⟩; rintro _ _ _ _ _ _ hx9) | (refine frP.mk [3, 6, 7] ?_; (conv => whnf); refine ⟨[(key, val, false, ())], by simp, yP.mk py k _ _ _ _ rfl rfl hwy hk hry ?_⟩; rintro _ _ _ _ hy9) | refine auIk ?_ | refine auIi ?_ | refine auT ?_ | refine auF ?_ | with_reducible first | refine auKt ?_ | refine auKf ?_ | refine auNt ?_ | refine auNf ?_ | refine auEt ?_ | refine auEf ?_); conv => whnf) | ((with_reducible first | refine br_dec ?_ ?_ | refine br_ndec ?_ ?_ | refine br_ne ?_ ?_ | refine br_eq ?_ ?_) <;> intro h <;> first | (exfalso; omega) | conv => whnf) | (refine br_intro ?_ ?_ <;> intro h <;> conv => whnf) | ((first | refine auNd ?_ | refine idx_nat (by omega) (fun x hx => ?_) | refine frz_auto ?_ | refine draw_plain ?_ | refine auIx (fun x hx => ?_)); conv => whnf) | (refine both.mk ?_ ?_ <;> conv => whnf) | ((first | refine bx_idx ?_ | refine bx_intro (fun b hb => ?_)); conv => whnf)
  all_goals
   refine exA [0, 1, 2, 3, 4, 5, 6, 7] ?_
   conv => whnf
   refine hK _ _ _ _ _ _ _ _ _ _ _ ?_ hx9 hy9
   intro hpp
   subst hpp
   first
    | rfl
    | exact beq_self_eq_true _
    | exact decide_eq_true rfl
    | (exfalso; rw [eqH_refl] at h; cases h; done)
    | (exfalso; rw [eqP_refl] at h; cases h; done)
    | (exfalso; rw [sameP_refl] at h; cases h; done)
    | (simp; done)
 by_cases k2 : kd = 2
 ·subst k2
  have es : ∀ p : PM, p.step 2 key val lo hi bd i g ws = p.writeN [(key, ⟨#[]⟩, true, ())] := fun p => rfl
  simp only [es] at hK
  conv => whnf
  repeat' first | ((first | refine auIk ?_ | refine auIi ?_ | refine auT ?_ | refine auF ?_ | with_reducible first | refine auKt ?_ | refine auKf ?_ | refine auNt ?_ | refine auNf ?_ | refine auEt ?_ | refine auEf ?_); conv => whnf) | ((with_reducible first | refine br_dec ?_ ?_ | refine br_ndec ?_ ?_ | refine br_ne ?_ ?_ | refine br_eq ?_ ?_) <;> intro h <;> first | (exfalso; omega) | conv => whnf) | (refine br_intro ?_ ?_ <;> intro h <;> conv => whnf) | ((first | refine auNd ?_ | refine idx_nat (by omega) (fun x hx => ?_) | refine frz_auto ?_ | refine auIx (fun x hx => ?_)); conv => whnf) | (refine both.mk ?_ ?_ <;> conv => whnf) | ((first | refine bx_idx ?_ | refine bx_intro (fun b hb => ?_)); conv => whnf)
  refine .mk [.lst 8 wrT] ?_
  conv => whnf
  repeat' first | ((first | refine auTq ?_ | refine auFq ?_ | first | (refine frP.mk [0, 1, 2, 4, 5] ?_; (conv => whnf); refine ⟨[(key, ⟨#[]⟩, true, ())], by simp, xP.mk px k _ _ _ _ _ _ rfl rfl hwx hk hrx ?_⟩; rintro _ _ _ _ _ _ hx9) | (refine frP.mk [3, 6, 7] ?_; (conv => whnf); refine ⟨[(key, ⟨#[]⟩, true, ())], by simp, yP.mk py k _ _ _ _ rfl rfl hwy hk hry ?_⟩; rintro _ _ _ _ hy9) | refine auIk ?_ | refine auIi ?_ | refine auT ?_ | refine auF ?_ | with_reducible first | refine auKt ?_ | refine auKf ?_ | refine auNt ?_ | refine auNf ?_ | refine auEt ?_ | refine auEf ?_); conv => whnf) | ((with_reducible first | refine br_dec ?_ ?_ | refine br_ndec ?_ ?_ | refine br_ne ?_ ?_ | refine br_eq ?_ ?_) <;> intro h <;> first | (exfalso; omega) | conv => whnf) | (refine br_intro ?_ ?_ <;> intro h <;> conv => whnf) | ((first | refine auNd ?_ | refine idx_nat (by omega) (fun x hx => ?_) | refine frz_auto ?_ | refine draw_plain ?_ | refine auIx (fun x hx => ?_)); conv => whnf) | (refine both.mk ?_ ?_ <;> conv => whnf) | ((first | refine bx_idx ?_ | refine bx_intro (fun b hb => ?_)); conv => whnf)
  all_goals
   refine exA [0, 1, 2, 3, 4, 5, 6, 7] ?_
   conv => whnf
   refine hK _ _ _ _ _ _ _ _ _ _ _ ?_ hx9 hy9
   intro hpp
   subst hpp
   first
    | rfl
    | exact beq_self_eq_true _
    | exact decide_eq_true rfl
    | (exfalso; rw [eqH_refl] at h; cases h; done)
    | (exfalso; rw [eqP_refl] at h; cases h; done)
    | (exfalso; rw [sameP_refl] at h; cases h; done)
    | (simp; done)
 by_cases k3 : kd = 3
 ·subst k3
  have es : ∀ p : PM, p.step 3 key val lo hi bd i g ws = p.writeN ws := fun p => rfl
  simp only [es] at hK
  conv => whnf
  repeat' first | ((first | refine auTq ?_ | refine auFq ?_ | first | (refine frP.mk [0, 1, 2, 4, 5] ?_; (conv => whnf); refine ⟨ws, hws, xP.mk px k _ _ _ _ _ _ rfl rfl hwx hk hrx ?_⟩; rintro _ _ _ _ _ _ hx9) | (refine frP.mk [3, 6, 7] ?_; (conv => whnf); refine ⟨ws, hws, yP.mk py k _ _ _ _ rfl rfl hwy hk hry ?_⟩; rintro _ _ _ _ hy9) | refine auIk ?_ | refine auIi ?_ | refine auT ?_ | refine auF ?_ | with_reducible first | refine auKt ?_ | refine auKf ?_ | refine auNt ?_ | refine auNf ?_ | refine auEt ?_ | refine auEf ?_); conv => whnf) | ((with_reducible first | refine br_dec ?_ ?_ | refine br_ndec ?_ ?_ | refine br_ne ?_ ?_ | refine br_eq ?_ ?_) <;> intro h <;> first | (exfalso; omega) | conv => whnf) | (refine br_intro ?_ ?_ <;> intro h <;> conv => whnf) | ((first | refine auNd ?_ | refine idx_nat (by omega) (fun x hx => ?_) | refine frz_auto ?_ | refine draw_plain ?_ | refine auIx (fun x hx => ?_)); conv => whnf) | (refine both.mk ?_ ?_ <;> conv => whnf) | ((first | refine bx_idx ?_ | refine bx_intro (fun b hb => ?_)); conv => whnf)
  all_goals
   refine exA [0, 1, 2, 3, 4, 5, 6, 7] ?_
   conv => whnf
   refine hK _ _ _ _ _ _ _ _ _ _ _ ?_ hx9 hy9
   intro hpp
   subst hpp
   first
    | rfl
    | exact beq_self_eq_true _
    | exact decide_eq_true rfl
    | (exfalso; rw [eqH_refl] at h; cases h; done)
    | (exfalso; rw [eqP_refl] at h; cases h; done)
    | (exfalso; rw [sameP_refl] at h; cases h; done)
    | (simp; done)
 by_cases k8 : kd = 8
 ·subst k8
  have es : ∀ p : PM, p.step 8 key val lo hi bd i g ws = p.pinN := fun p => rfl
  simp only [es] at hK
  conv => whnf
  repeat' first | ((first | refine auTq ?_ | refine auFq ?_ | first | (refine frP.mk [0, 1, 2, 4, 5] ?_; (conv => whnf); refine xP.mk px k _ _ _ _ _ _ rfl rfl hwx hk hrx ?_; rintro _ _ _ _ _ _ hx9) | (refine frP.mk [3, 6, 7] ?_; (conv => whnf); refine yP.mk py k _ _ _ _ rfl rfl hwy hk hry ?_; rintro _ _ _ _ hy9) | refine auIk ?_ | refine auIi ?_ | refine auT ?_ | refine auF ?_ | with_reducible first | refine auKt ?_ | refine auKf ?_ | refine auNt ?_ | refine auNf ?_ | refine auEt ?_ | refine auEf ?_); conv => whnf) | ((with_reducible first | refine br_dec ?_ ?_ | refine br_ndec ?_ ?_ | refine br_ne ?_ ?_ | refine br_eq ?_ ?_) <;> intro h <;> first | (exfalso; omega) | conv => whnf) | (refine br_intro ?_ ?_ <;> intro h <;> conv => whnf) | ((first | refine auNd ?_ | refine idx_nat (by omega) (fun x hx => ?_) | refine frz_auto ?_ | refine draw_plain ?_ | refine auIx (fun x hx => ?_)); conv => whnf) | (refine both.mk ?_ ?_ <;> conv => whnf) | ((first | refine bx_idx ?_ | refine bx_intro (fun b hb => ?_)); conv => whnf)
  all_goals
   refine exA [0, 1, 2, 3, 4, 5, 6, 7] ?_
   conv => whnf
   refine hK _ _ _ _ _ _ _ _ _ _ _ ?_ hx9 hy9
   intro hpp
   subst hpp
   first
    | rfl
    | exact beq_self_eq_true _
    | exact decide_eq_true rfl
    | (exfalso; rw [eqH_refl] at h; cases h; done)
    | (exfalso; rw [eqP_refl] at h; cases h; done)
    | (exfalso; rw [sameP_refl] at h; cases h; done)
    | (simp; done)
 by_cases k9 : kd = 9
 ·subst k9
  have es : ∀ p : PM, p.step 9 key val lo hi bd i g ws = p.unpinN i g := fun p => rfl
  simp only [es] at hK
  conv => whnf
  repeat' first | ((first | refine auTq ?_ | refine auFq ?_ | first | (refine frP.mk [0, 1, 2, 4, 5] ?_; (conv => whnf); refine ⟨i, g, xP.mk px k _ _ _ _ _ _ rfl rfl hwx hk hrx ?_⟩; rintro _ _ _ _ _ _ hx9) | (refine frP.mk [3, 6, 7] ?_; (conv => whnf); refine ⟨i, g, yP.mk py k _ _ _ _ rfl rfl hwy hk hry ?_⟩; rintro _ _ _ _ hy9) | refine auIk ?_ | refine auIi ?_ | refine auT ?_ | refine auF ?_ | with_reducible first | refine auKt ?_ | refine auKf ?_ | refine auNt ?_ | refine auNf ?_ | refine auEt ?_ | refine auEf ?_); conv => whnf) | ((with_reducible first | refine br_dec ?_ ?_ | refine br_ndec ?_ ?_ | refine br_ne ?_ ?_ | refine br_eq ?_ ?_) <;> intro h <;> first | (exfalso; omega) | conv => whnf) | (refine br_intro ?_ ?_ <;> intro h <;> conv => whnf) | ((first | refine auNd ?_ | refine idx_nat (by omega) (fun x hx => ?_) | refine frz_auto ?_ | refine draw_plain ?_ | refine auIx (fun x hx => ?_)); conv => whnf) | (refine both.mk ?_ ?_ <;> conv => whnf) | ((first | refine bx_idx ?_ | refine bx_intro (fun b hb => ?_)); conv => whnf)
  all_goals
   refine exA [0, 1, 2, 3, 4, 5, 6, 7] ?_
   conv => whnf
   refine hK _ _ _ _ _ _ _ _ _ _ _ ?_ hx9 hy9
   intro hpp
   subst hpp
   first
    | rfl
    | exact beq_self_eq_true _
    | exact decide_eq_true rfl
    | (exfalso; rw [eqH_refl] at h; cases h; done)
    | (exfalso; rw [eqP_refl] at h; cases h; done)
    | (exfalso; rw [sameP_refl] at h; cases h; done)
    | (simp; done)
 by_cases k10 : kd = 10
 ·subst k10
  have es : ∀ p : PM, p.step 10 key val lo hi bd i g ws = p.openN i g lo hi bd := fun p => rfl
  simp only [es] at hK
  conv => whnf
  repeat' first | ((first | refine auTq ?_ | refine auFq ?_ | first | (refine frP.mk [0, 1, 2, 4, 5] ?_; (conv => whnf); refine ⟨i, g, lo, hi, bd, xP.mk px k _ _ _ _ _ _ rfl rfl hwx hk hrx ?_⟩; rintro _ _ _ _ _ _ hx9) | (refine frP.mk [3, 6, 7] ?_; (conv => whnf); refine ⟨i, g, lo, hi, bd, yP.mk py k _ _ _ _ rfl rfl hwy hk hry ?_⟩; rintro _ _ _ _ hy9) | refine auIk ?_ | refine auIi ?_ | refine auT ?_ | refine auF ?_ | with_reducible first | refine auKt ?_ | refine auKf ?_ | refine auNt ?_ | refine auNf ?_ | refine auEt ?_ | refine auEf ?_); conv => whnf) | ((with_reducible first | refine br_dec ?_ ?_ | refine br_ndec ?_ ?_ | refine br_ne ?_ ?_ | refine br_eq ?_ ?_) <;> intro h <;> first | (exfalso; omega) | conv => whnf) | (refine br_intro ?_ ?_ <;> intro h <;> conv => whnf) | ((first | refine auNd ?_ | refine idx_nat (by omega) (fun x hx => ?_) | refine frz_auto ?_ | refine draw_plain ?_ | refine auIx (fun x hx => ?_)); conv => whnf) | (refine both.mk ?_ ?_ <;> conv => whnf) | ((first | refine bx_idx ?_ | refine bx_intro (fun b hb => ?_)); conv => whnf)
  all_goals
   refine exA [0, 1, 2, 3, 4, 5, 6, 7] ?_
   conv => whnf
   refine hK _ _ _ _ _ _ _ _ _ _ _ ?_ hx9 hy9
   intro hpp
   subst hpp
   first
    | rfl
    | exact beq_self_eq_true _
    | exact decide_eq_true rfl
    | (exfalso; rw [eqH_refl] at h; cases h; done)
    | (exfalso; rw [eqP_refl] at h; cases h; done)
    | (exfalso; rw [sameP_refl] at h; cases h; done)
    | (simp; done)
 by_cases k11 : kd = 11
 ·subst k11
  have es : ∀ p : PM, p.step 11 key val lo hi bd i g ws = p.nextN i g := fun p => rfl
  simp only [es] at hK
  conv => whnf
  repeat' first | ((first | refine auTq ?_ | refine auFq ?_ | first | (refine frP.mk [0, 1, 2, 4, 5] ?_; (conv => whnf); refine ⟨i, g, xP.mk px k _ _ _ _ _ _ rfl rfl hwx hk hrx ?_⟩; rintro _ _ _ _ _ _ hx9) | (refine frP.mk [3, 6, 7] ?_; (conv => whnf); refine ⟨i, g, yP.mk py k _ _ _ _ rfl rfl hwy hk hry ?_⟩; rintro _ _ _ _ hy9) | refine auIk ?_ | refine auIi ?_ | refine auT ?_ | refine auF ?_ | with_reducible first | refine auKt ?_ | refine auKf ?_ | refine auNt ?_ | refine auNf ?_ | refine auEt ?_ | refine auEf ?_); conv => whnf) | ((with_reducible first | refine br_dec ?_ ?_ | refine br_ndec ?_ ?_ | refine br_ne ?_ ?_ | refine br_eq ?_ ?_) <;> intro h <;> first | (exfalso; omega) | conv => whnf) | (refine br_intro ?_ ?_ <;> intro h <;> conv => whnf) | ((first | refine auNd ?_ | refine idx_nat (by omega) (fun x hx => ?_) | refine frz_auto ?_ | refine draw_plain ?_ | refine auIx (fun x hx => ?_)); conv => whnf) | (refine both.mk ?_ ?_ <;> conv => whnf) | ((first | refine bx_idx ?_ | refine bx_intro (fun b hb => ?_)); conv => whnf)
  all_goals
   refine exA [0, 1, 2, 3, 4, 5, 6, 7] ?_
   conv => whnf
   refine hK _ _ _ _ _ _ _ _ _ _ _ ?_ hx9 hy9
   intro hpp
   subst hpp
   first
    | rfl
    | exact beq_self_eq_true _
    | exact decide_eq_true rfl
    | (exfalso; rw [eqH_refl] at h; cases h; done)
    | (exfalso; rw [eqP_refl] at h; cases h; done)
    | (exfalso; rw [sameP_refl] at h; cases h; done)
    | (simp; done)
 by_cases k12 : kd = 12
 ·subst k12
  have es : ∀ p : PM, p.step 12 key val lo hi bd i g ws = p.prevN i g := fun p => rfl
  simp only [es] at hK
  conv => whnf
  repeat' first | ((first | refine auTq ?_ | refine auFq ?_ | first | (refine frP.mk [0, 1, 2, 4, 5] ?_; (conv => whnf); refine ⟨i, g, xP.mk px k _ _ _ _ _ _ rfl rfl hwx hk hrx ?_⟩; rintro _ _ _ _ _ _ hx9) | (refine frP.mk [3, 6, 7] ?_; (conv => whnf); refine ⟨i, g, yP.mk py k _ _ _ _ rfl rfl hwy hk hry ?_⟩; rintro _ _ _ _ hy9) | refine auIk ?_ | refine auIi ?_ | refine auT ?_ | refine auF ?_ | with_reducible first | refine auKt ?_ | refine auKf ?_ | refine auNt ?_ | refine auNf ?_ | refine auEt ?_ | refine auEf ?_); conv => whnf) | ((with_reducible first | refine br_dec ?_ ?_ | refine br_ndec ?_ ?_ | refine br_ne ?_ ?_ | refine br_eq ?_ ?_) <;> intro h <;> first | (exfalso; omega) | conv => whnf) | (refine br_intro ?_ ?_ <;> intro h <;> conv => whnf) | ((first | refine auNd ?_ | refine idx_nat (by omega) (fun x hx => ?_) | refine frz_auto ?_ | refine draw_plain ?_ | refine auIx (fun x hx => ?_)); conv => whnf) | (refine both.mk ?_ ?_ <;> conv => whnf) | ((first | refine bx_idx ?_ | refine bx_intro (fun b hb => ?_)); conv => whnf)
  all_goals
   refine exA [0, 1, 2, 3, 4, 5, 6, 7] ?_
   conv => whnf
   refine hK _ _ _ _ _ _ _ _ _ _ _ ?_ hx9 hy9
   intro hpp
   subst hpp
   first
    | rfl
    | exact beq_self_eq_true _
    | exact decide_eq_true rfl
    | (exfalso; rw [eqH_refl] at h; cases h; done)
    | (exfalso; rw [eqP_refl] at h; cases h; done)
    | (exfalso; rw [sameP_refl] at h; cases h; done)
    | (simp; done)
 by_cases k13 : kd = 13
 ·subst k13
  have es : ∀ p : PM, p.step 13 key val lo hi bd i g ws = p.shutN i g := fun p => rfl
  simp only [es] at hK
  conv => whnf
  repeat' first | ((first | refine auTq ?_ | refine auFq ?_ | first | (refine frP.mk [0, 1, 2, 4, 5] ?_; (conv => whnf); refine ⟨i, g, xP.mk px k _ _ _ _ _ _ rfl rfl hwx hk hrx ?_⟩; rintro _ _ _ _ _ _ hx9) | (refine frP.mk [3, 6, 7] ?_; (conv => whnf); refine ⟨i, g, yP.mk py k _ _ _ _ rfl rfl hwy hk hry ?_⟩; rintro _ _ _ _ hy9) | refine auIk ?_ | refine auIi ?_ | refine auT ?_ | refine auF ?_ | with_reducible first | refine auKt ?_ | refine auKf ?_ | refine auNt ?_ | refine auNf ?_ | refine auEt ?_ | refine auEf ?_); conv => whnf) | ((with_reducible first | refine br_dec ?_ ?_ | refine br_ndec ?_ ?_ | refine br_ne ?_ ?_ | refine br_eq ?_ ?_) <;> intro h <;> first | (exfalso; omega) | conv => whnf) | (refine br_intro ?_ ?_ <;> intro h <;> conv => whnf) | ((first | refine auNd ?_ | refine idx_nat (by omega) (fun x hx => ?_) | refine frz_auto ?_ | refine draw_plain ?_ | refine auIx (fun x hx => ?_)); conv => whnf) | (refine both.mk ?_ ?_ <;> conv => whnf) | ((first | refine bx_idx ?_ | refine bx_intro (fun b hb => ?_)); conv => whnf)
  all_goals
   refine exA [0, 1, 2, 3, 4, 5, 6, 7] ?_
   conv => whnf
   refine hK _ _ _ _ _ _ _ _ _ _ _ ?_ hx9 hy9
   intro hpp
   subst hpp
   first
    | rfl
    | exact beq_self_eq_true _
    | exact decide_eq_true rfl
    | (exfalso; rw [eqH_refl] at h; cases h; done)
    | (exfalso; rw [eqP_refl] at h; cases h; done)
    | (exfalso; rw [sameP_refl] at h; cases h; done)
    | (simp; done)
 have es : ∀ p : PM, p.step kd key val lo hi bd i g ws = p := fun p => by
  unfold PM.step
  rw [if_neg k1, if_neg k2, if_neg k3, if_neg k8, if_neg k9, if_neg k10, if_neg k11, if_neg k12, if_neg k13]
 simp only [es] at hK
 have hm1 : (px.mapR i g).1.length ≤ 4611686018427387904 := Nat.le_trans (mapR_fit hwx i g).len (by decide)
 conv => whnf
 repeat' first | ((first | refine auTq ?_ | refine auFq ?_ | first | (refine frP.mk [0, 1, 2, 4, 5] ?_; (conv => whnf); refine ⟨i, g, xP.mk px k _ _ _ _ _ _ rfl rfl hwx hk hrx ?_⟩; rintro _ _ _ _ _ _ hx9) | (refine frP.mk [3, 6, 7] ?_; (conv => whnf); refine ⟨i, g, yP.mk py k _ _ _ _ rfl rfl hwy hk hry ?_⟩; rintro _ _ _ _ hy9) | refine auIk ?_ | refine auIi ?_ | refine auT ?_ | refine auF ?_ | with_reducible first | refine auKt ?_ | refine auKf ?_ | refine auNt ?_ | refine auNf ?_ | refine auEt ?_ | refine auEf ?_); conv => whnf) | ((with_reducible first | refine br_dec ?_ ?_ | refine br_ndec ?_ ?_ | refine br_ne ?_ ?_ | refine br_eq ?_ ?_) <;> intro h <;> first | (exfalso; omega) | conv => whnf) | (refine br_intro ?_ ?_ <;> intro h <;> conv => whnf) | ((first | refine auNd ?_ | refine idx_nat (by omega) (fun x hx => ?_) | refine frz_auto ?_ | refine draw_plain ?_ | refine auIx (fun x hx => ?_)); conv => whnf) | (refine both.mk ?_ ?_ <;> conv => whnf) | ((first | refine bx_idx ?_ | refine bx_intro (fun b hb => ?_)); conv => whnf)
 all_goals
  refine exA [0, 1, 2, 3, 4, 5, 6, 7] ?_
  conv => whnf
  refine hK _ _ _ _ _ _ _ _ _ _ _ ?_ hx9 hy9
  intro hpp
  subst hpp
  first
   | rfl
   | exact beq_self_eq_true _
   | exact decide_eq_true rfl
   | (exfalso; rw [eqH_refl] at h; cases h; done)
   | (exfalso; rw [eqP_refl] at h; cases h; done)
   | (exfalso; rw [sameP_refl] at h; cases h; done)
   | (simp; done)
end Go.Proofs.Ytbbklijmnknmhaa
namespace Go.Proofs.Ytbbklijmnknmhaa
open Av Bk

abbrev clT : Ty := .st [.int .i64, .int .i64, .str, .str, .st [.str, .str, .bool], .st [.int .i64, .int .i64], .st [.int .i64, .int .i64], .sl wrT]
abbrev clW (x : clT.El) : List wrT.El := x.2.2.2.2.2.2.2.1
def bigC (x : clT.El) : Bool := decide (200 < (x.2.2.1.size : Int)) || (decide (200 < (x.2.2.2.1.size : Int)) || (decide (200 < (x.2.2.2.2.1.1.size : Int)) || (decide (200 < (x.2.2.2.2.1.2.1.size : Int)) || wideW (clW x))))
def manyL (l : List clT.El) : Bool := if 120 < (l.length : Int) then true else l.any bigC
def spMany : DSpec
 | [.lst (.st [.int .i64, .int .i64, .str, .str, .st [.str, .str, .bool], .st [.int .i64, .int .i64], .st [.int .i64, .int .i64], .sl (.st [.str, .str, .bool])]) l] => some (True, .bool (manyL l))
 | _ => none
set_option maxRecDepth 100000 in
theorem fnOk_manyC : FnOk Try.prog 32 Try.f32 := ⟨by rfl, by kernel_rfl, by
 show okCode _ _ = true ∧ drawsOk _ = true
 exact ⟨by kernel_rfl, by kernel_rfl⟩⟩
noncomputable def cxza : Cx := ⟨tb, [], [(12, .d spWd5)]⟩
theorem specsza : SpecsOk Try.prog cxza.specs := .cons wide5_ok .nil
set_option maxRecDepth 100000 in
set_option maxHeartbeats 4000000 in
theorem manyC_ok : SpecOk Try.prog 32 spMany := by
  refine spec_body (C := cxza) mixed tbOk specsza (callN_ok (C := cxza) mixed tbOk specsza FnsOk.nil 0) fnOk_manyC ?_
  intro ys p r h hp
  unfold spMany at h
  split at h
  · rename_i l
    cases h
    by_cases ho : 120 < (l.length : Int)
    · have hF : manyL l = true := by unfold manyL; rw [if_pos ho]
      conv => whnf
      repeat' first | ((first | refine auTq ?_ | refine auFq ?_ | refine auIk ?_ | refine auIi ?_ | refine auT ?_ | refine auF ?_ | with_reducible first | refine auKt ?_ | refine auKf ?_ | refine auNt ?_ | refine auNf ?_ | refine auEt ?_ | refine auEf ?_); conv => whnf) | ((with_reducible first | refine br_dec ?_ ?_ | refine br_ndec ?_ ?_ | refine br_ne ?_ ?_ | refine br_eq ?_ ?_) <;> intro h <;> first | (exfalso; omega) | conv => whnf) | (refine br_intro ?_ ?_ <;> intro h <;> conv => whnf) | ((first | refine auNd ?_ | refine idx_nat (by omega) (fun x hx => ?_) | refine frz_auto ?_ | refine draw_plain ?_ | refine auIx (fun x hx => ?_)); conv => whnf)
      all_goals first | (rw [hF]; done) | (exfalso; omega) | skip
    · have hF : manyL l = l.any bigC := by unfold manyL; rw [if_neg ho]
      conv => whnf
      repeat' first | ((first | refine auTq ?_ | refine auFq ?_ | refine auIk ?_ | refine auIi ?_ | refine auT ?_ | refine auF ?_ | with_reducible first | refine auKt ?_ | refine auKf ?_ | refine auNt ?_ | refine auNf ?_ | refine auEt ?_ | refine auEf ?_); conv => whnf) | ((with_reducible first | refine br_dec ?_ ?_ | refine br_ndec ?_ ?_ | refine br_ne ?_ ?_ | refine br_eq ?_ ?_) <;> intro h <;> first | (exfalso; omega) | conv => whnf) | (refine br_intro ?_ ?_ <;> intro h <;> conv => whnf) | ((first | refine auNd ?_ | refine idx_nat (by omega) (fun x hx => ?_) | refine frz_auto ?_ | refine draw_plain ?_ | refine auIx (fun x hx => ?_)); conv => whnf)
      refine loop_inv [] [3] (fun vs h => ∃ i : Nat, vs = [.int .i64 (i : Int)] ∧ h = [] ∧ i ≤ l.length ∧ ∀ y ∈ l.take i, bigC y = false) (fun vs _ => match vs with | [.int _ k] => l.length - k.toNat | _ => 0) ?_
      conv => whnf
      refine ⟨⟨0, rfl, rfl, by omega, by simp⟩, ?_⟩
      rintro vs h' - ⟨i, rfl, rfl, hi, hall⟩
      by_cases hil : i < l.length
      · obtain ⟨x, hx⟩ : ∃ x, l[i]? = some x := ⟨_, List.getElem?_eq_getElem hil⟩
        conv => whnf
        repeat' first | ((first | refine auTq ?_ | refine auFq ?_ | refine auIk ?_ | refine auIi ?_ | refine auT ?_ | refine auF ?_ | with_reducible first | refine auKt ?_ | refine auKf ?_ | refine auNt ?_ | refine auNf ?_ | refine auEt ?_ | refine auEf ?_); conv => whnf) | ((with_reducible first | refine br_dec ?_ ?_ | refine br_ndec ?_ ?_ | refine br_ne ?_ ?_ | refine br_eq ?_ ?_) <;> intro h <;> first | (exfalso; omega) | conv => whnf) | (refine br_intro ?_ ?_ <;> intro h <;> conv => whnf) | ((first | refine auNd ?_ | refine idx_nat (by omega) (fun x hx => ?_) | refine frz_auto ?_ | refine draw_plain ?_ | refine auIx (fun x hx => ?_)); conv => whnf)
        all_goals first
          | (rw [hF, any_at hx (by clear hF hall; simp [bigC, *])]; done)
          | (refine back_intro (by conv => whnf) rfl ⟨i + 1, rfl, rfl, by omega, take_succ_all hall hx (by clear hF hall; simp [bigC, *]; done)⟩ ?_
             show l.length - ((i : Int) + 1).toNat < l.length - (i : Int).toNat
             omega)
          | (refine back_intro (by conv => whnf) rfl ⟨i + 1, rfl, rfl, by omega, take_succ_all hall hx (by clear hF hall; simp [bigC, *]; omega)⟩ ?_
             show l.length - ((i : Int) + 1).toNat < l.length - (i : Int).toNat
             omega)
      · conv => whnf
        repeat' first | ((first | refine auTq ?_ | refine auFq ?_ | refine auIk ?_ | refine auIi ?_ | refine auT ?_ | refine auF ?_ | with_reducible first | refine auKt ?_ | refine auKf ?_ | refine auNt ?_ | refine auNf ?_ | refine auEt ?_ | refine auEf ?_); conv => whnf) | ((with_reducible first | refine br_dec ?_ ?_ | refine br_ndec ?_ ?_ | refine br_ne ?_ ?_ | refine br_eq ?_ ?_) <;> intro h <;> first | (exfalso; omega) | conv => whnf) | (refine br_intro ?_ ?_ <;> intro h <;> conv => whnf) | ((first | refine auNd ?_ | refine idx_nat (by omega) (fun x hx => ?_) | refine frz_auto ?_ | refine draw_plain ?_ | refine auIx (fun x hx => ?_)); conv => whnf)
        rw [hF, any_end hall (by omega)]
  · cases h
theorem manyL_len {l : List clT.El} (h : manyL l = false) : l.length ≤ 120 ∧ ∀ x ∈ l, (clW x).length ≤ 12 := by
 unfold manyL at h
 split at h
 ·cases h
 ·rename_i ho
  refine ⟨by omega, fun x hx => ?_⟩
  have h1 := List.any_eq_false.1 h x hx
  have h2 : wideW (clW x) = false := by
   cases hw : wideW (clW x) with
   | false => rfl
   | true => exact absurd (by unfold bigC; rw [hw]; simp) h1
  exact wideW_len h2
def spSameH : DSpec
 | [.lst (.st [.int .i64, .int .i64]) a, .lst (.st [.int .i64, .int .i64]) b] => some (a.length ≤ 4611686018427387904, .bool (sameL hanT a b))
 | _ => none
set_option maxRecDepth 100000 in
theorem fnOk_sameH : FnOk Try.prog 38 Try.f38 := ⟨by rfl, by kernel_rfl, by
 show okCode _ _ = true ∧ drawsOk _ = true
 exact ⟨by kernel_rfl, by kernel_rfl⟩⟩
set_option maxRecDepth 100000 in
set_option maxHeartbeats 2000000 in
theorem sameH_ok : SpecOk Try.prog 38 spSameH := by
 refine spec_body (C := cx0) mixed tbOk SpecsOk.nil (callN_ok (C := cx0) mixed tbOk SpecsOk.nil FnsOk.nil 0) fnOk_sameH ?_
 intro ys p r h hp
 unfold spSameH at h
 split at h
 ·rename_i a b
  cases h
  conv => whnf
  repeat' first | ((first | refine auT ?_ | refine auF ?_ | with_reducible first | refine auKt ?_ | refine auKf ?_ | refine auNt ?_ | refine auNf ?_ | refine auEt ?_ | refine auEf ?_); conv => whnf) | ((with_reducible first | refine br_dec ?_ ?_ | refine br_ndec ?_ ?_ | refine br_ne ?_ ?_ | refine br_eq ?_ ?_) <;> intro h <;> first | (exfalso; omega) | conv => whnf) | (refine br_intro ?_ ?_ <;> intro h <;> conv => whnf) | ((first | refine auNd ?_ | refine idx_nat (by omega) (fun x hx => ?_) | refine frz_auto ?_ | refine draw_plain ?_ | refine auIx (fun x hx => ?_)); conv => whnf)
  ·refine congrArg AV.bool ?_
   rw [same_len (by omega)]
  ·rename_i hlen
   refine loop_inv [] [5] (fun vs h => ∃ i : Nat, vs = [.int .i64 (i : Int)] ∧ h = [] ∧ i ≤ a.length ∧ sameL hanT a b = sameL hanT (a.drop i) (b.drop i)) (fun vs _ => match vs with | [.int _ k] => a.length - k.toNat | _ => 0) ?_
   refine ⟨⟨0, rfl, rfl, Nat.zero_le _, rfl⟩, ?_⟩
   rintro vs h' - ⟨i, rfl, rfl, hi, hs⟩
   by_cases hil : i < a.length
   ·obtain ⟨x, hx⟩ : ∃ x, a[i]? = some x := ⟨_, List.getElem?_eq_getElem hil⟩
    obtain ⟨y, hy⟩ : ∃ y, b[i]? = some y := ⟨_, List.getElem?_eq_getElem (by omega)⟩
    rw [same_step hx hy] at hs
    conv => whnf
    repeat' first | ((first | refine auIk ?_ | refine auIi ?_ | refine auT ?_ | refine auF ?_ | with_reducible first | refine auKt ?_ | refine auKf ?_ | refine auNt ?_ | refine auNf ?_ | refine auEt ?_ | refine auEf ?_); conv => whnf) | ((with_reducible first | refine br_dec ?_ ?_ | refine br_ndec ?_ ?_ | refine br_ne ?_ ?_ | refine br_eq ?_ ?_) <;> intro h <;> first | (exfalso; omega) | conv => whnf) | (refine br_intro ?_ ?_ <;> intro h <;> conv => whnf) | ((first | refine auNd ?_ | refine idx_nat (by omega) (fun x hx => ?_) | refine frz_auto ?_ | refine draw_plain ?_ | refine auIx (fun x hx => ?_)); conv => whnf)
    ·rw [hs, show eqT hanT x y = false from bnt h]
     rfl
    ·rw [show eqT hanT x y = true from bnf h] at hs
     refine back_intro (by conv => whnf) rfl ⟨i + 1, rfl, rfl, by omega, hs⟩ ?_
     show a.length - ((i : Int) + 1).toNat < a.length - (i : Int).toNat
     omega
   ·conv => whnf
    repeat' first | ((first | refine auIk ?_ | refine auIi ?_ | refine auT ?_ | refine auF ?_ | with_reducible first | refine auKt ?_ | refine auKf ?_ | refine auNt ?_ | refine auNf ?_ | refine auEt ?_ | refine auEf ?_); conv => whnf) | ((with_reducible first | refine br_dec ?_ ?_ | refine br_ndec ?_ ?_ | refine br_ne ?_ ?_ | refine br_eq ?_ ?_) <;> intro h <;> first | (exfalso; omega) | conv => whnf) | (refine br_intro ?_ ?_ <;> intro h <;> conv => whnf) | ((first | refine auNd ?_ | refine idx_nat (by omega) (fun x hx => ?_) | refine frz_auto ?_ | refine draw_plain ?_ | refine auIx (fun x hx => ?_)); conv => whnf)
    rw [hs, same_end (by omega) (by omega)]
 ·cases h
theorem sameH_refl : ∀ l : List hanT.El, sameL hanT l l = true
 | [] => rfl
 | x :: l => by
  rw [sameL, sameH_refl l]
  show (((x.1 == x.1) && (x.2.1 == x.2.1)) && true) = true
  rw [beq_self_eq_true, beq_self_eq_true]
  rfl
end Go.Proofs.Ytbbklijmnknmhaa
namespace Go.Proofs.Ytbbklijmnknmhaa
open Av Bk

set_option maxRecDepth 100000 in
theorem fnOk_rNew5 : FnOk Try.prog 34 Try.f34 := ⟨by rfl, by kernel_rfl, by
 show okCode _ _ = true ∧ drawsOk _ = true
 exact ⟨by kernel_rfl, by kernel_rfl⟩⟩
abbrev HZ (hx hy : List pairT.El) (m0 : List (Nat × List pairT.El)) (m1 : List (Nat × cuT.El)) (gP : Nat) (P : List slT.El) (gC : Nat) (C : List scT.El) (gQ : Nat) (Q : List rsT.El) (gD : Nat) (D : List rsT.El) : Hp :=
 [.oth (.bxs 22 (.sl pairT) m0), .oth (.bxs 109 cuT m1), .cells 88 [.bool true, .lst pairT hx, .own 6 gP P.length, .own 7 gC C.length], .cells 106 [.lst pairT hy, .own 8 gQ Q.length, .own 9 gD D.length], .dead, .dead, .arr 133 slT P false gP, .arr 136 scT C false gC, .arr 128 rsT Q false gQ, .arr 128 rsT D false gD]
def p00 : PM := ⟨[], [], []⟩
theorem xrel_new (m0 : List (Nat × List pairT.El)) (m1 : List (Nat × cuT.El)) : XRel p00 m0 m1 [] [] := ⟨rfl, rfl, fun j x q h => by simp at h, fun j x q h => by simp at h, fun i j x y b h => by simp at h⟩
theorem yrel_new : YRel p00 [] [] := ⟨rfl, rfl, fun j x q h => by simp at h, fun j x q h => by simp at h⟩
theorem liveGo_len {β : Type} : ∀ (l : List (Int × Option β)) (n : Nat), (liveGo n l).length ≤ l.length
 | [], n => by simp [liveGo]
 | q :: l, n => by
  have := liveGo_len l (n + 1)
  simp only [liveGo]
  split <;> simp <;> omega
set_option maxRecDepth 100000 in
theorem fnOk_lPl : FnOk Try.prog 7 Try.f7 := ⟨by rfl, by kernel_rfl, by
 show okCode _ _ = true ∧ drawsOk _ = true
 exact ⟨by kernel_rfl, by kernel_rfl⟩⟩
noncomputable def lPl_C : Cx := ⟨tb, [(33, Try.f33), (34, Try.f34)], [(13, .d spAw5), (32, .d spMany), (38, .d spSameH)]⟩
theorem lPl_D : SpecsOk Try.prog lPl_C.specs := .cons awake5_ok (.cons manyC_ok (.cons sameH_ok .nil))
theorem lPl_F : FnsOk Try.prog lPl_C.fns := .cons fnOk_mNew (.cons fnOk_rNew5 .nil)
def lPl_L : List (FuncId × LocA) := [(35, doA), (36, xLiveA), (37, yLiveA)]
theorem lPl_Lk : LocsOk Try.prog lPl_L := .cons do_ok (.cons xLive_ok (.cons yLive_ok .nil))
abbrev lPl_T : List Ty := [.sl clT]
abbrev lPl_FN := fnOk_lPl
set_option maxRecDepth 100000 in
set_option maxHeartbeats 4000000 in
theorem lPl : ∀ es : Ty.Els lPl_T, tyOks lPl_T es → bodyA lPl_C (callM lPl_C lPl_L 2) Try.f7 (avTs lPl_T es) B5 (fun v _ => v = .bool true) := by
 rintro ⟨l, _⟩ -
 show bodyA _ _ _ [.lst clT l] B5 _
 cases hF : manyL l with
 | true =>
  conv => whnf
  repeat' first | ((first | refine auTq ?_ | refine auFq ?_ | refine auIk ?_ | refine auIi ?_ | refine auT ?_ | refine auF ?_ | with_reducible first | refine auKt ?_ | refine auKf ?_ | refine auNt ?_ | refine auNf ?_ | refine auEt ?_ | refine auEf ?_); conv => whnf) | ((with_reducible first | refine br_dec ?_ ?_ | refine br_ndec ?_ ?_ | refine br_ne ?_ ?_ | refine br_eq ?_ ?_) <;> intro h <;> first | (exfalso; omega) | conv => whnf) | (refine br_intro ?_ ?_ <;> intro h <;> conv => whnf) | ((first | refine auNd ?_ | refine idx_nat (by omega) (fun x hx => ?_) | refine frz_auto ?_ | refine draw_plain ?_ | refine auIx (fun x hx => ?_)); conv => whnf) | (refine both.mk ?_ ?_ <;> conv => whnf) | ((first | refine bx_idx ?_ | refine bx_intro (fun b hb => ?_)); conv => whnf)
 | false =>
  obtain ⟨hl, hwl⟩ := manyL_len hF
  conv => whnf
  repeat' first | ((first | refine auTq ?_ | refine auFq ?_ | refine auIk ?_ | refine auIi ?_ | refine auT ?_ | refine auF ?_ | with_reducible first | refine auKt ?_ | refine auKf ?_ | refine auNt ?_ | refine auNf ?_ | refine auEt ?_ | refine auEf ?_); conv => whnf) | ((with_reducible first | refine br_dec ?_ ?_ | refine br_ndec ?_ ?_ | refine br_ne ?_ ?_ | refine br_eq ?_ ?_) <;> intro h <;> first | (exfalso; omega) | conv => whnf) | (refine br_intro ?_ ?_ <;> intro h <;> conv => whnf) | ((first | refine auNd ?_ | refine idx_nat (by omega) (fun x hx => ?_) | refine frz_auto ?_ | refine draw_plain ?_ | refine auIx (fun x hx => ?_)); conv => whnf) | (refine both.mk ?_ ?_ <;> conv => whnf) | ((first | refine bx_idx ?_ | refine bx_intro (fun b hb => ?_)); conv => whnf)
  refine loop_inv [.cell 2 1 50 pairT, .frz 4 [] [(2, 1)], .cell 3 0 50 pairT, .frz 5 [] [(3, 0)], .cell 2 2 133 slT, .cell 2 3 136 scT, .cell 3 1 128 rsT, .cell 3 2 128 rsT] [5] (fun vs h => ∃ (i : Nat) (p : PM) (m0 : List (Nat × List pairT.El)) (m1 : List (Nat × cuT.El)) (gP : Nat) (P : List slT.El) (gC : Nat) (C : List scT.El) (gQ : Nat) (Q : List rsT.El) (gD : Nat) (D : List rsT.El), vs = [.int .i64 (i : Int)] ∧ h = HZ p.hd p.hd m0 m1 gP P gC C gQ Q gD D ∧ i ≤ l.length ∧ Wf i p ∧ XRel p m0 m1 P C ∧ YRel p Q D) (fun vs _ => match vs with | [.int _ k] => l.length - k.toNat | _ => 0) ?_
  conv => whnf
  repeat' first | ((first | refine auTq ?_ | refine auFq ?_ | refine auIk ?_ | refine auIi ?_ | refine auT ?_ | refine auF ?_ | with_reducible first | refine auKt ?_ | refine auKf ?_ | refine auNt ?_ | refine auNf ?_ | refine auEt ?_ | refine auEf ?_); conv => whnf) | ((with_reducible first | refine br_dec ?_ ?_ | refine br_ndec ?_ ?_ | refine br_ne ?_ ?_ | refine br_eq ?_ ?_) <;> intro h <;> first | (exfalso; omega) | conv => whnf) | (refine br_intro ?_ ?_ <;> intro h <;> conv => whnf) | ((first | refine auNd ?_ | refine idx_nat (by omega) (fun x hx => ?_) | refine frz_auto ?_ | refine draw_plain ?_ | refine auIx (fun x hx => ?_)); conv => whnf) | (refine both.mk ?_ ?_ <;> conv => whnf) | ((first | refine bx_idx ?_ | refine bx_intro (fun b hb => ?_)); conv => whnf)
  refine ⟨⟨0, p00, [], [], 0, [], 0, [], 0, [], 0, [], rfl, rfl, Nat.zero_le _, wf_new, xrel_new [] [], yrel_new⟩, ?_⟩
  rintro vs h' - ⟨i, p, m0, m1, gP, P, gC, C, gQ, Q, gD, D, rfl, rfl, hi, hw, hrx, hry⟩
  by_cases hil : i < l.length
  ·obtain ⟨x, hx⟩ : ∃ x, l[i]? = some x := ⟨_, List.getElem?_eq_getElem hil⟩
   have hws : (clW x).length ≤ 1000000 := Nat.le_trans (hwl x (List.mem_of_getElem? hx)) (by decide)
   obtain ⟨p', hp'⟩ : ∃ p', p.step x.1 x.2.2.1 x.2.2.2.1 x.2.2.2.2.1.1 x.2.2.2.2.1.2.1 x.2.2.2.2.1.2.2.1 x.2.2.2.2.2.1.1 x.2.2.2.2.2.1.2.1 (clW x) = p' := ⟨_, rfl⟩
   have hw9 : Wf (i + 1) p' := hp' ▸ wf_step hw _ _ _ _ _ _ _ _ _
   have hk9 : i + 1 ≤ 1000000 := by omega
   have s1 := sameH_refl (liveGo 0 p'.pins)
   have s2 := sameH_refl (liveGo 0 p'.curs)
   have s5 : (!sameL hanT (liveGo 0 p'.pins) (liveGo 0 p'.pins)) = false := by rw [s1]; rfl
   have s6 : (!sameL hanT (liveGo 0 p'.curs) (liveGo 0 p'.curs)) = false := by rw [s2]; rfl
   have s3 : (liveGo 0 p'.pins).length ≤ 4611686018427387904 := Nat.le_trans (liveGo_len _ _) (Nat.le_trans hw9.pl (by decide))
   have s4 : (liveGo 0 p'.curs).length ≤ 4611686018427387904 := Nat.le_trans (liveGo_len _ _) (Nat.le_trans hw9.cl (by decide))
   conv => whnf
   repeat' first | ((first | refine auTq ?_ | refine auFq ?_ | first | (refine frP.mk [0, 1, 2, 3, 6, 7, 8, 9] ?_; (conv => whnf); refine doP.mk p p i _ _ _ _ _ _ _ _ _ _ _ _ _ _ _ _ _ _ _ _ _ _ rfl rfl hw hw (by omega) hws hrx hry ?_; rintro b _ _ _ _ _ _ _ _ _ _ hb hx9 hy9; cases hb rfl; rw [hp'] at hx9 hy9; rw [hp']) | (refine frP.mk [0, 1, 2, 6, 7] ?_; (conv => whnf); refine xP.mk p' (i + 1) _ _ _ _ _ _ rfl rfl hw9 hk9 (by assumption) ?_; rintro _ _ _ _ _ _ hx9) | (refine frP.mk [3, 8, 9] ?_; (conv => whnf); refine yP.mk p' (i + 1) _ _ _ _ rfl rfl hw9 hk9 (by assumption) ?_; rintro _ _ _ _ hy9) | refine auIk ?_ | refine auIi ?_ | refine auT ?_ | refine auF ?_ | with_reducible first | refine auKt ?_ | refine auKf ?_ | refine auNt ?_ | refine auNf ?_ | refine auEt ?_ | refine auEf ?_); conv => whnf) | ((with_reducible first | refine br_dec ?_ ?_ | refine br_ndec ?_ ?_ | refine br_ne ?_ ?_ | refine br_eq ?_ ?_) <;> intro h <;> first | (exfalso; omega) | conv => whnf) | (refine br_intro ?_ ?_ <;> intro h <;> conv => whnf) | ((first | refine auNd ?_ | refine idx_nat (by omega) (fun x hx => ?_) | refine frz_auto ?_ | refine draw_plain ?_ | refine auIx (fun x hx => ?_)); conv => whnf) | (refine both.mk ?_ ?_ <;> conv => whnf) | ((first | refine bx_idx ?_ | refine bx_intro (fun b hb => ?_)); conv => whnf)
   refine back_intro (by conv => whnf) rfl ⟨i + 1, p', _, _, _, _, _, _, _, _, _, _, rfl, rfl, by omega, hw9, by assumption, by assumption⟩ ?_
   show l.length - ((i : Int) + 1).toNat < l.length - (i : Int).toNat
   omega
  ·have hws : (0 : Nat) ≤ 1000000 := by decide
   conv => whnf
   repeat' first | ((first | refine auTq ?_ | refine auFq ?_ | (refine frP.mk [0, 1, 2, 3, 6, 7, 8, 9] ?_; (conv => whnf); refine doP.mk p p i _ _ _ _ _ _ _ _ _ _ _ _ _ _ _ _ _ _ _ _ _ _ rfl rfl hw hw (by omega) (by decide) hrx hry ?_; rintro b _ _ _ _ _ _ _ _ _ _ hb hx9 hy9; cases hb rfl) | refine auIk ?_ | refine auIi ?_ | refine auT ?_ | refine auF ?_ | with_reducible first | refine auKt ?_ | refine auKf ?_ | refine auNt ?_ | refine auNf ?_ | refine auEt ?_ | refine auEf ?_); conv => whnf) | ((with_reducible first | refine br_dec ?_ ?_ | refine br_ndec ?_ ?_ | refine br_ne ?_ ?_ | refine br_eq ?_ ?_) <;> intro h <;> first | (exfalso; omega) | conv => whnf) | (refine br_intro ?_ ?_ <;> intro h <;> conv => whnf) | ((first | refine auNd ?_ | refine idx_nat (by omega) (fun x hx => ?_) | refine frz_auto ?_ | refine draw_plain ?_ | refine auIx (fun x hx => ?_)); conv => whnf) | (refine both.mk ?_ ?_ <;> conv => whnf) | ((first | refine bx_idx ?_ | refine bx_intro (fun b hb => ?_)); conv => whnf)
end Go.Proofs.Ytbbklijmnknmhaa
namespace Go.Proofs.Ytbbklijmnknmhaa
open Go.ChangeShapes Go.WideShapes Go.ChangeAt Go.RowKit Go.Joins Go.Deep Av

theorem Try.own : ownKnob Try.prog.godebug = none := by kernel_rfl
theorem Try.laidOut : laidOutB Try.prog = true := by kernel_rfl

section
variable {H : Type} {enc : TypeId × Value → H} {w : World}

theorem all_below {W W' : World} (hb : Below W.heap.size W W') : ∀ (ts : List TypeId) (vs : List Value) (ds : List (DataW H)) (ps : List MemPlace), (∀ t ∈ ts, Try.prog.readableRec t = true ∧ t < Try.prog.types.size) →
  DataW.TrodAll enc Try.prog W 0 (fun _ => true) true ts vs ds ps → (∀ x ∈ ps, x.block < W.heap.size) → DataW.TrodAll enc Try.prog W' 0 (fun b => decide (b < W.heap.size)) true ts vs ds ps
 | [], vs, ds, ps, _, h, _ => by
  obtain ⟨rfl, rfl, rfl⟩ := trodAll_nil h
  exact trodAll_mk0
 | t :: ts, vs, ds, ps, hr, h, hlt => by
  obtain ⟨v, vs', d, ds', p, q, rfl, rfl, rfl, h1, h2⟩ := trodAll_cons h
  obtain ⟨r1, r2⟩ := hr t (by simp)
  exact trodAll_cons_mk (Below.trod Try.laidOut r1 r2 h1 hb (fun x hx => hlt x (by simp [hx]))) (all_below hb ts vs' ds' q (fun t' ht' => hr t' (by simp [ht'])) h2 (fun x hx => hlt x (by simp [hx])))

theorem law_post {f : Func} {s : ChangeSpec} {W W' : World} {args : Array Value} {ds gs : List (DataW H)} {before : List MemPlace} (hW : DataW.Whole enc Try.prog f.params.toList s.vars false W args.toList ds gs before)
  (hv : s.vars = []) (hres : (s.fn H (ds ++ [])).results = [.lit (.bool true)]) (hargs : (s.fn H (ds ++ [])).args = ds) (hvs : (s.fn H (ds ++ [])).vars = []) (hR : f.resultTypes = #[4])
  (hr : ∀ t ∈ f.params.toList, Try.prog.readableRec t = true ∧ t < Try.prog.types.size) (hb : Below W.heap.size W W') :
  s.post enc Try.prog f false true false false W args (.bool true) W' := by
 have hlt := hW.lt
 have hW' := hW
 obtain ⟨p, q, hA, hV, rfl, _, _⟩ := hW
 rw [hv] at hV
 obtain ⟨rfl, rfl⟩ := trodVars_none hV
 refine ⟨ds, [], p ++ [], [], p, [], hW', ?_, ?_, ?_, hb.frame _, fun h => by cases h⟩
 ·rw [hres, hR]
  exact trodAll_mk1 (shut_bool Try.underlying4 true)
 ·rw [hargs]
  exact all_below hb _ _ _ _ hr hA (fun x hx => hlt x (by simp [hx]))
 ·rw [hv, hvs]
  exact rfl


theorem trodAll_len {W : World} {base : Nat} {spare : Nat → Bool} {held : Bool} : ∀ {ts : List TypeId} {vs : List Value} {ds : List (DataW H)} {ps : List MemPlace}, DataW.TrodAll enc Try.prog W base spare held ts vs ds ps → ds.length = ts.length
 | [], vs, ds, ps, h => by
  obtain ⟨rfl, rfl, rfl⟩ := trodAll_nil h
  rfl
 | t :: ts, vs, ds, ps, h => by
  obtain ⟨v, vs', D, ds', p, q, rfl, rfl, rfl, h1, h2⟩ := trodAll_cons h
  simp only [List.length_cons, trodAll_len h2]
theorem arr_get {α : Type} {a : Array α} {j : Nat} {x : α} (h : a.toList[j]? = some x) : a[j]? = some x := by simpa using h
end
end Go.Proofs.Ytbbklijmnknmhaa
