/-
  A call of a model and of the reference, whose states are any; where both are the same, so are the answers.
  Whether calls are more than is looked at; whether two lists of handles are the same.
  What calls lead to; the law of plays.
-/
import Derived.Test.YtbbklijmnknmhaaYx
import Derived.Test.YtbbklijmnknmhaaYr
import Derived.Test.YtbbklijmnknmhaaBx1
namespace Go.Proofs.Ytbbklijmnknmhaa
open Av Bk

set_option maxRecDepth 100000 in
theorem fnOk_doC : FnOk Try.prog 35 Try.f35 := ⟨by rfl, by kernel_rfl, by
 show okCode _ _ = true ∧ drawsOk _ = true
 exact ⟨by kernel_rfl, by kernel_rfl⟩⟩
def PM.step (p : PM) (kd : Int) (key val lo hi : ByteArray) (bd : Bool) (i g : Int) (ws : List wrT.El) : PM :=
 if kd = 1 then p.writeN [(key, val, false, ())] else if kd = 2 then p.writeN [(key, ⟨#[]⟩, true, ())] else if kd = 3 then p.writeN ws
 else if kd = 8 then p.pinN else if kd = 9 then p.unpinN i g else if kd = 10 then p.openN i g lo hi bd else if kd = 11 then p.nextN i g else if kd = 12 then p.prevN i g else if kd = 13 then p.shutN i g else p
theorem wf_step {k : Nat} {p : PM} (h : Wf k p) (kd : Int) (key val lo hi : ByteArray) (bd : Bool) (i g : Int) (ws : List wrT.El) : Wf (k + 1) (p.step kd key val lo hi bd i g ws) := by
 unfold PM.step
 repeat' split
 ·exact wf_up (wf_write h _)
 ·exact wf_up (wf_write h _)
 ·exact wf_up (wf_write h _)
 ·exact wf_pin h
 ·exact wf_up (wf_unpin h _ _)
 ·exact wf_open h _ _ _ _ _
 ·exact wf_up (wf_next h _ _)
 ·exact wf_up (wf_prev h _ _)
 ·exact wf_up (wf_shut h _ _)
 ·exact wf_up h
abbrev DH (hx hy : List pairT.El) (m0 : List (Nat × List pairT.El)) (m1 : List (Nat × cuT.El)) (gP : Nat) (P : List slT.El) (gC : Nat) (C : List scT.El) (gQ : Nat) (Q : List rsT.El) (gD : Nat) (D : List rsT.El) : Hp :=
 [.oth (.bxs 22 (.sl pairT) m0), .oth (.bxs 109 cuT m1), .cells 88 [.bool true, .lst pairT hx, .own 4 gP P.length, .own 5 gC C.length], .cells 106 [.lst pairT hy, .own 6 gQ Q.length, .own 7 gD D.length], .arr 133 slT P false gP, .arr 136 scT C false gC, .arr 128 rsT Q false gQ, .arr 128 rsT D false gD]
inductive doP (ys : List AV) (h : Hp) (K : AV → Hp → Prop) : Prop where
 | mk (px py : PM) (k : Nat) (kd gr : Int) (key val lo hi : ByteArray) (bd : Bool) (i g oi og : Int) (ws : List wrT.El)
  (m0 : List (Nat × List pairT.El)) (m1 : List (Nat × cuT.El)) (gP : Nat) (P : List slT.El) (gC : Nat) (C : List scT.El) (gQ : Nat) (Q : List rsT.El) (gD : Nat) (D : List rsT.El)
  (hy : ys = [.ptr 2 0, .ptr 3 0, .agg [.int .i64 kd, .int .i64 gr, .str key, .str val, .str lo, .str hi, .bool bd, .int .i64 i, .int .i64 g, .int .i64 oi, .int .i64 og, .lst wrT ws]])
  (hh : h = DH px.hd py.hd m0 m1 gP P gC C gQ Q gD D) (hwx : Wf k px) (hwy : Wf k py) (hk : k ≤ 1000000) (hws : ws.length ≤ 1000000) (hrx : XRel px m0 m1 P C) (hry : YRel py Q D)
  (hK : ∀ b m0' m1' gP' P' gC' C' gQ' Q' gD' D', (px = py → b = true) → XRel (px.step kd key val lo hi bd i g ws) m0' m1' P' C' → YRel (py.step kd key val lo hi bd i g ws) Q' D' →
   K (.bool b) (DH (px.step kd key val lo hi bd i g ws).hd (py.step kd key val lo hi bd i g ws).hd m0' m1' gP' P' gC' C' gQ' Q' gD' D')) : doP ys h K
def doA : LocA := fun ys h K => doP ys h K
theorem eqH_refl (a b : Int) : eqT (.st [.int .i64, .int .i64]) (a, b, ()) (a, b, ()) = true := by
 show ((a == a) && (b == b)) = true
 rw [beq_self_eq_true, beq_self_eq_true]
 rfl
noncomputable def cxD : Cx := ⟨tb, [], [(18, .d spSameP)]⟩
theorem specsD : SpecsOk Try.prog cxD.specs := .cons same05_ok .nil
def locD : List (FuncId × LocA) := [(43, xWriteA), (40, xMapA), (47, xPinA), (48, xUnpinA), (41, xOpenA), (44, xNextA), (45, xPrevA), (46, xShutA), (36, xLiveA), (63, yWriteA), (70, yMapA), (64, yPinA), (65, yUnpinA), (66, yOpenA), (67, yNextA), (68, yPrevA), (69, yShutA), (37, yLiveA)]
theorem locDok : LocsOk Try.prog locD := .cons xWrite_ok (.cons xMap_ok (.cons xPin_ok (.cons xUnpin_ok (.cons xOpen_ok (.cons xNext_ok (.cons xPrev_ok (.cons xShut_ok (.cons xLive_ok (.cons yWrite_ok (.cons yMap_ok (.cons yPin_ok (.cons yUnpin_ok (.cons yOpen_ok (.cons yNext_ok (.cons yPrev_ok (.cons yShut_ok (.cons yLive_ok (.nil))))))))))))))))))
theorem callD : CallOk Try.prog (callM cxD locD 2) := callM_ok mixed tbOk specsD FnsOk.nil locDok 2
set_option maxRecDepth 100000 in
set_option maxHeartbeats 4000000 in
theorem do_ok : LocOk Try.prog 35 doA := by
 refine loc_body (C := cxD) mixed tbOk specsD callD fnOk_doC ?_
 rintro ys h0 K ⟨px, py, k, kd, gr, key, val, lo, hi, bd, i, g, oi, og, ws, m0, m1, gP, P, gC, C, gQ, Q, gD, D, rfl, rfl, hwx, hwy, hk, hws, hrx, hry, hK⟩
 by_cases k1 : kd = 1
 ·subst k1
  have es : ∀ p : PM, p.step 1 key val lo hi bd i g ws = p.writeN [(key, val, false, ())] := fun p => rfl
  simp only [es] at hK
  conv => whnf
  repeat' first | ((first | refine auIk ?_ | refine auIi ?_ | refine auT ?_ | refine auF ?_ | with_reducible first | refine auKt ?_ | refine auKf ?_ | refine auNt ?_ | refine auNf ?_ | refine auEt ?_ | refine auEf ?_); conv => whnf) | ((with_reducible first | refine br_dec ?_ ?_ | refine br_ndec ?_ ?_ | refine br_ne ?_ ?_ | refine br_eq ?_ ?_) <;> intro h <;> first | (exfalso; omega) | conv => whnf) | (refine br_intro ?_ ?_ <;> intro h <;> conv => whnf) | ((first | refine auNd ?_ | refine idx_nat (by omega) (fun x hx => ?_) | refine frz_auto ?_ | refine auIx (fun x hx => ?_)); conv => whnf) | (refine both.mk ?_ ?_ <;> conv => whnf) | ((first | refine bx_idx ?_ | refine bx_intro (fun b hb => ?_)); conv => whnf)
  refine .mk [.lst 7 wrT] ?_
  conv => whnf
  repeat' first | ((first | refine auTq ?_ | refine auFq ?_ | first | (refine frP.mk [0, 1, 2, 4, 5] ?_; (conv => whnf); refine ⟨[(key, val, false, ())], by simp, xP.mk px k _ _ _ _ _ _ rfl rfl hwx hk hrx ?_⟩; rintro _ _ _ _ _ _ hx9) | (refine frP.mk [3, 6, 7] ?_; (conv => whnf); refine ⟨[(key, val, false, ())], by simp, yP.mk py k _ _ _ _ rfl rfl hwy hk hry ?_⟩; rintro _ _ _ _ hy9) | refine auIk ?_ | refine auIi ?_ | refine auT ?_ | refine auF ?_ | with_reducible first | refine auKt ?_ | refine auKf ?_ | refine auNt ?_ | refine auNf ?_ | refine auEt ?_ | refine auEf ?_); conv => whnf) | ((with_reducible first | refine br_dec ?_ ?_ | refine br_ndec ?_ ?_ | refine br_ne ?_ ?_ | refine br_eq ?_ ?_) <;> intro h <;> first | (exfalso; omega) | conv => whnf) | (refine br_intro ?_ ?_ <;> intro h <;> conv => whnf) | ((first | refine auNd ?_ | refine idx_nat (by omega) (fun x hx => ?_) | refine frz_auto ?_ | refine draw_plain ?_ | refine auIx (fun x hx => ?_)); conv => whnf) | (refine both.mk ?_ ?_ <;> conv => whnf) | ((first | refine bx_idx ?_ | refine bx_intro (fun b hb => ?_)); conv => whnf)
  all_goals
   refine exA [0, 1, 2, 3, 4, 5, 6, 7] ?_
   conv => whnf
   refine hK _ _ _ _ _ _ _ _ _ _ _ ?_ hx9 hy9
   intro hpp
   subst hpp
   first
    | rfl
    | exact beq_self_eq_true _
    | exact decide_eq_true rfl
    | (exfalso; rw [eqH_refl] at h; cases h; done)
    | (exfalso; rw [eqP_refl] at h; cases h; done)
    | (exfalso; rw [sameP_refl] at h; cases h; done)
    | (simp; done)
 by_cases k2 : kd = 2
 ·subst k2
  have es : ∀ p : PM, p.step 2 key val lo hi bd i g ws = p.writeN [(key, ⟨#[]⟩, true, ())] := fun p => rfl
  simp only [es] at hK
  conv => whnf
  repeat' first | ((first | refine auIk ?_ | refine auIi ?_ | refine auT ?_ | refine auF ?_ | with_reducible first | refine auKt ?_ | refine auKf ?_ | refine auNt ?_ | refine auNf ?_ | refine auEt ?_ | refine auEf ?_); conv => whnf) | ((with_reducible first | refine br_dec ?_ ?_ | refine br_ndec ?_ ?_ | refine br_ne ?_ ?_ | refine br_eq ?_ ?_) <;> intro h <;> first | (exfalso; omega) | conv => whnf) | (refine br_intro ?_ ?_ <;> intro h <;> conv => whnf) | ((first | refine auNd ?_ | refine idx_nat (by omega) (fun x hx => ?_) | refine frz_auto ?_ | refine auIx (fun x hx => ?_)); conv => whnf) | (refine both.mk ?_ ?_ <;> conv => whnf) | ((first | refine bx_idx ?_ | refine bx_intro (fun b hb => ?_)); conv => whnf)
  refine .mk [.lst 8 wrT] ?_
  conv => whnf
  repeat' first | ((first | refine auTq ?_ | refine auFq ?_ | first | (refine frP.mk [0, 1, 2, 4, 5] ?_; (conv => whnf); refine ⟨[(key, ⟨#[]⟩, true, ())], by simp, xP.mk px k _ _ _ _ _ _ rfl rfl hwx hk hrx ?_⟩; rintro _ _ _ _ _ _ hx9) | (refine frP.mk [3, 6, 7] ?_; (conv => whnf); refine ⟨[(key, ⟨#[]⟩, true, ())], by simp, yP.mk py k _ _ _ _ rfl rfl hwy hk hry ?_⟩; rintro _ _ _ _ hy9) | refine auIk ?_ | refine auIi ?_ | refine auT ?_ | refine auF ?_ | with_reducible first | refine auKt ?_ | refine auKf ?_ | refine auNt ?_ | refine auNf ?_ | refine auEt ?_ | refine auEf ?_); conv => whnf) | ((with_reducible first | refine br_dec ?_ ?_ | refine br_ndec ?_ ?_ | refine br_ne ?_ ?_ | refine br_eq ?_ ?_) <;> intro h <;> first | (exfalso; omega) | conv => whnf) | (refine br_intro ?_ ?_ <;> intro h <;> conv => whnf) | ((first | refine auNd ?_ | refine idx_nat (by omega) (fun x hx => ?_) | refine frz_auto ?_ | refine draw_plain ?_ | refine auIx (fun x hx => ?_)); conv => whnf) | (refine both.mk ?_ ?_ <;> conv => whnf) | ((first | refine bx_idx ?_ | refine bx_intro (fun b hb => ?_)); conv => whnf)
  all_goals
   refine exA [0, 1, 2, 3, 4, 5, 6, 7] ?_
   conv => whnf
   refine hK _ _ _ _ _ _ _ _ _ _ _ ?_ hx9 hy9
   intro hpp
   subst hpp
   first
    | rfl
    | exact beq_self_eq_true _
    | exact decide_eq_true rfl
    | (exfalso; rw [eqH_refl] at h; cases h; done)
    | (exfalso; rw [eqP_refl] at h; cases h; done)
    | (exfalso; rw [sameP_refl] at h; cases h; done)
    | (simp; done)
 by_cases k3 : kd = 3
 ·subst k3
  have es : ∀ p : PM, p.step 3 key val lo hi bd i g ws = p.writeN ws := fun p => rfl
  simp only [es] at hK
  conv => whnf
  repeat' first | ((first | refine auTq ?_ | refine auFq ?_ | first | (refine frP.mk [0, 1, 2, 4, 5] ?_; (conv => whnf); refine ⟨ws, hws, xP.mk px k _ _ _ _ _ _ rfl rfl hwx hk hrx ?_⟩; rintro _ _ _ _ _ _ hx9) | (refine frP.mk [3, 6, 7] ?_; (conv => whnf); refine ⟨ws, hws, yP.mk py k _ _ _ _ rfl rfl hwy hk hry ?_⟩; rintro _ _ _ _ hy9) | refine auIk ?_ | refine auIi ?_ | refine auT ?_ | refine auF ?_ | with_reducible first | refine auKt ?_ | refine auKf ?_ | refine auNt ?_ | refine auNf ?_ | refine auEt ?_ | refine auEf ?_); conv => whnf) | ((with_reducible first | refine br_dec ?_ ?_ | refine br_ndec ?_ ?_ | refine br_ne ?_ ?_ | refine br_eq ?_ ?_) <;> intro h <;> first | (exfalso; omega) | conv => whnf) | (refine br_intro ?_ ?_ <;> intro h <;> conv => whnf) | ((first | refine auNd ?_ | refine idx_nat (by omega) (fun x hx => ?_) | refine frz_auto ?_ | refine draw_plain ?_ | refine auIx (fun x hx => ?_)); conv => whnf) | (refine both.mk ?_ ?_ <;> conv => whnf) | ((first | refine bx_idx ?_ | refine bx_intro (fun b hb => ?_)); conv => whnf)
  all_goals
   refine exA [0, 1, 2, 3, 4, 5, 6, 7] ?_
   conv => whnf
   refine hK _ _ _ _ _ _ _ _ _ _ _ ?_ hx9 hy9
   intro hpp
   subst hpp
   first
    | rfl
    | exact beq_self_eq_true _
    | exact decide_eq_true rfl
    | (exfalso; rw [eqH_refl] at h; cases h; done)
    | (exfalso; rw [eqP_refl] at h; cases h; done)
    | (exfalso; rw [sameP_refl] at h; cases h; done)
    | (simp; done)
 by_cases k8 : kd = 8
 ·subst k8
  have es : ∀ p : PM, p.step 8 key val lo hi bd i g ws = p.pinN := fun p => rfl
  simp only [es] at hK
  conv => whnf
  repeat' first | ((first | refine auTq ?_ | refine auFq ?_ | first | (refine frP.mk [0, 1, 2, 4, 5] ?_; (conv => whnf); refine xP.mk px k _ _ _ _ _ _ rfl rfl hwx hk hrx ?_; rintro _ _ _ _ _ _ hx9) | (refine frP.mk [3, 6, 7] ?_; (conv => whnf); refine yP.mk py k _ _ _ _ rfl rfl hwy hk hry ?_; rintro _ _ _ _ hy9) | refine auIk ?_ | refine auIi ?_ | refine auT ?_ | refine auF ?_ | with_reducible first | refine auKt ?_ | refine auKf ?_ | refine auNt ?_ | refine auNf ?_ | refine auEt ?_ | refine auEf ?_); conv => whnf) | ((with_reducible first | refine br_dec ?_ ?_ | refine br_ndec ?_ ?_ | refine br_ne ?_ ?_ | refine br_eq ?_ ?_) <;> intro h <;> first | (exfalso; omega) | conv => whnf) | (refine br_intro ?_ ?_ <;> intro h <;> conv => whnf) | ((first | refine auNd ?_ | refine idx_nat (by omega) (fun x hx => ?_) | refine frz_auto ?_ | refine draw_plain ?_ | refine auIx (fun x hx => ?_)); conv => whnf) | (refine both.mk ?_ ?_ <;> conv => whnf) | ((first | refine bx_idx ?_ | refine bx_intro (fun b hb => ?_)); conv => whnf)
  all_goals
   refine exA [0, 1, 2, 3, 4, 5, 6, 7] ?_
   conv => whnf
   refine hK _ _ _ _ _ _ _ _ _ _ _ ?_ hx9 hy9
   intro hpp
   subst hpp
   first
    | rfl
    | exact beq_self_eq_true _
    | exact decide_eq_true rfl
    | (exfalso; rw [eqH_refl] at h; cases h; done)
    | (exfalso; rw [eqP_refl] at h; cases h; done)
    | (exfalso; rw [sameP_refl] at h; cases h; done)
    | (simp; done)
 by_cases k9 : kd = 9
 ·subst k9
  have es : ∀ p : PM, p.step 9 key val lo hi bd i g ws = p.unpinN i g := fun p => rfl
  simp only [es] at hK
  conv => whnf
  repeat' first | ((first | refine auTq ?_ | refine auFq ?_ | first | (refine frP.mk [0, 1, 2, 4, 5] ?_; (conv => whnf); refine ⟨i, g, xP.mk px k _ _ _ _ _ _ rfl rfl hwx hk hrx ?_⟩; rintro _ _ _ _ _ _ hx9) | (refine frP.mk [3, 6, 7] ?_; (conv => whnf); refine ⟨i, g, yP.mk py k _ _ _ _ rfl rfl hwy hk hry ?_⟩; rintro _ _ _ _ hy9) | refine auIk ?_ | refine auIi ?_ | refine auT ?_ | refine auF ?_ | with_reducible first | refine auKt ?_ | refine auKf ?_ | refine auNt ?_ | refine auNf ?_ | refine auEt ?_ | refine auEf ?_); conv => whnf) | ((with_reducible first | refine br_dec ?_ ?_ | refine br_ndec ?_ ?_ | refine br_ne ?_ ?_ | refine br_eq ?_ ?_) <;> intro h <;> first | (exfalso; omega) | conv => whnf) | (refine br_intro ?_ ?_ <;> intro h <;> conv => whnf) | ((first | refine auNd ?_ | refine idx_nat (by omega) (fun x hx => ?_) | refine frz_auto ?_ | refine draw_plain ?_ | refine auIx (fun x hx => ?_)); conv => whnf) | (refine both.mk ?_ ?_ <;> conv => whnf) | ((first | refine bx_idx ?_ | refine bx_intro (fun b hb => ?_)); conv => whnf)
  all_goals
   refine exA [0, 1, 2, 3, 4, 5, 6, 7] ?_
   conv => whnf
   refine hK _ _ _ _ _ _ _ _ _ _ _ ?_ hx9 hy9
   intro hpp
   subst hpp
   first
    | rfl
    | exact beq_self_eq_true _
    | exact decide_eq_true rfl
    | (exfalso; rw [eqH_refl] at h; cases h; done)
    | (exfalso; rw [eqP_refl] at h; cases h; done)
    | (exfalso; rw [sameP_refl] at h; cases h; done)
    | (simp; done)
 by_cases k10 : kd = 10
 ·subst k10
  have es : ∀ p : PM, p.step 10 key val lo hi bd i g ws = p.openN i g lo hi bd := fun p => rfl
  simp only [es] at hK
  conv => whnf
  repeat' first | ((first | refine auTq ?_ | refine auFq ?_ | first | (refine frP.mk [0, 1, 2, 4, 5] ?_; (conv => whnf); refine ⟨i, g, lo, hi, bd, xP.mk px k _ _ _ _ _ _ rfl rfl hwx hk hrx ?_⟩; rintro _ _ _ _ _ _ hx9) | (refine frP.mk [3, 6, 7] ?_; (conv => whnf); refine ⟨i, g, lo, hi, bd, yP.mk py k _ _ _ _ rfl rfl hwy hk hry ?_⟩; rintro _ _ _ _ hy9) | refine auIk ?_ | refine auIi ?_ | refine auT ?_ | refine auF ?_ | with_reducible first | refine auKt ?_ | refine auKf ?_ | refine auNt ?_ | refine auNf ?_ | refine auEt ?_ | refine auEf ?_); conv => whnf) | ((with_reducible first | refine br_dec ?_ ?_ | refine br_ndec ?_ ?_ | refine br_ne ?_ ?_ | refine br_eq ?_ ?_) <;> intro h <;> first | (exfalso; omega) | conv => whnf) | (refine br_intro ?_ ?_ <;> intro h <;> conv => whnf) | ((first | refine auNd ?_ | refine idx_nat (by omega) (fun x hx => ?_) | refine frz_auto ?_ | refine draw_plain ?_ | refine auIx (fun x hx => ?_)); conv => whnf) | (refine both.mk ?_ ?_ <;> conv => whnf) | ((first | refine bx_idx ?_ | refine bx_intro (fun b hb => ?_)); conv => whnf)
  all_goals
   refine exA [0, 1, 2, 3, 4, 5, 6, 7] ?_
   conv => whnf
   refine hK _ _ _ _ _ _ _ _ _ _ _ ?_ hx9 hy9
   intro hpp
   subst hpp
   first
    | rfl
    | exact beq_self_eq_true _
    | exact decide_eq_true rfl
    | (exfalso; rw [eqH_refl] at h; cases h; done)
    | (exfalso; rw [eqP_refl] at h; cases h; done)
    | (exfalso; rw [sameP_refl] at h; cases h; done)
    | (simp; done)
 by_cases k11 : kd = 11
 ·subst k11
  have es : ∀ p : PM, p.step 11 key val lo hi bd i g ws = p.nextN i g := fun p => rfl
  simp only [es] at hK
  conv => whnf
  repeat' first | ((first | refine auTq ?_ | refine auFq ?_ | first | (refine frP.mk [0, 1, 2, 4, 5] ?_; (conv => whnf); refine ⟨i, g, xP.mk px k _ _ _ _ _ _ rfl rfl hwx hk hrx ?_⟩; rintro _ _ _ _ _ _ hx9) | (refine frP.mk [3, 6, 7] ?_; (conv => whnf); refine ⟨i, g, yP.mk py k _ _ _ _ rfl rfl hwy hk hry ?_⟩; rintro _ _ _ _ hy9) | refine auIk ?_ | refine auIi ?_ | refine auT ?_ | refine auF ?_ | with_reducible first | refine auKt ?_ | refine auKf ?_ | refine auNt ?_ | refine auNf ?_ | refine auEt ?_ | refine auEf ?_); conv => whnf) | ((with_reducible first | refine br_dec ?_ ?_ | refine br_ndec ?_ ?_ | refine br_ne ?_ ?_ | refine br_eq ?_ ?_) <;> intro h <;> first | (exfalso; omega) | conv => whnf) | (refine br_intro ?_ ?_ <;> intro h <;> conv => whnf) | ((first | refine auNd ?_ | refine idx_nat (by omega) (fun x hx => ?_) | refine frz_auto ?_ | refine draw_plain ?_ | refine auIx (fun x hx => ?_)); conv => whnf) | (refine both.mk ?_ ?_ <;> conv => whnf) | ((first | refine bx_idx ?_ | refine bx_intro (fun b hb => ?_)); conv => whnf)
  all_goals
   refine exA [0, 1, 2, 3, 4, 5, 6, 7] ?_
   conv => whnf
   refine hK _ _ _ _ _ _ _ _ _ _ _ ?_ hx9 hy9
   intro hpp
   subst hpp
   first
    | rfl
    | exact beq_self_eq_true _
    | exact decide_eq_true rfl
    | (exfalso; rw [eqH_refl] at h; cases h; done)
    | (exfalso; rw [eqP_refl] at h; cases h; done)
    | (exfalso; rw [sameP_refl] at h; cases h; done)
    | (simp; done)
 by_cases k12 : kd = 12
 ·subst k12
  have es : ∀ p : PM, p.step 12 key val lo hi bd i g ws = p.prevN i g := fun p => rfl
  simp only [es] at hK
  conv => whnf
  repeat' first | ((first | refine auTq ?_ | refine auFq ?_ | first | (refine frP.mk [0, 1, 2, 4, 5] ?_; (conv => whnf); refine ⟨i, g, xP.mk px k _ _ _ _ _ _ rfl rfl hwx hk hrx ?_⟩; rintro _ _ _ _ _ _ hx9) | (refine frP.mk [3, 6, 7] ?_; (conv => whnf); refine ⟨i, g, yP.mk py k _ _ _ _ rfl rfl hwy hk hry ?_⟩; rintro _ _ _ _ hy9) | refine auIk ?_ | refine auIi ?_ | refine auT ?_ | refine auF ?_ | with_reducible first | refine auKt ?_ | refine auKf ?_ | refine auNt ?_ | refine auNf ?_ | refine auEt ?_ | refine auEf ?_); conv => whnf) | ((with_reducible first | refine br_dec ?_ ?_ | refine br_ndec ?_ ?_ | refine br_ne ?_ ?_ | refine br_eq ?_ ?_) <;> intro h <;> first | (exfalso; omega) | conv => whnf) | (refine br_intro ?_ ?_ <;> intro h <;> conv => whnf) | ((first | refine auNd ?_ | refine idx_nat (by omega) (fun x hx => ?_) | refine frz_auto ?_ | refine draw_plain ?_ | refine auIx (fun x hx => ?_)); conv => whnf) | (refine both.mk ?_ ?_ <;> conv => whnf) | ((first | refine bx_idx ?_ | refine bx_intro (fun b hb => ?_)); conv => whnf)
  all_goals
   refine exA [0, 1, 2, 3, 4, 5, 6, 7] ?_
   conv => whnf
   refine hK _ _ _ _ _ _ _ _ _ _ _ ?_ hx9 hy9
   intro hpp
   subst hpp
   first
    | rfl
    | exact beq_self_eq_true _
    | exact decide_eq_true rfl
    | (exfalso; rw [eqH_refl] at h; cases h; done)
    | (exfalso; rw [eqP_refl] at h; cases h; done)
    | (exfalso; rw [sameP_refl] at h; cases h; done)
    | (simp; done)
 by_cases k13 : kd = 13
 ·subst k13
  have es : ∀ p : PM, p.step 13 key val lo hi bd i g ws = p.shutN i g := fun p => rfl
  simp only [es] at hK
  conv => whnf
  repeat' first | ((first | refine auTq ?_ | refine auFq ?_ | first | (refine frP.mk [0, 1, 2, 4, 5] ?_; (conv => whnf); refine ⟨i, g, xP.mk px k _ _ _ _ _ _ rfl rfl hwx hk hrx ?_⟩; rintro _ _ _ _ _ _ hx9) | (refine frP.mk [3, 6, 7] ?_; (conv => whnf); refine ⟨i, g, yP.mk py k _ _ _ _ rfl rfl hwy hk hry ?_⟩; rintro _ _ _ _ hy9) | refine auIk ?_ | refine auIi ?_ | refine auT ?_ | refine auF ?_ | with_reducible first | refine auKt ?_ | refine auKf ?_ | refine auNt ?_ | refine auNf ?_ | refine auEt ?_ | refine auEf ?_); conv => whnf) | ((with_reducible first | refine br_dec ?_ ?_ | refine br_ndec ?_ ?_ | refine br_ne ?_ ?_ | refine br_eq ?_ ?_) <;> intro h <;> first | (exfalso; omega) | conv => whnf) | (refine br_intro ?_ ?_ <;> intro h <;> conv => whnf) | ((first | refine auNd ?_ | refine idx_nat (by omega) (fun x hx => ?_) | refine frz_auto ?_ | refine draw_plain ?_ | refine auIx (fun x hx => ?_)); conv => whnf) | (refine both.mk ?_ ?_ <;> conv => whnf) | ((first | refine bx_idx ?_ | refine bx_intro (fun b hb => ?_)); conv => whnf)
  all_goals
   refine exA [0, 1, 2, 3, 4, 5, 6, 7] ?_
   conv => whnf
   refine hK _ _ _ _ _ _ _ _ _ _ _ ?_ hx9 hy9
   intro hpp
   subst hpp
   first
    | rfl
    | exact beq_self_eq_true _
    | exact decide_eq_true rfl
    | (exfalso; rw [eqH_refl] at h; cases h; done)
    | (exfalso; rw [eqP_refl] at h; cases h; done)
    | (exfalso; rw [sameP_refl] at h; cases h; done)
    | (simp; done)
 have es : ∀ p : PM, p.step kd key val lo hi bd i g ws = p := fun p => by
  unfold PM.step
  rw [if_neg k1, if_neg k2, if_neg k3, if_neg k8, if_neg k9, if_neg k10, if_neg k11, if_neg k12, if_neg k13]
 simp only [es] at hK
 have hm1 : (px.mapR i g).1.length ≤ 4611686018427387904 := Nat.le_trans (mapR_fit hwx i g).len (by decide)
 conv => whnf
 repeat' first | ((first | refine auTq ?_ | refine auFq ?_ | first | (refine frP.mk [0, 1, 2, 4, 5] ?_; (conv => whnf); refine ⟨i, g, xP.mk px k _ _ _ _ _ _ rfl rfl hwx hk hrx ?_⟩; rintro _ _ _ _ _ _ hx9) | (refine frP.mk [3, 6, 7] ?_; (conv => whnf); refine ⟨i, g, yP.mk py k _ _ _ _ rfl rfl hwy hk hry ?_⟩; rintro _ _ _ _ hy9) | refine auIk ?_ | refine auIi ?_ | refine auT ?_ | refine auF ?_ | with_reducible first | refine auKt ?_ | refine auKf ?_ | refine auNt ?_ | refine auNf ?_ | refine auEt ?_ | refine auEf ?_); conv => whnf) | ((with_reducible first | refine br_dec ?_ ?_ | refine br_ndec ?_ ?_ | refine br_ne ?_ ?_ | refine br_eq ?_ ?_) <;> intro h <;> first | (exfalso; omega) | conv => whnf) | (refine br_intro ?_ ?_ <;> intro h <;> conv => whnf) | ((first | refine auNd ?_ | refine idx_nat (by omega) (fun x hx => ?_) | refine frz_auto ?_ | refine draw_plain ?_ | refine auIx (fun x hx => ?_)); conv => whnf) | (refine both.mk ?_ ?_ <;> conv => whnf) | ((first | refine bx_idx ?_ | refine bx_intro (fun b hb => ?_)); conv => whnf)
 all_goals
  refine exA [0, 1, 2, 3, 4, 5, 6, 7] ?_
  conv => whnf
  refine hK _ _ _ _ _ _ _ _ _ _ _ ?_ hx9 hy9
  intro hpp
  subst hpp
  first
   | rfl
   | exact beq_self_eq_true _
   | exact decide_eq_true rfl
   | (exfalso; rw [eqH_refl] at h; cases h; done)
   | (exfalso; rw [eqP_refl] at h; cases h; done)
   | (exfalso; rw [sameP_refl] at h; cases h; done)
   | (simp; done)
end Go.Proofs.Ytbbklijmnknmhaa
namespace Go.Proofs.Ytbbklijmnknmhaa
open Av Bk

abbrev clT : Ty := .st [.int .i64, .int .i64, .str, .str, .st [.str, .str, .bool], .st [.int .i64, .int .i64], .st [.int .i64, .int .i64], .sl wrT]
abbrev clW (x : clT.El) : List wrT.El := x.2.2.2.2.2.2.2.1
def bigC (x : clT.El) : Bool := decide (200 < (x.2.2.1.size : Int)) || (decide (200 < (x.2.2.2.1.size : Int)) || (decide (200 < (x.2.2.2.2.1.1.size : Int)) || (decide (200 < (x.2.2.2.2.1.2.1.size : Int)) || wideW (clW x))))
def manyL (l : List clT.El) : Bool := if 120 < (l.length : Int) then true else l.any bigC
def spMany : DSpec
 | [.lst (.st [.int .i64, .int .i64, .str, .str, .st [.str, .str, .bool], .st [.int .i64, .int .i64], .st [.int .i64, .int .i64], .sl (.st [.str, .str, .bool])]) l] => some (True, .bool (manyL l))
 | _ => none
set_option maxRecDepth 100000 in
theorem fnOk_manyC : FnOk Try.prog 32 Try.f32 := ⟨by rfl, by kernel_rfl, by
 show okCode _ _ = true ∧ drawsOk _ = true
 exact ⟨by kernel_rfl, by kernel_rfl⟩⟩
noncomputable def cxza : Cx := ⟨tb, [], [(12, .d spWd5)]⟩
theorem specsza : SpecsOk Try.prog cxza.specs := .cons wide5_ok .nil
set_option maxRecDepth 100000 in
set_option maxHeartbeats 4000000 in
theorem manyC_ok : SpecOk Try.prog 32 spMany := by
  refine spec_body (C := cxza) mixed tbOk specsza (callN_ok (C := cxza) mixed tbOk specsza FnsOk.nil 0) fnOk_manyC ?_
  intro ys p r h hp
  unfold spMany at h
  split at h
  · rename_i l
    cases h
    by_cases ho : 120 < (l.length : Int)
    · have hF : manyL l = true := by unfold manyL; rw [if_pos ho]
      conv => whnf
      repeat' first | ((first | refine auTq ?_ | refine auFq ?_ | refine auIk ?_ | refine auIi ?_ | refine auT ?_ | refine auF ?_ | with_reducible first | refine auKt ?_ | refine auKf ?_ | refine auNt ?_ | refine auNf ?_ | refine auEt ?_ | refine auEf ?_); conv => whnf) | ((with_reducible first | refine br_dec ?_ ?_ | refine br_ndec ?_ ?_ | refine br_ne ?_ ?_ | refine br_eq ?_ ?_) <;> intro h <;> first | (exfalso; omega) | conv => whnf) | (refine br_intro ?_ ?_ <;> intro h <;> conv => whnf) | ((first | refine auNd ?_ | refine idx_nat (by omega) (fun x hx => ?_) | refine frz_auto ?_ | refine draw_plain ?_ | refine auIx (fun x hx => ?_)); conv => whnf)
      all_goals first | (rw [hF]; done) | (exfalso; omega) | skip
    · have hF : manyL l = l.any bigC := by unfold manyL; rw [if_neg ho]
      conv => whnf
      repeat' first | ((first | refine auTq ?_ | refine auFq ?_ | refine auIk ?_ | refine auIi ?_ | refine auT ?_ | refine auF ?_ | with_reducible first | refine auKt ?_ | refine auKf ?_ | refine auNt ?_ | refine auNf ?_ | refine auEt ?_ | refine auEf ?_); conv => whnf) | ((with_reducible first | refine br_dec ?_ ?_ | refine br_ndec ?_ ?_ | refine br_ne ?_ ?_ | refine br_eq ?_ ?_) <;> intro h <;> first | (exfalso; omega) | conv => whnf) | (refine br_intro ?_ ?_ <;> intro h <;> conv => whnf) | ((first | refine auNd ?_ | refine idx_nat (by omega) (fun x hx => ?_) | refine frz_auto ?_ | refine draw_plain ?_ | refine auIx (fun x hx => ?_)); conv => whnf)
      refine loop_inv [] [3] (fun vs h => ∃ i : Nat, vs = [.int .i64 (i : Int)] ∧ h = [] ∧ i ≤ l.length ∧ ∀ y ∈ l.take i, bigC y = false) (fun vs _ => match vs with | [.int _ k] => l.length - k.toNat | _ => 0) ?_
      conv => whnf
      refine ⟨⟨0, rfl, rfl, by omega, by simp⟩, ?_⟩
      rintro vs h' - ⟨i, rfl, rfl, hi, hall⟩
      by_cases hil : i < l.length
      · obtain ⟨x, hx⟩ : ∃ x, l[i]? = some x := ⟨_, List.getElem?_eq_getElem hil⟩
        conv => whnf
        repeat' first | ((first | refine auTq ?_ | refine auFq ?_ | refine auIk ?_ | refine auIi ?_ | refine auT ?_ | refine auF ?_ | with_reducible first | refine auKt ?_ | refine auKf ?_ | refine auNt ?_ | refine auNf ?_ | refine auEt ?_ | refine auEf ?_); conv => whnf) | ((with_reducible first | refine br_dec ?_ ?_ | refine br_ndec ?_ ?_ | refine br_ne ?_ ?_ | refine br_eq ?_ ?_) <;> intro h <;> first | (exfalso; omega) | conv => whnf) | (refine br_intro ?_ ?_ <;> intro h <;> conv => whnf) | ((first | refine auNd ?_ | refine idx_nat (by omega) (fun x hx => ?_) | refine frz_auto ?_ | refine draw_plain ?_ | refine auIx (fun x hx => ?_)); conv => whnf)
        all_goals first
          | (rw [hF, any_at hx (by clear hF hall; simp [bigC, *])]; done)
          | (refine back_intro (by conv => whnf) rfl ⟨i + 1, rfl, rfl, by omega, take_succ_all hall hx (by clear hF hall; simp [bigC, *]; done)⟩ ?_
             show l.length - ((i : Int) + 1).toNat < l.length - (i : Int).toNat
             omega)
          | (refine back_intro (by conv => whnf) rfl ⟨i + 1, rfl, rfl, by omega, take_succ_all hall hx (by clear hF hall; simp [bigC, *]; omega)⟩ ?_
             show l.length - ((i : Int) + 1).toNat < l.length - (i : Int).toNat
             omega)
      · conv => whnf
        repeat' first | ((first | refine auTq ?_ | refine auFq ?_ | refine auIk ?_ | refine auIi ?_ | refine auT ?_ | refine auF ?_ | with_reducible first | refine auKt ?_ | refine auKf ?_ | refine auNt ?_ | refine auNf ?_ | refine auEt ?_ | refine auEf ?_); conv => whnf) | ((with_reducible first | refine br_dec ?_ ?_ | refine br_ndec ?_ ?_ | refine br_ne ?_ ?_ | refine br_eq ?_ ?_) <;> intro h <;> first | (exfalso; omega) | conv => whnf) | (refine br_intro ?_ ?_ <;> intro h <;> conv => whnf) | ((first | refine auNd ?_ | refine idx_nat (by omega) (fun x hx => ?_) | refine frz_auto ?_ | refine draw_plain ?_ | refine auIx (fun x hx => ?_)); conv => whnf)
        rw [hF, any_end hall (by omega)]
  · cases h
theorem manyL_len {l : List clT.El} (h : manyL l = false) : l.length ≤ 120 ∧ ∀ x ∈ l, (clW x).length ≤ 12 := by
 unfold manyL at h
 split at h
 ·cases h
 ·rename_i ho
  refine ⟨by omega, fun x hx => ?_⟩
  have h1 := List.any_eq_false.1 h x hx
  have h2 : wideW (clW x) = false := by
   cases hw : wideW (clW x) with
   | false => rfl
   | true => exact absurd (by unfold bigC; rw [hw]; simp) h1
  exact wideW_len h2
end Go.Proofs.Ytbbklijmnknmhaa
namespace Go.Proofs.Ytbbklijmnknmhaa
open Av Bk

set_option maxRecDepth 100000 in
theorem fnOk_builtC : FnOk Try.prog 39 Try.f39 := ⟨by rfl, by kernel_rfl, by
 show okCode _ _ = true ∧ drawsOk _ = true
 exact ⟨by kernel_rfl, by kernel_rfl⟩⟩
set_option maxRecDepth 100000 in
theorem fnOk_rNew5 : FnOk Try.prog 34 Try.f34 := ⟨by rfl, by kernel_rfl, by
 show okCode _ _ = true ∧ drawsOk _ = true
 exact ⟨by kernel_rfl, by kernel_rfl⟩⟩
theorem wf_le {k k' : Nat} {p : PM} (h : Wf k p) (hk : k ≤ k') : Wf k' p :=
 ⟨h.hd, h.pl, h.cl, fun q hq => ⟨(h.pin q hq).1, by have := (h.pin q hq).2.1; omega, (h.pin q hq).2.2⟩, fun q hq => ⟨(h.cur q hq).1, by have := (h.cur q hq).2.1; omega, (h.cur q hq).2.2⟩⟩
def G1 (p : PM) : Prop := ∀ (j : Nat) (g : Int) (m : List pairT.El), p.pins[j]? = some (g, some m) → 1 ≤ g
theorem giveL_at {β : Type} {l : List (Int × Option β)} {x : β} {j : Nat} {g : Int} {m : β} (h : (giveL l x)[j]? = some (g, some m)) : l[j]? = some (g, some m) ∨ (g = 1 ∨ ∃ q ∈ l, g = q.1 + 1) := by
 unfold giveL at h
 split at h
 ·rename_i q hq
  rw [List.getElem?_set] at h
  split at h
  ·split at h
   ·cases h
    exact .inr (.inr ⟨q, List.mem_of_getElem? hq, rfl⟩)
   ·cases h
  ·exact .inl h
 ·split at h
  ·exact .inl h
  ·by_cases e : j < l.length
   ·rw [List.getElem?_append_left e] at h
    exact .inl h
   ·rw [List.getElem?_append_right (by omega)] at h
    cases hi : j - l.length with
    | zero => rw [hi] at h; cases h; exact .inr (.inl rfl)
    | succ n => rw [hi] at h; simp at h
theorem dropL_at {β : Type} {l : List (Int × Option β)} {i g : Int} {j : Nat} {g' : Int} {m : β} (h : (dropL l i g)[j]? = some (g', some m)) : l[j]? = some (g', some m) := by
 unfold dropL at h
 split at h
 ·rw [List.getElem?_set] at h
  split at h
  ·split at h <;> cases h
  ·exact h
 ·exact h
theorem g1_step {k : Nat} {p : PM} (hw : Wf k p) (h : G1 p) (kd : Int) (key val lo hi : ByteArray) (bd : Bool) (i g : Int) (ws : List wrT.El) : G1 (p.step kd key val lo hi bd i g ws) := by
 have hwr : ∀ ws, (p.writeN ws).pins = p.pins := fun ws => by unfold PM.writeN; split <;> rfl
 have ho : (p.openN i g lo hi bd).pins = p.pins := by unfold PM.openN; split <;> rfl
 have hn : (p.nextN i g).pins = p.pins := by unfold PM.nextN; split <;> rfl
 have hp : (p.prevN i g).pins = p.pins := by unfold PM.prevN; split <;> rfl
 intro j g0 m hj
 unfold PM.step at hj
 split at hj
 ·rw [hwr] at hj; exact h j g0 m hj
 split at hj
 ·rw [hwr] at hj; exact h j g0 m hj
 split at hj
 ·rw [hwr] at hj; exact h j g0 m hj
 split at hj
 ·rcases giveL_at hj with hj | hj | ⟨q, hq, hj⟩
  ·exact h j g0 m hj
  ·omega
  ·have := (hw.pin q hq).1
   omega
 split at hj
 ·exact h j g0 m (dropL_at hj)
 split at hj
 ·rw [ho] at hj; exact h j g0 m hj
 split at hj
 ·rw [hn] at hj; exact h j g0 m hj
 split at hj
 ·rw [hp] at hj; exact h j g0 m hj
 split at hj
 ·exact h j g0 m hj
 ·exact h j g0 m hj
theorem g1_new : G1 ⟨[], [], []⟩ := fun j g m h => by simp at h
abbrev HZ (hx hy : List pairT.El) (m0 : List (Nat × List pairT.El)) (m1 : List (Nat × cuT.El)) (gP : Nat) (P : List slT.El) (gC : Nat) (C : List scT.El) (gQ : Nat) (Q : List rsT.El) (gD : Nat) (D : List rsT.El) : Hp :=
 [.oth (.bxs 22 (.sl pairT) m0), .oth (.bxs 109 cuT m1), .cells 88 [.bool true, .lst pairT hx, .own 6 gP P.length, .own 7 gC C.length], .cells 106 [.lst pairT hy, .own 8 gQ Q.length, .own 9 gD D.length], .dead, .dead, .arr 133 slT P false gP, .arr 136 scT C false gC, .arr 128 rsT Q false gQ, .arr 128 rsT D false gD]
def p00 : PM := ⟨[], [], []⟩
theorem xrel_new (m0 : List (Nat × List pairT.El)) (m1 : List (Nat × cuT.El)) : XRel p00 m0 m1 [] [] := ⟨rfl, rfl, fun j x q h => by simp at h, fun j x q h => by simp at h, fun i j x y b h => by simp at h⟩
theorem yrel_new : YRel p00 [] [] := ⟨rfl, rfl, fun j x q h => by simp at h, fun j x q h => by simp at h⟩
noncomputable def cxB : Cx := ⟨tb, [(33, Try.f33), (34, Try.f34)], []⟩
theorem fnsB : FnsOk Try.prog cxB.fns := .cons fnOk_mNew (.cons fnOk_rNew5 .nil)
def locB : List (FuncId × LocA) := [(35, doA)]
theorem locBok : LocsOk Try.prog locB := .cons do_ok .nil
theorem callB : CallOk Try.prog (callM cxB locB 2) := callM_ok mixed tbOk SpecsOk.nil fnsB locBok 2
inductive builtP (ys : List AV) (h : Hp) (K : AV → Hp → Prop) : Prop where
 | mk (l : List clT.El) (m0 : List (Nat × List pairT.El)) (m1 : List (Nat × cuT.El)) (hy : ys = [.lst clT l]) (hh : h = [.oth (.bxs 22 (.sl pairT) m0), .oth (.bxs 109 cuT m1)]) (hl : l.length ≤ 120) (hw : ∀ x ∈ l, (clW x).length ≤ 12)
  (hK : ∀ p m0 m1 gP P gC C, Wf 120 p → G1 p → XRel p m0 m1 P C → K (.ptr 2 0) (XH m0 m1 p.hd gP P gC C)) : builtP ys h K
def builtA : LocA := fun ys h K => builtP ys h K
set_option maxRecDepth 100000 in
set_option maxHeartbeats 4000000 in
theorem built_ok : LocOk Try.prog 39 builtA := by
 refine loc_bodyN (C := cxB) mixed tbOk SpecsOk.nil callB fnOk_builtC ?_
 rintro ys h0 K ⟨l, m0, m1, rfl, rfl, hl, hwl, hK⟩
 conv => whnf
 repeat' first | ((first | refine auTq ?_ | refine auFq ?_ | refine auIk ?_ | refine auIi ?_ | refine auT ?_ | refine auF ?_ | with_reducible first | refine auKt ?_ | refine auKf ?_ | refine auNt ?_ | refine auNf ?_ | refine auEt ?_ | refine auEf ?_); conv => whnf) | ((with_reducible first | refine br_dec ?_ ?_ | refine br_ndec ?_ ?_ | refine br_ne ?_ ?_ | refine br_eq ?_ ?_) <;> intro h <;> first | (exfalso; omega) | conv => whnf) | (refine br_intro ?_ ?_ <;> intro h <;> conv => whnf) | ((first | refine auNd ?_ | refine idx_nat (by omega) (fun x hx => ?_) | refine frz_auto ?_ | refine draw_plain ?_ | refine auIx (fun x hx => ?_)); conv => whnf) | (refine both.mk ?_ ?_ <;> conv => whnf) | ((first | refine bx_idx ?_ | refine bx_intro (fun b hb => ?_)); conv => whnf)
 refine loop_inv [.cell 2 1 50 pairT, .frz 4 [] [(2, 1)], .cell 3 0 50 pairT, .frz 5 [] [(3, 0)], .cell 2 2 133 slT, .cell 2 3 136 scT, .cell 3 1 128 rsT, .cell 3 2 128 rsT] [5] (fun vs h => ∃ (i : Nat) (px py : PM) (m0 : List (Nat × List pairT.El)) (m1 : List (Nat × cuT.El)) (gP : Nat) (P : List slT.El) (gC : Nat) (C : List scT.El) (gQ : Nat) (Q : List rsT.El) (gD : Nat) (D : List rsT.El), vs = [.int .i64 (i : Int)] ∧ h = HZ px.hd py.hd m0 m1 gP P gC C gQ Q gD D ∧ i ≤ l.length ∧ Wf i px ∧ G1 px ∧ Wf i py ∧ XRel px m0 m1 P C ∧ YRel py Q D) (fun vs _ => match vs with | [.int _ k] => l.length - k.toNat | _ => 0) ?_
 conv => whnf
 repeat' first | ((first | refine auTq ?_ | refine auFq ?_ | refine auIk ?_ | refine auIi ?_ | refine auT ?_ | refine auF ?_ | with_reducible first | refine auKt ?_ | refine auKf ?_ | refine auNt ?_ | refine auNf ?_ | refine auEt ?_ | refine auEf ?_); conv => whnf) | ((with_reducible first | refine br_dec ?_ ?_ | refine br_ndec ?_ ?_ | refine br_ne ?_ ?_ | refine br_eq ?_ ?_) <;> intro h <;> first | (exfalso; omega) | conv => whnf) | (refine br_intro ?_ ?_ <;> intro h <;> conv => whnf) | ((first | refine auNd ?_ | refine idx_nat (by omega) (fun x hx => ?_) | refine frz_auto ?_ | refine draw_plain ?_ | refine auIx (fun x hx => ?_)); conv => whnf) | (refine both.mk ?_ ?_ <;> conv => whnf) | ((first | refine bx_idx ?_ | refine bx_intro (fun b hb => ?_)); conv => whnf)
 refine ⟨⟨0, p00, p00, m0, m1, 0, [], 0, [], 0, [], 0, [], rfl, rfl, Nat.zero_le _, wf_new, g1_new, wf_new, xrel_new m0 m1, yrel_new⟩, ?_⟩
 rintro vs h' - ⟨i, px, py, m0, m1, gP, P, gC, C, gQ, Q, gD, D, rfl, rfl, hi, hwx, hgx, hwy, hrx, hry⟩
 by_cases hil : i < l.length
 ·obtain ⟨x, hx⟩ : ∃ x, l[i]? = some x := ⟨_, List.getElem?_eq_getElem hil⟩
  have hws : (clW x).length ≤ 1000000 := Nat.le_trans (hwl x (List.mem_of_getElem? hx)) (by decide)
  conv => whnf
  repeat' first | ((first | refine auTq ?_ | refine auFq ?_ | (refine frP.mk [0, 1, 2, 3, 6, 7, 8, 9] ?_; (conv => whnf); refine doP.mk px py i _ _ _ _ _ _ _ _ _ _ _ _ _ _ _ _ _ _ _ _ _ _ rfl rfl hwx hwy (by omega) hws hrx hry ?_; rintro b _ _ _ _ _ _ _ _ _ _ hb hx9 hy9) | refine auIk ?_ | refine auIi ?_ | refine auT ?_ | refine auF ?_ | with_reducible first | refine auKt ?_ | refine auKf ?_ | refine auNt ?_ | refine auNf ?_ | refine auEt ?_ | refine auEf ?_); conv => whnf) | ((with_reducible first | refine br_dec ?_ ?_ | refine br_ndec ?_ ?_ | refine br_ne ?_ ?_ | refine br_eq ?_ ?_) <;> intro h <;> first | (exfalso; omega) | conv => whnf) | (refine br_intro ?_ ?_ <;> intro h <;> conv => whnf) | ((first | refine auNd ?_ | refine idx_nat (by omega) (fun x hx => ?_) | refine frz_auto ?_ | refine draw_plain ?_ | refine auIx (fun x hx => ?_)); conv => whnf) | (refine both.mk ?_ ?_ <;> conv => whnf) | ((first | refine bx_idx ?_ | refine bx_intro (fun b hb => ?_)); conv => whnf)
  refine back_intro (by conv => whnf) rfl ⟨i + 1, _, _, _, _, _, _, _, _, _, _, _, _, rfl, rfl, by omega, wf_step hwx _ _ _ _ _ _ _ _ _, g1_step hwx hgx _ _ _ _ _ _ _ _ _, wf_step hwy _ _ _ _ _ _ _ _ _, hx9, hy9⟩ ?_
  show l.length - ((i : Int) + 1).toNat < l.length - (i : Int).toNat
  omega
 ·conv => whnf
  repeat' first | ((first | refine auTq ?_ | refine auFq ?_ | refine auIk ?_ | refine auIi ?_ | refine auT ?_ | refine auF ?_ | with_reducible first | refine auKt ?_ | refine auKf ?_ | refine auNt ?_ | refine auNf ?_ | refine auEt ?_ | refine auEf ?_); conv => whnf) | ((with_reducible first | refine br_dec ?_ ?_ | refine br_ndec ?_ ?_ | refine br_ne ?_ ?_ | refine br_eq ?_ ?_) <;> intro h <;> first | (exfalso; omega) | conv => whnf) | (refine br_intro ?_ ?_ <;> intro h <;> conv => whnf) | ((first | refine auNd ?_ | refine idx_nat (by omega) (fun x hx => ?_) | refine frz_auto ?_ | refine draw_plain ?_ | refine auIx (fun x hx => ?_)); conv => whnf) | (refine both.mk ?_ ?_ <;> conv => whnf) | ((first | refine bx_idx ?_ | refine bx_intro (fun b hb => ?_)); conv => whnf)
  refine .mk [0, 1, 2, 6, 7] ?_
  conv => whnf
  exact hK _ _ _ _ _ _ _ (wf_le hwx (by omega)) hgx hrx
end Go.Proofs.Ytbbklijmnknmhaa
