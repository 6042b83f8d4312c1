/-
  The law of pins.
  From a law's contract to its row: every argument reads behind the call as it read before.
-/
import Derived.Test.YtbbklijmnknmhaaYz
import Derived.Test.YtbbklijmnknmhaaRows
import Derived.Test.YtbbklijmnknmhaaUe
import Derived.Test.YtbbklijmnknmhaaE5
import Derived.ProofKit
namespace Go.Proofs.Ytbbklijmnknmhaa
open Av Bk

def Keeps (p q : PM) : Prop := ∀ (j : Nat) (g : Int) (m : List pairT.El), p.pins[j]? = some (g, some m) → q.pins[j]? = some (g, some m)
theorem giveL_keeps {β : Type} {l : List (Int × Option β)} {x : β} {j : Nat} {g : Int} {m : β} (h : l[j]? = some (g, some m)) : (giveL l x)[j]? = some (g, some m) := by
 have hj := (List.getElem?_eq_some_iff.1 h).1
 by_cases hf : freeI l < l.length
 ·obtain ⟨g', hg⟩ := freeI_at hf
  rw [(give_set hg x).1, List.getElem?_set, if_neg]
  ·exact h
  ·rintro rfl
   rw [h] at hg
   cases hg
 ·have hle := freeI_le l
  by_cases h16 : l.length = 16
  ·rw [(give_full (by omega) h16 x).1]; exact h
  ·rw [(give_new (by omega) h16 x).1, List.getElem?_append_left hj]; exact h
theorem keeps_step {p q : PM} (h : Keeps p q) {kd : Int} (hk : kd ≠ 9) (key val lo hi : ByteArray) (bd : Bool) (i g : Int) (ws : List wrT.El) : Keeps p (q.step kd key val lo hi bd i g ws) := by
 have hwr : ∀ ws, (q.writeN ws).pins = q.pins := fun ws => by unfold PM.writeN; split <;> rfl
 have ho : (q.openN i g lo hi bd).pins = q.pins := by unfold PM.openN; split <;> rfl
 have hn : (q.nextN i g).pins = q.pins := by unfold PM.nextN; split <;> rfl
 have hp : (q.prevN i g).pins = q.pins := by unfold PM.prevN; split <;> rfl
 intro j g0 m hj
 have hj := h j g0 m hj
 unfold PM.step
 by_cases k1 : kd = 1
 ·rw [if_pos k1, hwr]; exact hj
 rw [if_neg k1]
 by_cases k2 : kd = 2
 ·rw [if_pos k2, hwr]; exact hj
 rw [if_neg k2]
 by_cases k3 : kd = 3
 ·rw [if_pos k3, hwr]; exact hj
 rw [if_neg k3]
 by_cases k8 : kd = 8
 ·rw [if_pos k8]; exact giveL_keeps hj
 rw [if_neg k8, if_neg hk]
 by_cases k10 : kd = 10
 ·rw [if_pos k10, ho]; exact hj
 rw [if_neg k10]
 by_cases k11 : kd = 11
 ·rw [if_pos k11, hn]; exact hj
 rw [if_neg k11]
 by_cases k12 : kd = 12
 ·rw [if_pos k12, hp]; exact hj
 rw [if_neg k12]
 by_cases k13 : kd = 13
 ·rw [if_pos k13]; exact hj
 ·rw [if_neg k13]; exact hj
theorem live_mem {β : Type} : ∀ {l : List (Int × Option β)} {n : Nat} {h : Int × Int × Unit}, h ∈ liveGo n l → ∃ (j : Nat) (x : β), h.1 = ((n + j : Nat) : Int) + 1 ∧ l[j]? = some (h.2.1, some x)
 | [], n, h, hm => by simp [liveGo] at hm
 | q :: l, n, h, hm => by
  simp only [liveGo] at hm
  obtain ⟨g, o⟩ := q
  cases o with
  | none =>
   obtain ⟨j, x, h1, h2⟩ := live_mem (n := n + 1) (h := h) hm
   exact ⟨j + 1, x, by rw [h1]; omega, h2⟩
  | some x =>
   rcases List.mem_cons.1 hm with rfl | hm
   ·exact ⟨0, x, rfl, rfl⟩
   ·obtain ⟨j, x, h1, h2⟩ := live_mem (n := n + 1) (h := h) hm
    exact ⟨j + 1, x, by rw [h1]; omega, h2⟩
theorem isHd_pos {i g : Int} (h : 1 ≤ i) : isHd i g = false := by
 show ((i == 0) && (g == 0)) = false
 have : (i == 0) = false := by rw [beq_eq_false_iff_ne]; omega
 rw [this]
 rfl
theorem live_map {p q : PM} (hG : G1 p) (hK : Keeps p q) {h : Int × Int × Unit} (hm : h ∈ liveGo 0 p.pins) : (q.mapR h.1 h.2.1).2 = 0 ∧ (q.mapR h.1 h.2.1).1 = (p.mapR h.1 h.2.1).1 := by
 obtain ⟨j, x, h1, h2⟩ := live_mem hm
 have hg := hG j _ _ h2
 have h1 : h.1 = (j : Int) + 1 := by rw [h1]; omega
 have key : ∀ r : PM, r.pins[j]? = some (h.2.1, some x) → r.mapR h.1 h.2.1 = (x, 0) := by
  intro r hr
  have hj := (List.getElem?_eq_some_iff.1 hr).1
  have hr' : r.pins[(h.1 - 1).toNat]? = some (h.2.1, some x) := by rw [h1, show ((j : Int) + 1 - 1).toNat = j by omega]; exact hr
  have he : lookE r.pins h.1 h.2.1 = 0 := by
   rw [lookE_at (by omega) (by omega) hr', if_neg (by omega), if_neg]
   rintro (h | h)
   ·omega
   ·cases h
  unfold PM.mapR
  rw [if_neg (by rw [isHd_pos (by omega)]; decide), if_pos he, lookV_at hr']
  rfl
 rw [key q (hK j _ _ h2), key p h2]
 exact ⟨rfl, rfl⟩
theorem keeps_refl (p : PM) : Keeps p p := fun _ _ _ h => h
abbrev befR (p : PM) (l : List hanT.El) : List (List pairT.El) := l.map fun h => (p.mapR h.1 h.2.1).1
theorem bef_take {p : PM} {l : List hanT.El} {i : Nat} {h : hanT.El} (hx : l[i]? = some h) : befR p (l.take (i + 1)) = befR p (l.take i) ++ [(p.mapR h.1 h.2.1).1] := by
 unfold befR
 rw [List.take_add_one, hx, List.map_append]
 rfl
set_option maxRecDepth 100000 in
theorem fnOk_lPi : FnOk Try.prog 8 Try.f8 := ⟨by rfl, by kernel_rfl, by
 show okCode _ _ = true ∧ drawsOk _ = true
 exact ⟨by kernel_rfl, by kernel_rfl⟩⟩
noncomputable def lPi_C : Cx := ⟨tb, [(34, Try.f34)], [(13, .d spAw5), (32, .d spMany), (18, .d spSameP)]⟩
theorem lPi_D : SpecsOk Try.prog lPi_C.specs := .cons awake5_ok (.cons manyC_ok (.cons same05_ok .nil))
theorem lPi_F : FnsOk Try.prog lPi_C.fns := .cons fnOk_rNew5 .nil
def lPi_L : List (FuncId × LocA) := [(39, builtA), (35, doA), (36, xLiveA), (40, xMapA)]
theorem lPi_Lk : LocsOk Try.prog lPi_L := .cons built_ok (.cons do_ok (.cons xLive_ok (.cons xMap_ok .nil)))
abbrev lPi_T : List Ty := [.sl clT, .sl clT]
abbrev lPi_FN := fnOk_lPi
set_option maxRecDepth 100000 in
set_option maxHeartbeats 4000000 in
theorem lPi : ∀ es : Ty.Els lPi_T, tyOks lPi_T es → bodyA lPi_C (callM lPi_C lPi_L 2) Try.f8 (avTs lPi_T es) B5 (fun v _ => v = .bool true) := by
 rintro ⟨l, l2, _⟩ -
 show bodyA _ _ _ [.lst clT l, .lst clT l2] B5 _
 cases hF : manyL l with
 | true =>
  conv => whnf
  repeat' first | ((first | refine auTq ?_ | refine auFq ?_ | refine auIk ?_ | refine auIi ?_ | refine auT ?_ | refine auF ?_ | with_reducible first | refine auKt ?_ | refine auKf ?_ | refine auNt ?_ | refine auNf ?_ | refine auEt ?_ | refine auEf ?_); conv => whnf) | ((with_reducible first | refine br_dec ?_ ?_ | refine br_ndec ?_ ?_ | refine br_ne ?_ ?_ | refine br_eq ?_ ?_) <;> intro h <;> first | (exfalso; omega) | conv => whnf) | (refine br_intro ?_ ?_ <;> intro h <;> conv => whnf) | ((first | refine auNd ?_ | refine idx_nat (by omega) (fun x hx => ?_) | refine frz_auto ?_ | refine draw_plain ?_ | refine auIx (fun x hx => ?_)); conv => whnf) | (refine both.mk ?_ ?_ <;> conv => whnf) | ((first | refine bx_idx ?_ | refine bx_intro (fun b hb => ?_)); conv => whnf)
 | false =>
  cases hF2 : manyL l2 with
  | true =>
   conv => whnf
   repeat' first | ((first | refine auTq ?_ | refine auFq ?_ | refine auIk ?_ | refine auIi ?_ | refine auT ?_ | refine auF ?_ | with_reducible first | refine auKt ?_ | refine auKf ?_ | refine auNt ?_ | refine auNf ?_ | refine auEt ?_ | refine auEf ?_); conv => whnf) | ((with_reducible first | refine br_dec ?_ ?_ | refine br_ndec ?_ ?_ | refine br_ne ?_ ?_ | refine br_eq ?_ ?_) <;> intro h <;> first | (exfalso; omega) | conv => whnf) | (refine br_intro ?_ ?_ <;> intro h <;> conv => whnf) | ((first | refine auNd ?_ | refine idx_nat (by omega) (fun x hx => ?_) | refine frz_auto ?_ | refine draw_plain ?_ | refine auIx (fun x hx => ?_)); conv => whnf) | (refine both.mk ?_ ?_ <;> conv => whnf) | ((first | refine bx_idx ?_ | refine bx_intro (fun b hb => ?_)); conv => whnf)
  | false =>
   obtain ⟨hl, hwl⟩ := manyL_len hF
   obtain ⟨hl2, hwl2⟩ := manyL_len hF2
   conv => whnf
   repeat' first | ((first | refine auTq ?_ | refine auFq ?_ | first | (refine frP.mk [0, 1] ?_; (conv => whnf); refine builtP.mk l [] [] rfl rfl hl hwl ?_; rintro p m0 m1 gP P gC C hw hG hrx) | (refine frP.mk [0, 1, 2, 3, 4] ?_; (conv => whnf); refine xP.mk p 120 _ _ _ _ _ _ rfl rfl hw (by decide) hrx ?_; rintro m0 m1 gP P gC C hrx) | refine auIk ?_ | refine auIi ?_ | refine auT ?_ | refine auF ?_ | with_reducible first | refine auKt ?_ | refine auKf ?_ | refine auNt ?_ | refine auNf ?_ | refine auEt ?_ | refine auEf ?_); conv => whnf) | ((with_reducible first | refine br_dec ?_ ?_ | refine br_ndec ?_ ?_ | refine br_ne ?_ ?_ | refine br_eq ?_ ?_) <;> intro h <;> first | (exfalso; omega) | conv => whnf) | (refine br_intro ?_ ?_ <;> intro h <;> conv => whnf) | ((first | refine auNd ?_ | refine idx_nat (by omega) (fun x hx => ?_) | refine frz_auto ?_ | refine draw_plain ?_ | refine auIx (fun x hx => ?_)); conv => whnf) | (refine both.mk ?_ ?_ <;> conv => whnf) | ((first | refine bx_idx ?_ | refine bx_intro (fun b hb => ?_)); conv => whnf)
   have hpl := liveGo_len p.pins 0
   have hpl16 := hw.pl
   refine loop_inv [] [8, 9] (fun vs h => ∃ (i gn n : Nat) (o : List (List pairT.El)) (m0 : List (Nat × List pairT.El)) (m1 : List (Nat × cuT.El)) (gP : Nat) (P : List slT.El) (gC : Nat) (C : List scT.El), vs = [.own 5 gn n, .int .i64 (i : Int)] ∧ h = XH m0 m1 p.hd gP P gC C ++ [.arr 22 (.sl pairT) o false gn] ∧ i ≤ (liveGo 0 p.pins).length ∧ o = befR p ((liveGo 0 p.pins).take i) ∧ n = o.length ∧ XRel p m0 m1 P C) (fun vs _ => match vs with | [_, .int _ k] => (liveGo 0 p.pins).length - k.toNat | _ => 0) ?_
   conv => whnf
   refine ⟨⟨0, 0, 0, [], m0, m1, gP, P, gC, C, rfl, rfl, Nat.zero_le _, rfl, rfl, hrx⟩, ?_⟩
   rintro vs h' - ⟨i, gn, n, o, m0, m1, gP, P, gC, C, rfl, rfl, hi, ho, rfl, hrx⟩
   have hol : o.length ≤ 16 := by rw [ho]; unfold befR; rw [List.length_map, List.length_take]; omega
   by_cases hil : i < (liveGo 0 p.pins).length
   ·obtain ⟨x, hx⟩ : ∃ x, (liveGo 0 p.pins)[i]? = some x := ⟨_, List.getElem?_eq_getElem hil⟩
    obtain ⟨he, _⟩ := live_map hG (keeps_refl p) (List.mem_of_getElem? hx)
    conv => whnf
    repeat' first | ((first | refine auTq ?_ | refine auFq ?_ | (refine frP.mk [0, 1, 2, 3, 4] ?_; (conv => whnf); refine ⟨x.1, x.2.1, xP.mk p 120 _ _ _ _ _ _ rfl rfl hw (by decide) hrx ?_⟩; rintro _ _ _ _ _ _ hx9) | refine auIk ?_ | refine auIi ?_ | refine auT ?_ | refine auF ?_ | with_reducible first | refine auKt ?_ | refine auKf ?_ | refine auNt ?_ | refine auNf ?_ | refine auEt ?_ | refine auEf ?_); conv => whnf) | ((with_reducible first | refine br_dec ?_ ?_ | refine br_ndec ?_ ?_ | refine br_ne ?_ ?_ | refine br_eq ?_ ?_) <;> intro h <;> first | (exfalso; omega) | conv => whnf) | (refine br_intro ?_ ?_ <;> intro h <;> conv => whnf) | ((first | refine auNd ?_ | refine idx_nat (by omega) (fun x hx => ?_) | refine frz_auto ?_ | refine draw_plain ?_ | refine auIx (fun x hx => ?_)); conv => whnf) | (refine both.mk ?_ ?_ <;> conv => whnf) | ((first | refine bx_idx ?_ | refine bx_intro (fun b hb => ?_)); conv => whnf)
    refine back_intro (by conv => whnf) rfl ⟨i + 1, gn + 1, _, _, _, _, _, _, _, _, rfl, rfl, by omega, ?_, ?_, hx9⟩ ?_
    ·simp only [cast_self, List.take_length]
     rw [bef_take hx, ← ho]
     rfl
    ·simp
    ·show (liveGo 0 p.pins).length - ((i : Int) + 1).toNat < (liveGo 0 p.pins).length - (i : Int).toNat
     omega
   ·have hoe : o = befR p (liveGo 0 p.pins) := by rw [ho, List.take_of_length_le (by omega)]
    clear ho
    subst hoe
    conv => whnf
    repeat' first | ((first | refine auTq ?_ | refine auFq ?_ | refine auIk ?_ | refine auIi ?_ | refine auT ?_ | refine auF ?_ | with_reducible first | refine auKt ?_ | refine auKf ?_ | refine auNt ?_ | refine auNf ?_ | refine auEt ?_ | refine auEf ?_); conv => whnf) | ((with_reducible first | refine br_dec ?_ ?_ | refine br_ndec ?_ ?_ | refine br_ne ?_ ?_ | refine br_eq ?_ ?_) <;> intro h <;> first | (exfalso; omega) | conv => whnf) | (refine br_intro ?_ ?_ <;> intro h <;> conv => whnf) | ((first | refine auNd ?_ | refine idx_nat (by omega) (fun x hx => ?_) | refine frz_auto ?_ | refine draw_plain ?_ | refine auIx (fun x hx => ?_)); conv => whnf) | (refine both.mk ?_ ?_ <;> conv => whnf) | ((first | refine bx_idx ?_ | refine bx_intro (fun b hb => ?_)); conv => whnf)
    refine loop_inv [.cell 6 0 50 pairT, .frz 7 [] [(6, 0)], .cell 6 1 128 rsT, .cell 6 2 128 rsT] [13] (fun vs h => ∃ (i : Nat) (px py : PM) (m0 : List (Nat × List pairT.El)) (m1 : List (Nat × cuT.El)) (gP : Nat) (P : List slT.El) (gC : Nat) (C : List scT.El) (gQ : Nat) (Q : List rsT.El) (gD : Nat) (D : List rsT.El), vs = [.int .i64 (i : Int)] ∧ h = XH m0 m1 px.hd gP P gC C ++ [.arr 22 (.sl pairT) (befR p (liveGo 0 p.pins)) false gn, .cells 106 [.lst pairT py.hd, .own 8 gQ Q.length, .own 9 gD D.length], .dead, .arr 128 rsT Q false gQ, .arr 128 rsT D false gD] ∧ i ≤ l2.length ∧ Wf (120 + i) px ∧ Wf (120 + i) py ∧ Keeps p px ∧ XRel px m0 m1 P C ∧ YRel py Q D) (fun vs _ => match vs with | [.int _ k] => l2.length - k.toNat | _ => 0) ?_
    conv => whnf
    repeat' first | ((first | refine auTq ?_ | refine auFq ?_ | refine auIk ?_ | refine auIi ?_ | refine auT ?_ | refine auF ?_ | with_reducible first | refine auKt ?_ | refine auKf ?_ | refine auNt ?_ | refine auNf ?_ | refine auEt ?_ | refine auEf ?_); conv => whnf) | ((with_reducible first | refine br_dec ?_ ?_ | refine br_ndec ?_ ?_ | refine br_ne ?_ ?_ | refine br_eq ?_ ?_) <;> intro h <;> first | (exfalso; omega) | conv => whnf) | (refine br_intro ?_ ?_ <;> intro h <;> conv => whnf) | ((first | refine auNd ?_ | refine idx_nat (by omega) (fun x hx => ?_) | refine frz_auto ?_ | refine draw_plain ?_ | refine auIx (fun x hx => ?_)); conv => whnf) | (refine both.mk ?_ ?_ <;> conv => whnf) | ((first | refine bx_idx ?_ | refine bx_intro (fun b hb => ?_)); conv => whnf)
    refine ⟨⟨0, p, p00, m0, m1, gP, P, gC, C, 0, [], 0, [], rfl, rfl, Nat.zero_le _, hw, wf_le wf_new (by omega), keeps_refl p, hrx, yrel_new⟩, ?_⟩
    rintro vs h' - ⟨i, px, py, m0, m1, gP, P, gC, C, gQ, Q, gD, D, rfl, rfl, hi, hwx, hwy, hKp, hrx, hry⟩
    by_cases hil : i < l2.length
    ·obtain ⟨x, hx⟩ : ∃ x, l2[i]? = some x := ⟨_, List.getElem?_eq_getElem hil⟩
     have hws : (clW x).length ≤ 1000000 := Nat.le_trans (hwl2 x (List.mem_of_getElem? hx)) (by decide)
     by_cases h9 : x.1 = (9 : Int)
     ·conv => whnf
      repeat' first | ((first | refine auTq ?_ | refine auFq ?_ | refine auIk ?_ | refine auIi ?_ | refine auT ?_ | refine auF ?_ | with_reducible first | refine auKt ?_ | refine auKf ?_ | refine auNt ?_ | refine auNf ?_ | refine auEt ?_ | refine auEf ?_); conv => whnf) | ((with_reducible first | refine br_dec ?_ ?_ | refine br_ndec ?_ ?_ | refine br_ne ?_ ?_ | refine br_eq ?_ ?_) <;> intro h <;> first | (exfalso; omega) | conv => whnf) | (refine br_intro ?_ ?_ <;> intro h <;> conv => whnf) | ((first | refine auNd ?_ | refine idx_nat (by omega) (fun x hx => ?_) | refine frz_auto ?_ | refine draw_plain ?_ | refine auIx (fun x hx => ?_)); conv => whnf) | (refine both.mk ?_ ?_ <;> conv => whnf) | ((first | refine bx_idx ?_ | refine bx_intro (fun b hb => ?_)); conv => whnf)
      refine back_intro (by conv => whnf) rfl ⟨i + 1, px, py, _, _, _, _, _, _, _, _, _, _, rfl, rfl, by omega, wf_le hwx (by omega), wf_le hwy (by omega), hKp, hrx, hry⟩ ?_
      show l2.length - ((i : Int) + 1).toNat < l2.length - (i : Int).toNat
      omega
     ·have h9n : (x.1 : Int) ≠ 9 := h9
      conv => whnf
      repeat' first | ((first | refine auTq ?_ | refine auFq ?_ | (refine frP.mk [0, 1, 2, 6, 3, 4, 8, 9] ?_; (conv => whnf); refine doP.mk px py (120 + i) _ _ _ _ _ _ _ _ _ _ _ _ _ _ _ _ _ _ _ _ _ _ rfl rfl hwx hwy (by omega) hws hrx hry ?_; rintro b _ _ _ _ _ _ _ _ _ _ hb hx9 hy9) | refine auIk ?_ | refine auIi ?_ | refine auT ?_ | refine auF ?_ | with_reducible first | refine auKt ?_ | refine auKf ?_ | refine auNt ?_ | refine auNf ?_ | refine auEt ?_ | refine auEf ?_); conv => whnf) | ((with_reducible first | refine br_dec ?_ ?_ | refine br_ndec ?_ ?_ | refine br_ne ?_ ?_ | refine br_eq ?_ ?_) <;> intro h <;> first | (exfalso; omega) | conv => whnf) | (refine br_intro ?_ ?_ <;> intro h <;> conv => whnf) | ((first | refine auNd ?_ | refine idx_nat (by omega) (fun x hx => ?_) | refine frz_auto ?_ | refine draw_plain ?_ | refine auIx (fun x hx => ?_)); conv => whnf) | (refine both.mk ?_ ?_ <;> conv => whnf) | ((first | refine bx_idx ?_ | refine bx_intro (fun b hb => ?_)); conv => whnf)
      refine back_intro (by conv => whnf) rfl ⟨i + 1, _, _, _, _, _, _, _, _, _, _, _, _, rfl, rfl, by omega, wf_le (wf_step hwx _ _ _ _ _ _ _ _ _) (by omega), wf_le (wf_step hwy _ _ _ _ _ _ _ _ _) (by omega), keeps_step hKp h9 _ _ _ _ _ _ _ _, hx9, hy9⟩ ?_
      show l2.length - ((i : Int) + 1).toNat < l2.length - (i : Int).toNat
      omega
    ·conv => whnf
     repeat' first | ((first | refine auTq ?_ | refine auFq ?_ | refine auIk ?_ | refine auIi ?_ | refine auT ?_ | refine auF ?_ | with_reducible first | refine auKt ?_ | refine auKf ?_ | refine auNt ?_ | refine auNf ?_ | refine auEt ?_ | refine auEf ?_); conv => whnf) | ((with_reducible first | refine br_dec ?_ ?_ | refine br_ndec ?_ ?_ | refine br_ne ?_ ?_ | refine br_eq ?_ ?_) <;> intro h <;> first | (exfalso; omega) | conv => whnf) | (refine br_intro ?_ ?_ <;> intro h <;> conv => whnf) | ((first | refine auNd ?_ | refine idx_nat (by omega) (fun x hx => ?_) | refine frz_auto ?_ | refine draw_plain ?_ | refine auIx (fun x hx => ?_)); conv => whnf) | (refine both.mk ?_ ?_ <;> conv => whnf) | ((first | refine bx_idx ?_ | refine bx_intro (fun b hb => ?_)); conv => whnf)
     refine loop_inv [] [14] (fun vs h => ∃ (i : Nat) (m0 : List (Nat × List pairT.El)) (m1 : List (Nat × cuT.El)) (gP : Nat) (P : List slT.El) (gC : Nat) (C : List scT.El), vs = [.int .i64 (i : Int)] ∧ h = XH m0 m1 px.hd gP P gC C ++ [.arr 22 (.sl pairT) (befR p (liveGo 0 p.pins)) false gn, .cells 106 [.lst pairT py.hd, .own 8 gQ Q.length, .own 9 gD D.length], .dead, .arr 128 rsT Q false gQ, .arr 128 rsT D false gD] ∧ i ≤ (liveGo 0 p.pins).length ∧ XRel px m0 m1 P C) (fun vs _ => match vs with | [.int _ k] => (liveGo 0 p.pins).length - k.toNat | _ => 0) ?_
     conv => whnf
     refine ⟨⟨0, m0, m1, gP, P, gC, C, rfl, rfl, Nat.zero_le _, hrx⟩, ?_⟩
     rintro vs h' - ⟨i, m0, m1, gP, P, gC, C, rfl, rfl, hi, hrx⟩
     by_cases hil : i < (liveGo 0 p.pins).length
     ·obtain ⟨x, hx⟩ : ∃ x, (liveGo 0 p.pins)[i]? = some x := ⟨_, List.getElem?_eq_getElem hil⟩
      obtain ⟨he, hv⟩ := live_map hG hKp (List.mem_of_getElem? hx)
      have hs : (!sameL pairT (px.mapR x.1 x.2.1).1 (p.mapR x.1 x.2.1).1) = false := by rw [hv, sameP_refl]; rfl
      have hbx : (befR p (liveGo 0 p.pins))[i]? = some (p.mapR x.1 x.2.1).1 := by unfold befR; rw [List.getElem?_map, hx]; rfl
      have hbl : (befR p (liveGo 0 p.pins)).length = (liveGo 0 p.pins).length := List.length_map _
      have hm1 : (px.mapR x.1 x.2.1).1.length ≤ 4611686018427387904 := Nat.le_trans (mapR_fit hwx x.1 x.2.1).len (by decide)
      conv => whnf
      repeat' first | ((first | refine auTq ?_ | refine auFq ?_ | (refine frP.mk [0, 1, 2, 3, 4] ?_; (conv => whnf); refine ⟨x.1, x.2.1, xP.mk px _ _ _ _ _ _ _ rfl rfl hwx (by omega) hrx ?_⟩; rintro _ _ _ _ _ _ hx9) | refine auIk ?_ | refine auIi ?_ | refine auT ?_ | refine auF ?_ | with_reducible first | refine auKt ?_ | refine auKf ?_ | refine auNt ?_ | refine auNf ?_ | refine auEt ?_ | refine auEf ?_); conv => whnf) | ((with_reducible first | refine br_dec ?_ ?_ | refine br_ndec ?_ ?_ | refine br_ne ?_ ?_ | refine br_eq ?_ ?_) <;> intro h <;> first | (exfalso; omega) | conv => whnf) | (refine br_intro ?_ ?_ <;> intro h <;> conv => whnf) | ((first | refine auNd ?_ | refine idx_nat (by omega) (fun x hx => ?_) | refine frz_auto ?_ | refine draw_plain ?_ | refine auIx (fun x hx => ?_)); conv => whnf) | (refine both.mk ?_ ?_ <;> conv => whnf) | ((first | refine bx_idx ?_ | refine bx_intro (fun b hb => ?_)); conv => whnf)
      refine back_intro (by conv => whnf) rfl ⟨i + 1, _, _, _, _, _, _, rfl, rfl, by omega, hx9⟩ ?_
      show (liveGo 0 p.pins).length - ((i : Int) + 1).toNat < (liveGo 0 p.pins).length - (i : Int).toNat
      omega
     ·conv => whnf
      repeat' first | ((first | refine auTq ?_ | refine auFq ?_ | refine auIk ?_ | refine auIi ?_ | refine auT ?_ | refine auF ?_ | with_reducible first | refine auKt ?_ | refine auKf ?_ | refine auNt ?_ | refine auNf ?_ | refine auEt ?_ | refine auEf ?_); conv => whnf) | ((with_reducible first | refine br_dec ?_ ?_ | refine br_ndec ?_ ?_ | refine br_ne ?_ ?_ | refine br_eq ?_ ?_) <;> intro h <;> first | (exfalso; omega) | conv => whnf) | (refine br_intro ?_ ?_ <;> intro h <;> conv => whnf) | ((first | refine auNd ?_ | refine idx_nat (by omega) (fun x hx => ?_) | refine frz_auto ?_ | refine draw_plain ?_ | refine auIx (fun x hx => ?_)); conv => whnf) | (refine both.mk ?_ ?_ <;> conv => whnf) | ((first | refine bx_idx ?_ | refine bx_intro (fun b hb => ?_)); conv => whnf)

end Go.Proofs.Ytbbklijmnknmhaa
namespace Go.Proofs.Ytbbklijmnknmhaa
open Go.ChangeShapes Go.WideShapes Go.ChangeAt Go.RowKit Go.Joins Go.Deep Av

theorem Try.own : ownKnob Try.prog.godebug = none := by kernel_rfl
theorem Try.laidOut : laidOutB Try.prog = true := by kernel_rfl

section
variable {H : Type} {enc : TypeId × Value → H} {w : World}

theorem all_below {W W' : World} (hb : Below W.heap.size W W') : ∀ (ts : List TypeId) (vs : List Value) (ds : List (DataW H)) (ps : List MemPlace), (∀ t ∈ ts, Try.prog.readableRec t = true ∧ t < Try.prog.types.size) →
  DataW.TrodAll enc Try.prog W 0 (fun _ => true) true ts vs ds ps → (∀ x ∈ ps, x.block < W.heap.size) → DataW.TrodAll enc Try.prog W' 0 (fun b => decide (b < W.heap.size)) true ts vs ds ps
 | [], vs, ds, ps, _, h, _ => by
  obtain ⟨rfl, rfl, rfl⟩ := trodAll_nil h
  exact trodAll_mk0
 | t :: ts, vs, ds, ps, hr, h, hlt => by
  obtain ⟨v, vs', d, ds', p, q, rfl, rfl, rfl, h1, h2⟩ := trodAll_cons h
  obtain ⟨r1, r2⟩ := hr t (by simp)
  exact trodAll_cons_mk (Below.trod Try.laidOut r1 r2 h1 hb (fun x hx => hlt x (by simp [hx]))) (all_below hb ts vs' ds' q (fun t' ht' => hr t' (by simp [ht'])) h2 (fun x hx => hlt x (by simp [hx])))

theorem law_post {f : Func} {s : ChangeSpec} {W W' : World} {args : Array Value} {ds gs : List (DataW H)} {before : List MemPlace} (hW : DataW.Whole enc Try.prog f.params.toList s.vars false W args.toList ds gs before)
  (hv : s.vars = []) (hres : (s.fn H (ds ++ [])).results = [.lit (.bool true)]) (hargs : (s.fn H (ds ++ [])).args = ds) (hvs : (s.fn H (ds ++ [])).vars = []) (hR : f.resultTypes = #[4])
  (hr : ∀ t ∈ f.params.toList, Try.prog.readableRec t = true ∧ t < Try.prog.types.size) (hb : Below W.heap.size W W') :
  s.post enc Try.prog f false true false false W args (.bool true) W' := by
 have hlt := hW.lt
 have hW' := hW
 obtain ⟨p, q, hA, hV, rfl, _, _⟩ := hW
 rw [hv] at hV
 obtain ⟨rfl, rfl⟩ := trodVars_none hV
 refine ⟨ds, [], p ++ [], [], p, [], hW', ?_, ?_, ?_, hb.frame _, fun h => by cases h⟩
 ·rw [hres, hR]
  exact trodAll_mk1 (shut_bool Try.underlying4 true)
 ·rw [hargs]
  exact all_below hb _ _ _ _ hr hA (fun x hx => hlt x (by simp [hx]))
 ·rw [hv, hvs]
  exact rfl


theorem trodAll_len {W : World} {base : Nat} {spare : Nat → Bool} {held : Bool} : ∀ {ts : List TypeId} {vs : List Value} {ds : List (DataW H)} {ps : List MemPlace}, DataW.TrodAll enc Try.prog W base spare held ts vs ds ps → ds.length = ts.length
 | [], vs, ds, ps, h => by
  obtain ⟨rfl, rfl, rfl⟩ := trodAll_nil h
  rfl
 | t :: ts, vs, ds, ps, h => by
  obtain ⟨v, vs', D, ds', p, q, rfl, rfl, rfl, h1, h2⟩ := trodAll_cons h
  simp only [List.length_cons, trodAll_len h2]
theorem arr_get {α : Type} {a : Array α} {j : Nat} {x : α} (h : a.toList[j]? = some x) : a[j]? = some x := by simpa using h
end
end Go.Proofs.Ytbbklijmnknmhaa
