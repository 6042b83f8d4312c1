/-
  Whether differences are awake.
  Differences applied to a map, by the reference.
  The laws of views and of checks.
  The laws of maps and of differences that are applied.
  From a law's contract to its row: every argument reads behind the call as it read before.
-/
import Derived.Test.YtdbnohpolknbbaaGreatUm
import Derived.Test.YtdbnohpolknbbaaGreatUx
import Derived.Test.YtdbnohpolknbbaaGreatE4
import Derived.Test.YtdbnohpolknbbaaGreatUt
import Derived.Test.YtdbnohpolknbbaaGreatRows
import Derived.Test.YtdbnohpolknbbaaGreatLg
import Derived.Test.YtdbnohpolknbbaaGreatE5
import Derived.ProofKit
namespace Go.Proofs.YtdbnohpolknbbaaGreat
open Av Bk

def exUR : List runT.El := [(1, [mkE ⟨#[97]⟩ ⟨#[49]⟩ false 1, mkE ⟨#[98]⟩ ⟨#[50]⟩ false 2], ())]
def exUB : List entT.El := [mkE ⟨#[98]⟩ ⟨#[]⟩ true 3, mkE ⟨#[99]⟩ ⟨#[51]⟩ false 4]
def spExU : DSpec
  | [] => some (True, .tup [.agg [.lst entT [], .lst runT exUR], .agg [.lst entT exUB, .lst runT exUR]])
  | _ => none
set_option maxRecDepth 100000 in
theorem fnOk_exampleU : FnOk Tryz.prog 28 Tryz.f28 := ⟨by rfl, by kernel_rfl, by
  show okCode _ _ = true ∧ drawsOk _ = true
  exact ⟨by kernel_rfl, by kernel_rfl⟩⟩
set_option maxRecDepth 100000 in
theorem exampleU_ok : SpecOk Tryz.prog 28 spExU := by
  refine spec_body (C := cx0) mixed tbOk SpecsOk.nil (callN_ok (C := cx0) mixed tbOk SpecsOk.nil FnsOk.nil 0) fnOk_exampleU ?_
  intro ys p r h hp
  unfold spExU at h
  split at h
  · cases h
    conv => whnf
    repeat' first
      | (refine br_true (by first | with_reducible exact rfl | decide | rfl) ?_; conv => whnf)
      | (refine br_false (by first | with_reducible exact rfl | decide | rfl) ?_; conv => whnf)
      | (refine need_in (by first | exact trivial | exact ⟨rfl, Nat.le_refl _⟩ | decide | (simp only [inR]; omega) | omega) ?_; conv => whnf)
      | (refine frz_auto ?_; conv => whnf)
      | (refine draw_plain ?_; conv => whnf)
      | (refine idx_cl ?_; (conv => whnf); refine ⟨by decide, ?_⟩; conv => whnf)
      | fail
    rfl
  · cases h
def spAwU : DSpec
  | [] => some (True, .bool true)
  | _ => none
set_option maxRecDepth 100000 in
theorem fnOk_awakeU : FnOk Tryz.prog 8 Tryz.f8 := ⟨by rfl, by kernel_rfl, by
  show okCode _ _ = true ∧ drawsOk _ = true
  exact ⟨by kernel_rfl, by kernel_rfl⟩⟩
noncomputable def cxuu : Cx := ⟨tb, [], [(28, spExU), (9, spDv), (13, spSh), (10, spSv), (24, spAp), (29, spTh), (15, spSameI), (20, spInts), (16, spSameP)]⟩
theorem specsuu : SpecsOk Tryz.prog cxuu.specs := .cons exampleU_ok (.cons dDiff_ok (.cons dShared_ok (.cons dSame_ok (.cons dApply_ok (.cons dThen_ok (.cons sameIt_ok (.cons rInts_ok (.cons same05_ok .nil))))))))
set_option maxRecDepth 100000 in
set_option maxHeartbeats 4000000 in
theorem awakeU_ok : SpecOk Tryz.prog 8 spAwU := by
  refine spec_body (C := cxuu) mixed tbOk specsuu (callN_ok (C := cxuu) mixed tbOk specsuu FnsOk.nil 3) fnOk_awakeU ?_
  intro ys p r h hp
  unfold spAwU at h
  split at h
  · cases h
    have hdh : dhR [] exUR exUB exUR = ([1], 0) := by
      unfold dhR
      rw [if_neg (by decide), show shL exUR exUR = [1] by decide]
      simp [sortedI]
    conv => whnf
    repeat' first
      | (refine br_true (by first | with_reducible exact rfl | decide | rfl) ?_; conv => whnf)
      | (refine br_false (by first | with_reducible exact rfl | decide | rfl) ?_; conv => whnf)
      | (refine need_in (by first | exact trivial | exact ⟨rfl, Nat.le_refl _⟩ | decide | (simp only [inR]; omega) | omega) ?_; conv => whnf)
      | (refine frz_auto ?_; conv => whnf)
      | (refine draw_plain ?_; conv => whnf)
      | (refine idx_cl ?_; (conv => whnf); refine ⟨by decide, ?_⟩; conv => whnf)
      | fail
    rw [hdh]
    repeat' first
      | (refine br_true (by first | with_reducible exact rfl | decide | rfl) ?_; conv => whnf)
      | (refine br_false (by first | with_reducible exact rfl | decide | rfl) ?_; conv => whnf)
      | (refine need_in (by first | exact trivial | exact ⟨rfl, Nat.le_refl _⟩ | decide | (simp only [inR]; omega) | omega) ?_; conv => whnf)
      | (refine frz_auto ?_; conv => whnf)
      | (refine draw_plain ?_; conv => whnf)
      | (refine idx_cl ?_; (conv => whnf); refine ⟨by decide, ?_⟩; conv => whnf)
      | fail
    exact congrArg AV.bool (by decide)
  · cases h
end Go.Proofs.YtdbnohpolknbbaaGreat
namespace Go.Proofs.YtdbnohpolknbbaaGreat
open Av Bk

end Go.Proofs.YtdbnohpolknbbaaGreat
namespace Go.Proofs.YtdbnohpolknbbaaGreat
open Av Bk

end Go.Proofs.YtdbnohpolknbbaaGreat
namespace Go.Proofs.YtdbnohpolknbbaaGreat
open Av Bk

set_option maxRecDepth 100000 in
theorem fnOk_lMp : FnOk Tryz.prog 3 Tryz.f3 := ⟨by rfl, by kernel_rfl, by
  show okCode _ _ = true ∧ drawsOk _ = true
  exact ⟨by kernel_rfl, by kernel_rfl⟩⟩
noncomputable def lMp_C : Cx := ⟨tb, [], [(8, spAwU), (7, spFar), (9, spDv), (10, spSv), (11, spMap), (12, spDiff), (13, spSh), (14, spIC), (15, spSameI), (16, spSameP)]⟩
theorem lMp_D : SpecsOk Tryz.prog lMp_C.specs := .cons awakeU_ok (.cons far_ok (.cons dDiff_ok (.cons dSame_ok (.cons rMap_ok (.cons r05Diff_ok (.cons dShared_ok (.cons diffCheck_ok (.cons sameIt_ok (.cons same05_ok .nil)))))))))
theorem lMp_F : FnsOk Tryz.prog lMp_C.fns := FnsOk.nil
abbrev lMp_N : Nat := 0
abbrev lMp_T : List Ty := [viewT, viewT]
abbrev lMp_FN := fnOk_lMp
set_option maxRecDepth 100000 in
set_option maxHeartbeats 8000000 in
theorem lMp' (b : List entT.El) (rs : List runT.El) (b2 : List entT.El) (rs2 : List runT.El) : bodyA lMp_C (callN lMp_C lMp_N) Tryz.f3 [.agg [.lst entT b, .lst runT rs], .agg [.lst entT b2, .lst runT rs2]] [] (fun v _ => v = .bool true) := by
  by_cases f1 : farB b rs = true
  · conv => whnf
    repeat' first
      | ((first | refine auIk ?_ | refine auIi ?_ | refine auT ?_ | refine auF ?_ | with_reducible first | refine auKt ?_ | refine auKf ?_ | refine auNt ?_ | refine auNf ?_ | refine auEt ?_ | refine auEf ?_); conv => whnf)
      | ((with_reducible first | refine br_dec (fun h => ?_) (fun h => ?_) | refine br_ndec (fun h => ?_) (fun h => ?_) | refine br_ne (fun h => ?_) (fun h => ?_) | refine br_eq (fun h => ?_) (fun h => ?_)) <;> first | (exfalso; omega) | conv => whnf)
      | (refine br_intro (fun h => ?_) (fun h => ?_) <;> conv => whnf)
      | ((first | refine auNd ?_ | refine idx_nat (by omega) (fun x hx => ?_) | refine frz_auto ?_ | refine draw_plain ?_ | refine auIx (fun x hx => ?_)); conv => whnf)
  · have f1 : farB b rs = false := by simpa using f1
    by_cases f2 : farB b2 rs2 = true
    · conv => whnf
      repeat' first
        | ((first | refine auIk ?_ | refine auIi ?_ | refine auT ?_ | refine auF ?_ | with_reducible first | refine auKt ?_ | refine auKf ?_ | refine auNt ?_ | refine auNf ?_ | refine auEt ?_ | refine auEf ?_); conv => whnf)
        | ((with_reducible first | refine br_dec (fun h => ?_) (fun h => ?_) | refine br_ndec (fun h => ?_) (fun h => ?_) | refine br_ne (fun h => ?_) (fun h => ?_) | refine br_eq (fun h => ?_) (fun h => ?_)) <;> first | (exfalso; omega) | conv => whnf)
        | (refine br_intro (fun h => ?_) (fun h => ?_) <;> conv => whnf)
        | ((first | refine auNd ?_ | refine idx_nat (by omega) (fun x hx => ?_) | refine frz_auto ?_ | refine draw_plain ?_ | refine auIx (fun x hx => ?_)); conv => whnf)
    · have f2 : farB b2 rs2 = false := by simpa using f2
      by_cases he : dvE b rs b2 rs2 = 0
      · obtain ⟨h1, h2⟩ := dv_zero he
        have hl1 := all_len (vcL_zero h1)
        have hl2 := all_len (vcL_zero h2)
        have hd := dvR_good h1 h2 f1 f2
        have hdf : dfR (mapL (allE b rs)) (mapL (allE b2 rs2)) = (diffL (mV b rs) (mV b2 rs2), 0) := by
          have : dvR b rs b2 rs2 = dfR (mV b rs) (mV b2 rs2) := by rw [dvR, if_neg (by simp [he])]
          exact this.symm.trans hd
        have hde : (dvR b rs b2 rs2).2 = 0 := by rw [hd]
        have hdl : (dvR b rs b2 rs2).1.length ≤ 4611686018427387904 := by have := dvR_len b rs b2 rs2; omega
        have hsm := sameI_refl (dvR b rs b2 rs2).1
        have hm1 : (mapL (allE b rs)).length ≤ 4611686018427387904 := by have := mV_len h1; show (mV b rs).length ≤ _; omega
        have hm2 : (mapL (allE b2 rs2)).length ≤ 4611686018427387904 := by have := mV_len h2; show (mV b2 rs2).length ≤ _; omega
        have hee : dvE b rs b rs = 0 := dv_good h1 h1
        have hself := dvR_good h1 h1 f1 f1
        rw [diff_self (mapL_asc _)] at hself
        have g1 : (dfR (mapL (allE b rs)) (mapL (allE b2 rs2))).2 = 0 := by rw [hdf]
        have g2 : sameL itemT (dvR b rs b2 rs2).1 (dfR (mapL (allE b rs)) (mapL (allE b2 rs2))).1 = true := by rw [hdf, hd]; exact sameI_refl _
        have hsv : svR b rs b2 rs2 = sameL pairT (mapL (allE b rs)) (mapL (allE b2 rs2)) := by unfold svR; rw [he]; rfl
        have g3 : (svR b rs b2 rs2 == (((dvR b rs b2 rs2).1.length : Int) == 0)) = true := by
          rw [(sv_eq f1 f2).1, hd, beq_iff_eq, decide_eq_true rfl, Bool.true_and, Bool.eq_iff_iff, decide_eq_true_iff, beq_iff_eq]
          omega
        have g4 : (svR b rs b2 rs2 == sameL pairT (mapL (allE b rs)) (mapL (allE b2 rs2))) = true := by rw [hsv]; exact beq_self_eq_true _
        have g5 : ((dvR b rs b rs).1.length : Int) = 0 := by rw [hself]; rfl
        have g6 : (dvR b rs b rs).2 = 0 := by rw [hself]
        have hdh : dhR b rs b rs = (sortedI (shL rs rs), 0) := by unfold dhR; rw [if_neg (by simp [hee])]
        have g7 : ((dhR b rs b rs).1.length : Int) = (rs.length : Int) := by rw [hdh]; exact congrArg _ (sh_self rs)
        have g8 : (dhR b rs b rs).2 = 0 := by rw [hdh]
        have hic := diff_good (X := mV b rs) (Y := mV b2 rs2) (by rw [mV_good h1 f1]) (by rw [mV_good h2 f2])
        have g9 : (icL (dvR b rs b2 rs2).1).1 = 0 := by rw [hd, hic]
        have g10 : (icL (dvR b rs b2 rs2).1).2 = 0 := by rw [hd, hic]
        conv => whnf
        repeat' first
          | ((first | refine auIk ?_ | refine auIi ?_ | refine auT ?_ | refine auF ?_ | with_reducible first | refine auKt ?_ | refine auKf ?_ | refine auNt ?_ | refine auNf ?_ | refine auEt ?_ | refine auEf ?_); conv => whnf)
          | ((with_reducible first | refine br_dec (fun h => ?_) (fun h => ?_) | refine br_ndec (fun h => ?_) (fun h => ?_) | refine br_ne (fun h => ?_) (fun h => ?_) | refine br_eq (fun h => ?_) (fun h => ?_)) <;> first | (exfalso; omega) | conv => whnf)
          | (refine br_intro (fun h => ?_) (fun h => ?_) <;> conv => whnf)
          | ((first | refine auNd ?_ | refine idx_nat (by omega) (fun x hx => ?_) | refine frz_auto ?_ | refine draw_plain ?_ | refine auIx (fun x hx => ?_)); conv => whnf)
      · have hd := dvR_bad he
        have hde : ¬ (dvR b rs b2 rs2).2 = 0 := by rw [hd]; exact he
        have hsv : svR b rs b2 rs2 = false := by unfold svR; rw [decide_eq_false he]; rfl
        have hq : dvE b rs b2 rs2 = (dvR b rs b2 rs2).2 := by rw [hd]
        have hnb : (!svR b rs b2 rs2) = true := by rw [hsv]; rfl
        conv => whnf
        repeat' first
          | ((first | refine auIk ?_ | refine auIi ?_ | refine auT ?_ | refine auF ?_ | with_reducible first | refine auKt ?_ | refine auKf ?_ | refine auNt ?_ | refine auNf ?_ | refine auEt ?_ | refine auEf ?_); conv => whnf)
          | ((with_reducible first | refine br_dec (fun h => ?_) (fun h => ?_) | refine br_ndec (fun h => ?_) (fun h => ?_) | refine br_ne (fun h => ?_) (fun h => ?_) | refine br_eq (fun h => ?_) (fun h => ?_)) <;> first | (exfalso; omega) | conv => whnf)
          | (refine br_intro (fun h => ?_) (fun h => ?_) <;> conv => whnf)
          | ((first | refine auNd ?_ | refine idx_nat (by omega) (fun x hx => ?_) | refine frz_auto ?_ | refine draw_plain ?_ | refine auIx (fun x hx => ?_)); conv => whnf)
theorem lMp : ∀ es : Ty.Els lMp_T, tyOks lMp_T es → bodyA lMp_C (callN lMp_C lMp_N) Tryz.f3 (avTs lMp_T es) [] (fun v _ => v = .bool true) := by
  rintro ⟨⟨b, rs, _⟩, ⟨b2, rs2, _⟩, _⟩ _
  exact lMp' b rs b2 rs2
end Go.Proofs.YtdbnohpolknbbaaGreat
namespace Go.Proofs.YtdbnohpolknbbaaGreat
open Go.ChangeShapes Go.WideShapes Go.ChangeAt Go.RowKit Go.Joins Go.Deep Av

theorem Tryz.own : ownKnob Tryz.prog.godebug = none := by kernel_rfl
theorem Tryz.laidOut : laidOutB Tryz.prog = true := by kernel_rfl

section
variable {H : Type} {enc : TypeId × Value → H} {w : World}

/-- Every argument reads as it did. -/
theorem all_below {W W' : World} (hb : Below W.heap.size W W') : ∀ (ts : List TypeId) (vs : List Value) (ds : List (DataW H)) (ps : List MemPlace), (∀ t ∈ ts, Tryz.prog.readableRec t = true ∧ t < Tryz.prog.types.size) →
    DataW.TrodAll enc Tryz.prog W 0 (fun _ => true) true ts vs ds ps → (∀ x ∈ ps, x.block < W.heap.size) → DataW.TrodAll enc Tryz.prog W' 0 (fun b => decide (b < W.heap.size)) true ts vs ds ps
  | [], vs, ds, ps, _, h, _ => by
    obtain ⟨rfl, rfl, rfl⟩ := trodAll_nil h
    exact trodAll_mk0
  | t :: ts, vs, ds, ps, hr, h, hlt => by
    obtain ⟨v, vs', d, ds', p, q, rfl, rfl, rfl, h1, h2⟩ := trodAll_cons h
    obtain ⟨r1, r2⟩ := hr t (by simp)
    exact trodAll_cons_mk (Below.trod Tryz.laidOut r1 r2 h1 hb (fun x hx => hlt x (by simp [hx]))) (all_below hb ts vs' ds' q (fun t' ht' => hr t' (by simp [ht'])) h2 (fun x hx => hlt x (by simp [hx])))

/-- What the row asks of the end of a law. -/
theorem law_post {f : Func} {s : ChangeSpec} {W W' : World} {args : Array Value} {ds gs : List (DataW H)} {before : List MemPlace} (hW : DataW.Whole enc Tryz.prog f.params.toList s.vars false W args.toList ds gs before)
    (hv : s.vars = []) (hres : (s.fn H (ds ++ [])).results = [.lit (.bool true)]) (hargs : (s.fn H (ds ++ [])).args = ds) (hvs : (s.fn H (ds ++ [])).vars = []) (hR : f.resultTypes = #[4])
    (hr : ∀ t ∈ f.params.toList, Tryz.prog.readableRec t = true ∧ t < Tryz.prog.types.size) (hb : Below W.heap.size W W') :
    s.post enc Tryz.prog f false true false false W args (.bool true) W' := by
  have hlt := hW.lt
  have hW' := hW
  obtain ⟨p, q, hA, hV, rfl, _, _⟩ := hW
  rw [hv] at hV
  obtain ⟨rfl, rfl⟩ := trodVars_none hV
  refine ⟨ds, [], p ++ [], [], p, [], hW', ?_, ?_, ?_, hb.frame _, fun h => by cases h⟩
  · rw [hres, hR]
    exact trodAll_mk1 (shut_bool Tryz.underlying4 true)
  · rw [hargs]
    exact all_below hb _ _ _ _ hr hA (fun x hx => hlt x (by simp [hx]))
  · rw [hv, hvs]
    exact rfl


theorem trodAll_len {W : World} {base : Nat} {spare : Nat → Bool} {held : Bool} : ∀ {ts : List TypeId} {vs : List Value} {ds : List (DataW H)} {ps : List MemPlace}, DataW.TrodAll enc Tryz.prog W base spare held ts vs ds ps → ds.length = ts.length
  | [], vs, ds, ps, h => by
    obtain ⟨rfl, rfl, rfl⟩ := trodAll_nil h
    rfl
  | t :: ts, vs, ds, ps, h => by
    obtain ⟨v, vs', D, ds', p, q, rfl, rfl, rfl, h1, h2⟩ := trodAll_cons h
    simp only [List.length_cons, trodAll_len h2]
theorem arr_get {α : Type} {a : Array α} {j : Nat} {x : α} (h : a.toList[j]? = some x) : a[j]? = some x := by simpa using h
end
end Go.Proofs.YtdbnohpolknbbaaGreat
