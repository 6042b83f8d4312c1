/-
  The laws of differences behind others.
  From a law's contract to its row: every argument reads behind the call as it read before.
-/
import Derived.Test.YtdbnohpolknbbaaIa
import Derived.Test.YtdbnohpolknbbaaUu
import Derived.Test.YtdbnohpolknbbaaRows
import Derived.Test.YtdbnohpolknbbaaLka
import Derived.Test.YtdbnohpolknbbaaE5
import Derived.ProofKit
namespace Go.Proofs.Ytdbnohpolknbbaa
open Av Bk

set_option maxRecDepth 100000 in
theorem fnOk_lCh : FnOk Try.prog 5 Try.f5 := ⟨by rfl, by kernel_rfl, by
  show okCode _ _ = true ∧ drawsOk _ = true
  exact ⟨by kernel_rfl, by kernel_rfl⟩⟩
noncomputable def lCh_C : Cx := ⟨tb, [], [(7, spAwU), (6, spFar), (8, spDv), (12, spTh), (14, spSameI)]⟩
theorem lCh_D : SpecsOk Try.prog lCh_C.specs := .cons awakeU_ok (.cons far_ok (.cons dDiff_ok (.cons dThen_ok (.cons sameIt_ok .nil))))
theorem lCh_F : FnsOk Try.prog lCh_C.fns := FnsOk.nil
abbrev lCh_N : Nat := 0
abbrev lCh_T : List Ty := [viewT, viewT, viewT]
abbrev lCh_FN := fnOk_lCh
set_option maxRecDepth 100000 in
set_option maxHeartbeats 8000000 in
theorem lCh' (b : List entT.El) (rs : List runT.El) (b2 : List entT.El) (rs2 : List runT.El) (b3 : List entT.El) (rs3 : List runT.El) : bodyA lCh_C (callN lCh_C lCh_N) Try.f5 [.agg [.lst entT b, .lst runT rs], .agg [.lst entT b2, .lst runT rs2], .agg [.lst entT b3, .lst runT rs3]] [] (fun v _ => v = .bool true) := by
  by_cases f1 : farB b rs = true
  · conv => whnf
    repeat' first
      | ((first | refine auIk ?_ | refine auIi ?_ | refine auT ?_ | refine auF ?_ | with_reducible first | refine auKt ?_ | refine auKf ?_ | refine auNt ?_ | refine auNf ?_ | refine auEt ?_ | refine auEf ?_); conv => whnf)
      | ((with_reducible first | refine br_dec (fun h => ?_) (fun h => ?_) | refine br_ndec (fun h => ?_) (fun h => ?_) | refine br_ne (fun h => ?_) (fun h => ?_) | refine br_eq (fun h => ?_) (fun h => ?_)) <;> first | (exfalso; omega) | conv => whnf)
      | (refine br_intro (fun h => ?_) (fun h => ?_) <;> conv => whnf)
      | ((first | refine auNd ?_ | refine idx_nat (by omega) (fun x hx => ?_) | refine frz_auto ?_ | refine draw_plain ?_ | refine auIx (fun x hx => ?_)); conv => whnf)
  · have f1 : farB b rs = false := by simpa using f1
    by_cases f2 : farB b2 rs2 = true
    · conv => whnf
      repeat' first
        | ((first | refine auIk ?_ | refine auIi ?_ | refine auT ?_ | refine auF ?_ | with_reducible first | refine auKt ?_ | refine auKf ?_ | refine auNt ?_ | refine auNf ?_ | refine auEt ?_ | refine auEf ?_); conv => whnf)
        | ((with_reducible first | refine br_dec (fun h => ?_) (fun h => ?_) | refine br_ndec (fun h => ?_) (fun h => ?_) | refine br_ne (fun h => ?_) (fun h => ?_) | refine br_eq (fun h => ?_) (fun h => ?_)) <;> first | (exfalso; omega) | conv => whnf)
        | (refine br_intro (fun h => ?_) (fun h => ?_) <;> conv => whnf)
        | ((first | refine auNd ?_ | refine idx_nat (by omega) (fun x hx => ?_) | refine frz_auto ?_ | refine draw_plain ?_ | refine auIx (fun x hx => ?_)); conv => whnf)
    · have f2 : farB b2 rs2 = false := by simpa using f2
      by_cases f3 : farB b3 rs3 = true
      · conv => whnf
        repeat' first
          | ((first | refine auIk ?_ | refine auIi ?_ | refine auT ?_ | refine auF ?_ | with_reducible first | refine auKt ?_ | refine auKf ?_ | refine auNt ?_ | refine auNf ?_ | refine auEt ?_ | refine auEf ?_); conv => whnf)
          | ((with_reducible first | refine br_dec (fun h => ?_) (fun h => ?_) | refine br_ndec (fun h => ?_) (fun h => ?_) | refine br_ne (fun h => ?_) (fun h => ?_) | refine br_eq (fun h => ?_) (fun h => ?_)) <;> first | (exfalso; omega) | conv => whnf)
          | (refine br_intro (fun h => ?_) (fun h => ?_) <;> conv => whnf)
          | ((first | refine auNd ?_ | refine idx_nat (by omega) (fun x hx => ?_) | refine frz_auto ?_ | refine draw_plain ?_ | refine auIx (fun x hx => ?_)); conv => whnf)
      · have f3 : farB b3 rs3 = false := by simpa using f3
        have n1 : (dvR b rs b2 rs2).1.length ≤ 4611686018427387904 := by have := dvR_len b rs b2 rs2; omega
        have n2 : (dvR b2 rs2 b3 rs3).1.length ≤ 4611686018427387904 := by have := dvR_len b2 rs2 b3 rs3; omega
        have n3 : (dvR b2 rs2 b rs).1.length ≤ 4611686018427387904 := by have := dvR_len b2 rs2 b rs; omega
        have n4 : (thR (dvR b rs b2 rs2).1 (dvR b2 rs2 b3 rs3).1).1.length ≤ 4611686018427387904 := by have := thR_len (dvR b rs b2 rs2).1 (dvR b2 rs2 b3 rs3).1; omega
        by_cases h1 : (vcL b rs).2 = 0
        · by_cases h2 : (vcL b2 rs2).2 = 0
          · by_cases h3 : (vcL b3 rs3).2 = 0
            · have m1 := mV_good h1 f1
              have m2 := mV_good h2 f2
              have m3 := mV_good h3 f3
              have d12 := dvR_good h1 h2 f1 f2
              have d23 := dvR_good h2 h3 f2 f3
              have d13 := dvR_good h1 h3 f1 f3
              have d21 := dvR_good h2 h1 f2 f1
              have e12 : (dvR b rs b2 rs2).2 = 0 := by rw [d12]
              have e23 : (dvR b2 rs2 b3 rs3).2 = 0 := by rw [d23]
              have e13 : (dvR b rs b3 rs3).2 = 0 := by rw [d13]
              have e21 : (dvR b2 rs2 b rs).2 = 0 := by rw [d21]
              have ht : thR (dvR b rs b2 rs2).1 (dvR b2 rs2 b3 rs3).1 = ((dvR b rs b3 rs3).1, 0, 0) := by
                rw [d12, d23, d13]
                exact th_diff (by rw [m1]) (by rw [m2]) (by rw [m3])
              have hb : thR (dvR b rs b2 rs2).1 (dvR b2 rs2 b rs).1 = ([], 0, 0) := by
                rw [d12, d21]
                have h := th_diff (A := mV b rs) (B := mV b2 rs2) (C := mV b rs) (by rw [m1]) (by rw [m2]) (by rw [m1])
                rw [diff_self (mapL_asc _)] at h
                exact h
              have g1 : sameL itemT (thR (dvR b rs b2 rs2).1 (dvR b2 rs2 b3 rs3).1).1 (dvR b rs b3 rs3).1 = true := by rw [ht]; exact sameI_refl _
              have g2 : (thR (dvR b rs b2 rs2).1 (dvR b2 rs2 b3 rs3).1).2.1 = 0 := by rw [ht]
              have g3 : (thR (dvR b rs b2 rs2).1 (dvR b2 rs2 b3 rs3).1).2.2 = 0 := by rw [ht]
              have g4 : ((thR (dvR b rs b2 rs2).1 (dvR b2 rs2 b rs).1).1.length : Int) = 0 := by rw [hb]; rfl
              have g5 : (thR (dvR b rs b2 rs2).1 (dvR b2 rs2 b rs).1).2.2 = 0 := by rw [hb]
              conv => whnf
              repeat' first
                | ((first | refine auIk ?_ | refine auIi ?_ | refine auT ?_ | refine auF ?_ | with_reducible first | refine auKt ?_ | refine auKf ?_ | refine auNt ?_ | refine auNf ?_ | refine auEt ?_ | refine auEf ?_); conv => whnf)
                | ((with_reducible first | refine br_dec (fun h => ?_) (fun h => ?_) | refine br_ndec (fun h => ?_) (fun h => ?_) | refine br_ne (fun h => ?_) (fun h => ?_) | refine br_eq (fun h => ?_) (fun h => ?_)) <;> first | (exfalso; omega) | conv => whnf)
                | (refine br_intro (fun h => ?_) (fun h => ?_) <;> conv => whnf)
                | ((first | refine auNd ?_ | refine idx_nat (by omega) (fun x hx => ?_) | refine frz_auto ?_ | refine draw_plain ?_ | refine auIx (fun x hx => ?_)); conv => whnf)
            · have he : dvE b2 rs2 b3 rs3 ≠ 0 := fun e => h3 (dv_zero e).2
              have hd := dvR_bad he
              have g2 : ¬ (dvR b2 rs2 b3 rs3).2 = 0 := by rw [hd]; exact he
              conv => whnf
              repeat' first
                | ((first | refine auIk ?_ | refine auIi ?_ | refine auT ?_ | refine auF ?_ | with_reducible first | refine auKt ?_ | refine auKf ?_ | refine auNt ?_ | refine auNf ?_ | refine auEt ?_ | refine auEf ?_); conv => whnf)
                | ((with_reducible first | refine br_dec (fun h => ?_) (fun h => ?_) | refine br_ndec (fun h => ?_) (fun h => ?_) | refine br_ne (fun h => ?_) (fun h => ?_) | refine br_eq (fun h => ?_) (fun h => ?_)) <;> first | (exfalso; omega) | conv => whnf)
                | (refine br_intro (fun h => ?_) (fun h => ?_) <;> conv => whnf)
                | ((first | refine auNd ?_ | refine idx_nat (by omega) (fun x hx => ?_) | refine frz_auto ?_ | refine draw_plain ?_ | refine auIx (fun x hx => ?_)); conv => whnf)
          · have he : dvE b rs b2 rs2 ≠ 0 := fun e => h2 (dv_zero e).2
            have hd := dvR_bad he
            have g2 : ¬ (dvR b rs b2 rs2).2 = 0 := by rw [hd]; exact he
            conv => whnf
            repeat' first
              | ((first | refine auIk ?_ | refine auIi ?_ | refine auT ?_ | refine auF ?_ | with_reducible first | refine auKt ?_ | refine auKf ?_ | refine auNt ?_ | refine auNf ?_ | refine auEt ?_ | refine auEf ?_); conv => whnf)
              | ((with_reducible first | refine br_dec (fun h => ?_) (fun h => ?_) | refine br_ndec (fun h => ?_) (fun h => ?_) | refine br_ne (fun h => ?_) (fun h => ?_) | refine br_eq (fun h => ?_) (fun h => ?_)) <;> first | (exfalso; omega) | conv => whnf)
              | (refine br_intro (fun h => ?_) (fun h => ?_) <;> conv => whnf)
              | ((first | refine auNd ?_ | refine idx_nat (by omega) (fun x hx => ?_) | refine frz_auto ?_ | refine draw_plain ?_ | refine auIx (fun x hx => ?_)); conv => whnf)
        · have he : dvE b rs b2 rs2 ≠ 0 := fun e => h1 (dv_zero e).1
          have hd := dvR_bad he
          have g2 : ¬ (dvR b rs b2 rs2).2 = 0 := by rw [hd]; exact he
          conv => whnf
          repeat' first
            | ((first | refine auIk ?_ | refine auIi ?_ | refine auT ?_ | refine auF ?_ | with_reducible first | refine auKt ?_ | refine auKf ?_ | refine auNt ?_ | refine auNf ?_ | refine auEt ?_ | refine auEf ?_); conv => whnf)
            | ((with_reducible first | refine br_dec (fun h => ?_) (fun h => ?_) | refine br_ndec (fun h => ?_) (fun h => ?_) | refine br_ne (fun h => ?_) (fun h => ?_) | refine br_eq (fun h => ?_) (fun h => ?_)) <;> first | (exfalso; omega) | conv => whnf)
            | (refine br_intro (fun h => ?_) (fun h => ?_) <;> conv => whnf)
            | ((first | refine auNd ?_ | refine idx_nat (by omega) (fun x hx => ?_) | refine frz_auto ?_ | refine draw_plain ?_ | refine auIx (fun x hx => ?_)); conv => whnf)
theorem lCh : ∀ es : Ty.Els lCh_T, tyOks lCh_T es → bodyA lCh_C (callN lCh_C lCh_N) Try.f5 (avTs lCh_T es) [] (fun v _ => v = .bool true) := by
  rintro ⟨⟨b, rs, _⟩, ⟨b2, rs2, _⟩, ⟨b3, rs3, _⟩, _⟩ _
  exact lCh' b rs b2 rs2 b3 rs3
end Go.Proofs.Ytdbnohpolknbbaa
namespace Go.Proofs.Ytdbnohpolknbbaa
open Go.ChangeShapes Go.WideShapes Go.ChangeAt Go.RowKit Go.Joins Go.Deep Av

theorem Try.own : ownKnob Try.prog.godebug = none := by kernel_rfl
theorem Try.laidOut : laidOutB Try.prog = true := by kernel_rfl

section
variable {H : Type} {enc : TypeId × Value → H} {w : World}

/-- Every argument reads as it did. -/
theorem all_below {W W' : World} (hb : Below W.heap.size W W') : ∀ (ts : List TypeId) (vs : List Value) (ds : List (DataW H)) (ps : List MemPlace), (∀ t ∈ ts, Try.prog.readableRec t = true ∧ t < Try.prog.types.size) →
    DataW.TrodAll enc Try.prog W 0 (fun _ => true) true ts vs ds ps → (∀ x ∈ ps, x.block < W.heap.size) → DataW.TrodAll enc Try.prog W' 0 (fun b => decide (b < W.heap.size)) true ts vs ds ps
  | [], vs, ds, ps, _, h, _ => by
    obtain ⟨rfl, rfl, rfl⟩ := trodAll_nil h
    exact trodAll_mk0
  | t :: ts, vs, ds, ps, hr, h, hlt => by
    obtain ⟨v, vs', d, ds', p, q, rfl, rfl, rfl, h1, h2⟩ := trodAll_cons h
    obtain ⟨r1, r2⟩ := hr t (by simp)
    exact trodAll_cons_mk (Below.trod Try.laidOut r1 r2 h1 hb (fun x hx => hlt x (by simp [hx]))) (all_below hb ts vs' ds' q (fun t' ht' => hr t' (by simp [ht'])) h2 (fun x hx => hlt x (by simp [hx])))

/-- What the row asks of the end of a law. -/
theorem law_post {f : Func} {s : ChangeSpec} {W W' : World} {args : Array Value} {ds gs : List (DataW H)} {before : List MemPlace} (hW : DataW.Whole enc Try.prog f.params.toList s.vars false W args.toList ds gs before)
    (hv : s.vars = []) (hres : (s.fn H (ds ++ [])).results = [.lit (.bool true)]) (hargs : (s.fn H (ds ++ [])).args = ds) (hvs : (s.fn H (ds ++ [])).vars = []) (hR : f.resultTypes = #[4])
    (hr : ∀ t ∈ f.params.toList, Try.prog.readableRec t = true ∧ t < Try.prog.types.size) (hb : Below W.heap.size W W') :
    s.post enc Try.prog f false true false false W args (.bool true) W' := by
  have hlt := hW.lt
  have hW' := hW
  obtain ⟨p, q, hA, hV, rfl, _, _⟩ := hW
  rw [hv] at hV
  obtain ⟨rfl, rfl⟩ := trodVars_none hV
  refine ⟨ds, [], p ++ [], [], p, [], hW', ?_, ?_, ?_, hb.frame _, fun h => by cases h⟩
  · rw [hres, hR]
    exact trodAll_mk1 (shut_bool Try.underlying4 true)
  · rw [hargs]
    exact all_below hb _ _ _ _ hr hA (fun x hx => hlt x (by simp [hx]))
  · rw [hv, hvs]
    exact rfl


theorem trodAll_len {W : World} {base : Nat} {spare : Nat → Bool} {held : Bool} : ∀ {ts : List TypeId} {vs : List Value} {ds : List (DataW H)} {ps : List MemPlace}, DataW.TrodAll enc Try.prog W base spare held ts vs ds ps → ds.length = ts.length
  | [], vs, ds, ps, h => by
    obtain ⟨rfl, rfl, rfl⟩ := trodAll_nil h
    rfl
  | t :: ts, vs, ds, ps, h => by
    obtain ⟨v, vs', D, ds', p, q, rfl, rfl, rfl, h1, h2⟩ := trodAll_cons h
    simp only [List.length_cons, trodAll_len h2]
theorem arr_get {α : Type} {a : Array α} {j : Nat} {x : α} (h : a.toList[j]? = some x) : a[j]? = some x := by simpa using h
end
end Go.Proofs.Ytdbnohpolknbbaa
