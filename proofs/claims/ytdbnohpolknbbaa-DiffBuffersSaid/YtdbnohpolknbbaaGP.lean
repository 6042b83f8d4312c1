/-
  The law of buffers.
  From a law's contract to its row: every argument reads behind the call as it read before.
-/
import Derived.Test.YtdbnohpolknbbaaUBd
import Derived.Test.YtdbnohpolknbbaaRows
import Derived.Test.YtdbnohpolknbbaaLka
import Derived.Test.YtdbnohpolknbbaaE5
import Derived.ProofKit
namespace Go.Proofs.Ytdbnohpolknbbaa
open Av Bk

set_option maxRecDepth 100000 in
theorem fnOk_lBf : FnOk Try.prog 3 Try.f3 := ⟨by rfl, by kernel_rfl, by
  show okCode _ _ = true ∧ drawsOk _ = true
  exact ⟨by kernel_rfl, by kernel_rfl⟩⟩
noncomputable def lBf_C : Cx := ⟨tb, [], [(7, spAwU), (6, spFar), (8, spDv), (9, spSh), (10, spHasU)]⟩
theorem lBf_D : SpecsOk Try.prog lBf_C.specs := .cons awakeU_ok (.cons far_ok (.cons dDiff_ok (.cons dShared_ok (.cons hasU_ok .nil))))
theorem lBf_F : FnsOk Try.prog lBf_C.fns := FnsOk.nil
abbrev lBf_N : Nat := 0
abbrev lBf_T : List Ty := [viewT, viewT]
abbrev lBf_FN := fnOk_lBf
set_option maxRecDepth 100000 in
set_option maxHeartbeats 8000000 in
theorem lBf' (b : List entT.El) (rs : List runT.El) (b2 : List entT.El) (rs2 : List runT.El) : bodyA lBf_C (callN lBf_C lBf_N) Try.f3 [.agg [.lst entT b, .lst runT rs], .agg [.lst entT b2, .lst runT rs2]] [] (fun v _ => v = .bool true) := by
  by_cases f1 : farB b rs = true
  · conv => whnf
    repeat' first
      | ((first | refine auIk ?_ | refine auIi ?_ | refine auT ?_ | refine auF ?_ | with_reducible first | refine auKt ?_ | refine auKf ?_ | refine auNt ?_ | refine auNf ?_ | refine auEt ?_ | refine auEf ?_); conv => whnf)
      | ((with_reducible first | refine br_dec (fun h => ?_) (fun h => ?_) | refine br_ndec (fun h => ?_) (fun h => ?_) | refine br_ne (fun h => ?_) (fun h => ?_) | refine br_eq (fun h => ?_) (fun h => ?_)) <;> first | (exfalso; omega) | conv => whnf)
      | (refine br_intro (fun h => ?_) (fun h => ?_) <;> conv => whnf)
      | ((first | refine auNd ?_ | refine idx_nat (by omega) (fun x hx => ?_) | refine frz_auto ?_ | refine draw_plain ?_ | refine auIx (fun x hx => ?_)); conv => whnf)
  · have f1 : farB b rs = false := by simpa using f1
    by_cases f2 : farB b2 rs2 = true
    · conv => whnf
      repeat' first
        | ((first | refine auIk ?_ | refine auIi ?_ | refine auT ?_ | refine auF ?_ | with_reducible first | refine auKt ?_ | refine auKf ?_ | refine auNt ?_ | refine auNf ?_ | refine auEt ?_ | refine auEf ?_); conv => whnf)
        | ((with_reducible first | refine br_dec (fun h => ?_) (fun h => ?_) | refine br_ndec (fun h => ?_) (fun h => ?_) | refine br_ne (fun h => ?_) (fun h => ?_) | refine br_eq (fun h => ?_) (fun h => ?_)) <;> first | (exfalso; omega) | conv => whnf)
        | (refine br_intro (fun h => ?_) (fun h => ?_) <;> conv => whnf)
        | ((first | refine auNd ?_ | refine idx_nat (by omega) (fun x hx => ?_) | refine frz_auto ?_ | refine draw_plain ?_ | refine auIx (fun x hx => ?_)); conv => whnf)
    · have f2 : farB b2 rs2 = false := by simpa using f2
      by_cases he : dvE b rs b2 rs = 0
      · obtain ⟨h1, h2⟩ := dv_zero he
        have hl1 := far_alU f1
        have hb2 := (vcL_zero h2).lb
        have hl2 : (allE b2 rs).length ≤ 4000 := by
          have e1 : (allE b rs).length = b.length + (rs.map (fun r => r.2.1)).flatten.length := by rw [all_cons, List.length_append]
          have e2 : (allE b2 rs).length = b2.length + (rs.map (fun r => r.2.1)).flatten.length := by rw [all_cons, List.length_append]
          omega
        have hd := dvR_few h1 h2 (by omega) hl2
        have hde : (dvR b rs b2 rs).2 = 0 := by rw [hd]
        have hdl : (dvR b rs b2 rs).1.length ≤ 8000 := dvR_len b rs b2 rs
        have hdh : dhR b rs b2 rs = (sortedI (shL rs rs), 0) := by unfold dhR; rw [if_neg (by simp [he])]
        have hde2 : (dhR b rs b2 rs).2 = 0 := by rw [hdh]
        have hlb := (vcL_zero h1).lb
        conv => whnf
        repeat' first
          | ((first | refine auIk ?_ | refine auIi ?_ | refine auT ?_ | refine auF ?_ | with_reducible first | refine auKt ?_ | refine auKf ?_ | refine auNt ?_ | refine auNf ?_ | refine auEt ?_ | refine auEf ?_); conv => whnf)
          | ((with_reducible first | refine br_dec (fun h => ?_) (fun h => ?_) | refine br_ndec (fun h => ?_) (fun h => ?_) | refine br_ne (fun h => ?_) (fun h => ?_) | refine br_eq (fun h => ?_) (fun h => ?_)) <;> first | (exfalso; omega) | conv => whnf)
          | (refine br_intro (fun h => ?_) (fun h => ?_) <;> conv => whnf)
          | ((first | refine auNd ?_ | refine idx_nat (by omega) (fun x hx => ?_) | refine frz_auto ?_ | refine draw_plain ?_ | refine auIx (fun x hx => ?_)); conv => whnf)
        have hkey : ∀ x ∈ (dvR b rs b2 rs).1, hasE b x.2.1 = true ∨ hasE b2 x.2.1 = true := by rw [hd]; exact fun x hx => buf_key hx
        refine loop_inv [] [10] (fun vs h => ∃ i : Nat, vs = [.int .i64 (i : Int)] ∧ h = [.cells 25 [.lst entT b, .lst runT rs], .cells 25 [.lst entT b2, .lst runT rs2], .cells 25 [.lst entT b2, .lst runT rs]] ∧ i ≤ (dvR b rs b2 rs).1.length) (fun vs _ => match vs with | [.int _ k] => (dvR b rs b2 rs).1.length - k.toNat | _ => 0) ?_
        conv => whnf
        refine ⟨⟨0, rfl, rfl, Nat.zero_le _⟩, ?_⟩
        rintro vs h' - ⟨i, rfl, rfl, hi⟩
        by_cases hil : i < (dvR b rs b2 rs).1.length
        · obtain ⟨x, hx⟩ : ∃ x, (dvR b rs b2 rs).1[i]? = some x := ⟨_, List.getElem?_eq_getElem hil⟩
          cases hA : hasE b x.2.1 with
          | true =>
            have hA2 : (!hasE b x.2.1) = false := by rw [hA]; rfl
            conv => whnf
            repeat' first
              | ((first | refine auIk ?_ | refine auIi ?_ | refine auT ?_ | refine auF ?_ | with_reducible first | refine auKt ?_ | refine auKf ?_ | refine auNt ?_ | refine auNf ?_ | refine auEt ?_ | refine auEf ?_); conv => whnf)
              | ((with_reducible first | refine br_dec (fun h => ?_) (fun h => ?_) | refine br_ndec (fun h => ?_) (fun h => ?_) | refine br_ne (fun h => ?_) (fun h => ?_) | refine br_eq (fun h => ?_) (fun h => ?_)) <;> first | (exfalso; omega) | conv => whnf)
              | (refine br_intro (fun h => ?_) (fun h => ?_) <;> conv => whnf)
              | ((first | refine auNd ?_ | refine idx_nat (by omega) (fun x hx => ?_) | refine frz_auto ?_ | refine draw_plain ?_ | refine auIx (fun x hx => ?_)); conv => whnf)
            refine back_intro (by conv => whnf) rfl ⟨i + 1, rfl, rfl, by omega⟩ ?_
            show (dvR b rs b2 rs).1.length - ((i : Int) + 1).toNat < (dvR b rs b2 rs).1.length - (i : Int).toNat
            omega
          | false =>
            have hA2 : (!hasE b x.2.1) = true := by rw [hA]; rfl
            have hB : hasE b2 x.2.1 = true := (hkey x (List.mem_of_getElem? hx)).resolve_left (by rw [hA]; decide)
            have hB2 : (!hasE b2 x.2.1) = false := by rw [hB]; rfl
            conv => whnf
            repeat' first
              | ((first | refine auIk ?_ | refine auIi ?_ | refine auT ?_ | refine auF ?_ | with_reducible first | refine auKt ?_ | refine auKf ?_ | refine auNt ?_ | refine auNf ?_ | refine auEt ?_ | refine auEf ?_); conv => whnf)
              | ((with_reducible first | refine br_dec (fun h => ?_) (fun h => ?_) | refine br_ndec (fun h => ?_) (fun h => ?_) | refine br_ne (fun h => ?_) (fun h => ?_) | refine br_eq (fun h => ?_) (fun h => ?_)) <;> first | (exfalso; omega) | conv => whnf)
              | (refine br_intro (fun h => ?_) (fun h => ?_) <;> conv => whnf)
              | ((first | refine auNd ?_ | refine idx_nat (by omega) (fun x hx => ?_) | refine frz_auto ?_ | refine draw_plain ?_ | refine auIx (fun x hx => ?_)); conv => whnf)
            refine back_intro (by conv => whnf) rfl ⟨i + 1, rfl, rfl, by omega⟩ ?_
            show (dvR b rs b2 rs).1.length - ((i : Int) + 1).toNat < (dvR b rs b2 rs).1.length - (i : Int).toNat
            omega
        · have hlen : ((dhR b rs b2 rs).1.length : Int) = (rs.length : Int) := by rw [hdh]; exact congrArg _ (sh_self rs)
          clear hkey hd hdh
          rcases rs with _ | ⟨r, rs⟩
          · have hz : (([] : List runT.El).length : Int) = 0 := rfl
            conv => whnf
            repeat' first
              | ((first | refine auIk ?_ | refine auIi ?_ | refine auT ?_ | refine auF ?_ | with_reducible first | refine auKt ?_ | refine auKf ?_ | refine auNt ?_ | refine auNf ?_ | refine auEt ?_ | refine auEf ?_); conv => whnf)
              | ((with_reducible first | refine br_dec (fun h => ?_) (fun h => ?_) | refine br_ndec (fun h => ?_) (fun h => ?_) | refine br_ne (fun h => ?_) (fun h => ?_) | refine br_eq (fun h => ?_) (fun h => ?_)) <;> first | (exfalso; omega) | conv => whnf)
              | (refine br_intro (fun h => ?_) (fun h => ?_) <;> conv => whnf)
              | ((first | refine auNd ?_ | refine idx_nat (by omega) (fun x hx => ?_) | refine frz_auto ?_ | refine draw_plain ?_ | refine auIx (fun x hx => ?_)); conv => whnf)
          · have hpos : 0 < ((r :: rs).length : Int) := by rw [List.length_cons]; omega
            have hr0 : (r :: rs)[Int.toNat 0]? = some r := rfl
            have ht := vc_tail h1
            have hrl := run_len h1 (r := r) List.mem_cons_self
            have hT : (List.take (((r :: rs).length : Int).toNat - Int.toNat 1) (List.drop (Int.toNat 1) (r :: rs))) = rs := tail_take
            have e1 : (allE b (r :: rs)).length = b.length + (r.2.1.length + (rs.map (fun r => r.2.1)).flatten.length) := by rw [all_cons, List.length_append, List.map_cons, List.flatten_cons, List.length_append]
            have e2 : (allE b rs).length = b.length + (rs.map (fun r => r.2.1)).flatten.length := by rw [all_cons, List.length_append]
            have hd := dvR_few ht h1 (by omega) (by omega)
            have hde : (dvR b (List.take (((r :: rs).length : Int).toNat - Int.toNat 1) (List.drop (Int.toNat 1) (r :: rs))) b (r :: rs)).2 = 0 := by rw [hT, hd]
            have hdl : (dvR b (List.take (((r :: rs).length : Int).toNat - Int.toNat 1) (List.drop (Int.toNat 1) (r :: rs))) b (r :: rs)).1.length ≤ 8000 := dvR_len _ _ _ _
            have hkey : ∀ x ∈ (dvR b (List.take (((r :: rs).length : Int).toNat - Int.toNat 1) (List.drop (Int.toNat 1) (r :: rs))) b (r :: rs)).1, hasE r.2.1 x.2.1 = true ∧ hasE b x.2.1 = false := by rw [hT, hd]; exact fun x hx => run_key hx
            conv => whnf
            repeat' first
              | ((first | refine auIk ?_ | refine auIi ?_ | refine auT ?_ | refine auF ?_ | with_reducible first | refine auKt ?_ | refine auKf ?_ | refine auNt ?_ | refine auNf ?_ | refine auEt ?_ | refine auEf ?_); conv => whnf)
              | ((with_reducible first | refine br_dec (fun h => ?_) (fun h => ?_) | refine br_ndec (fun h => ?_) (fun h => ?_) | refine br_ne (fun h => ?_) (fun h => ?_) | refine br_eq (fun h => ?_) (fun h => ?_)) <;> first | (exfalso; omega) | conv => whnf)
              | (refine br_intro (fun h => ?_) (fun h => ?_) <;> conv => whnf)
              | ((first | refine auNd ?_ | refine idx_nat (by omega) (fun x hx => ?_) | refine frz_auto ?_ | refine draw_plain ?_ | refine auIx (fun x hx => ?_)); conv => whnf)
            refine loop_inv [] [14] (fun vs h => ∃ i : Nat, vs = [.int .i64 (i : Int)] ∧ h = [.cells 25 [.lst entT b, .lst runT (r :: rs)], .cells 25 [.lst entT b2, .lst runT rs2], .cells 25 [.lst entT b2, .lst runT (r :: rs)], .resv, .resv, .resv, .resv, .resv, .resv, .cells 25 [.lst entT b, .lst runT (List.take (((r :: rs).length : Int).toNat - Int.toNat 1) (List.drop (Int.toNat 1) (r :: rs)))]] ∧ i ≤ (dvR b (List.take (((r :: rs).length : Int).toNat - Int.toNat 1) (List.drop (Int.toNat 1) (r :: rs))) b (r :: rs)).1.length) (fun vs _ => match vs with | [.int _ k] => (dvR b (List.take (((r :: rs).length : Int).toNat - Int.toNat 1) (List.drop (Int.toNat 1) (r :: rs))) b (r :: rs)).1.length - k.toNat | _ => 0) ?_
            conv => whnf
            refine ⟨⟨0, rfl, rfl, Nat.zero_le _⟩, ?_⟩
            rintro vs h' - ⟨i, rfl, rfl, hi⟩
            by_cases hil : i < (dvR b (List.take (((r :: rs).length : Int).toNat - Int.toNat 1) (List.drop (Int.toNat 1) (r :: rs))) b (r :: rs)).1.length
            · obtain ⟨x, hx⟩ : ∃ x, (dvR b (List.take (((r :: rs).length : Int).toNat - Int.toNat 1) (List.drop (Int.toNat 1) (r :: rs))) b (r :: rs)).1[i]? = some x := ⟨_, List.getElem?_eq_getElem hil⟩
              obtain ⟨hA, hB⟩ := hkey x (List.mem_of_getElem? hx)
              have hA2 : (!hasE r.2.1 x.2.1) = false := by rw [hA]; rfl
              conv => whnf
              repeat' first
                | ((first | refine auIk ?_ | refine auIi ?_ | refine auT ?_ | refine auF ?_ | with_reducible first | refine auKt ?_ | refine auKf ?_ | refine auNt ?_ | refine auNf ?_ | refine auEt ?_ | refine auEf ?_); conv => whnf)
                | ((with_reducible first | refine br_dec (fun h => ?_) (fun h => ?_) | refine br_ndec (fun h => ?_) (fun h => ?_) | refine br_ne (fun h => ?_) (fun h => ?_) | refine br_eq (fun h => ?_) (fun h => ?_)) <;> first | (exfalso; omega) | conv => whnf)
                | (refine br_intro (fun h => ?_) (fun h => ?_) <;> conv => whnf)
                | ((first | refine auNd ?_ | refine idx_nat (by omega) (fun x hx => ?_) | refine frz_auto ?_ | refine draw_plain ?_ | refine auIx (fun x hx => ?_)); conv => whnf)
              refine back_intro (by conv => whnf) rfl ⟨i + 1, rfl, rfl, by omega⟩ ?_
              show (dvR b (List.take (((r :: rs).length : Int).toNat - Int.toNat 1) (List.drop (Int.toNat 1) (r :: rs))) b (r :: rs)).1.length - ((i : Int) + 1).toNat < (dvR b (List.take (((r :: rs).length : Int).toNat - Int.toNat 1) (List.drop (Int.toNat 1) (r :: rs))) b (r :: rs)).1.length - (i : Int).toNat
              omega
            · conv => whnf
              repeat' first
                | ((first | refine auIk ?_ | refine auIi ?_ | refine auT ?_ | refine auF ?_ | with_reducible first | refine auKt ?_ | refine auKf ?_ | refine auNt ?_ | refine auNf ?_ | refine auEt ?_ | refine auEf ?_); conv => whnf)
                | ((with_reducible first | refine br_dec (fun h => ?_) (fun h => ?_) | refine br_ndec (fun h => ?_) (fun h => ?_) | refine br_ne (fun h => ?_) (fun h => ?_) | refine br_eq (fun h => ?_) (fun h => ?_)) <;> first | (exfalso; omega) | conv => whnf)
                | (refine br_intro (fun h => ?_) (fun h => ?_) <;> conv => whnf)
                | ((first | refine auNd ?_ | refine idx_nat (by omega) (fun x hx => ?_) | refine frz_auto ?_ | refine draw_plain ?_ | refine auIx (fun x hx => ?_)); conv => whnf)
      · have hd := dvR_bad he
        have g0 : (dvR b rs b2 rs).2 = dvE b rs b2 rs := by rw [hd]
        have hdh : dhR b rs b2 rs = ([], dvE b rs b2 rs) := by unfold dhR; rw [if_pos he]
        have g1 : ¬ (dvR b rs b2 rs).2 = 0 := by rw [hd]; exact he
        have g2 : (dvR b rs b2 rs).2 = (dhR b rs b2 rs).2 := by rw [hd, hdh]
        have g3 : ((dvR b rs b2 rs).1.length : Int) = 0 := by rw [hd]; rfl
        have g4 : ((dhR b rs b2 rs).1.length : Int) = 0 := by rw [hdh]; rfl
        conv => whnf
        repeat' first
          | ((first | refine auIk ?_ | refine auIi ?_ | refine auT ?_ | refine auF ?_ | with_reducible first | refine auKt ?_ | refine auKf ?_ | refine auNt ?_ | refine auNf ?_ | refine auEt ?_ | refine auEf ?_); conv => whnf)
          | ((with_reducible first | refine br_dec (fun h => ?_) (fun h => ?_) | refine br_ndec (fun h => ?_) (fun h => ?_) | refine br_ne (fun h => ?_) (fun h => ?_) | refine br_eq (fun h => ?_) (fun h => ?_)) <;> first | (exfalso; omega) | conv => whnf)
          | (refine br_intro (fun h => ?_) (fun h => ?_) <;> conv => whnf)
          | ((first | refine auNd ?_ | refine idx_nat (by omega) (fun x hx => ?_) | refine frz_auto ?_ | refine draw_plain ?_ | refine auIx (fun x hx => ?_)); conv => whnf)
theorem lBf : ∀ es : Ty.Els lBf_T, tyOks lBf_T es → bodyA lBf_C (callN lBf_C lBf_N) Try.f3 (avTs lBf_T es) [] (fun v _ => v = .bool true) := by
  rintro ⟨⟨b, rs, _⟩, ⟨b2, rs2, _⟩, _⟩ _
  exact lBf' b rs b2 rs2
end Go.Proofs.Ytdbnohpolknbbaa
namespace Go.Proofs.Ytdbnohpolknbbaa
open Go.ChangeShapes Go.WideShapes Go.ChangeAt Go.RowKit Go.Joins Go.Deep Av

theorem Try.own : ownKnob Try.prog.godebug = none := by kernel_rfl
theorem Try.laidOut : laidOutB Try.prog = true := by kernel_rfl

section
variable {H : Type} {enc : TypeId × Value → H} {w : World}

/-- Every argument reads as it did. -/
theorem all_below {W W' : World} (hb : Below W.heap.size W W') : ∀ (ts : List TypeId) (vs : List Value) (ds : List (DataW H)) (ps : List MemPlace), (∀ t ∈ ts, Try.prog.readableRec t = true ∧ t < Try.prog.types.size) →
    DataW.TrodAll enc Try.prog W 0 (fun _ => true) true ts vs ds ps → (∀ x ∈ ps, x.block < W.heap.size) → DataW.TrodAll enc Try.prog W' 0 (fun b => decide (b < W.heap.size)) true ts vs ds ps
  | [], vs, ds, ps, _, h, _ => by
    obtain ⟨rfl, rfl, rfl⟩ := trodAll_nil h
    exact trodAll_mk0
  | t :: ts, vs, ds, ps, hr, h, hlt => by
    obtain ⟨v, vs', d, ds', p, q, rfl, rfl, rfl, h1, h2⟩ := trodAll_cons h
    obtain ⟨r1, r2⟩ := hr t (by simp)
    exact trodAll_cons_mk (Below.trod Try.laidOut r1 r2 h1 hb (fun x hx => hlt x (by simp [hx]))) (all_below hb ts vs' ds' q (fun t' ht' => hr t' (by simp [ht'])) h2 (fun x hx => hlt x (by simp [hx])))

/-- What the row asks of the end of a law. -/
theorem law_post {f : Func} {s : ChangeSpec} {W W' : World} {args : Array Value} {ds gs : List (DataW H)} {before : List MemPlace} (hW : DataW.Whole enc Try.prog f.params.toList s.vars false W args.toList ds gs before)
    (hv : s.vars = []) (hres : (s.fn H (ds ++ [])).results = [.lit (.bool true)]) (hargs : (s.fn H (ds ++ [])).args = ds) (hvs : (s.fn H (ds ++ [])).vars = []) (hR : f.resultTypes = #[4])
    (hr : ∀ t ∈ f.params.toList, Try.prog.readableRec t = true ∧ t < Try.prog.types.size) (hb : Below W.heap.size W W') :
    s.post enc Try.prog f false true false false W args (.bool true) W' := by
  have hlt := hW.lt
  have hW' := hW
  obtain ⟨p, q, hA, hV, rfl, _, _⟩ := hW
  rw [hv] at hV
  obtain ⟨rfl, rfl⟩ := trodVars_none hV
  refine ⟨ds, [], p ++ [], [], p, [], hW', ?_, ?_, ?_, hb.frame _, fun h => by cases h⟩
  · rw [hres, hR]
    exact trodAll_mk1 (shut_bool Try.underlying4 true)
  · rw [hargs]
    exact all_below hb _ _ _ _ hr hA (fun x hx => hlt x (by simp [hx]))
  · rw [hv, hvs]
    exact rfl


theorem trodAll_len {W : World} {base : Nat} {spare : Nat → Bool} {held : Bool} : ∀ {ts : List TypeId} {vs : List Value} {ds : List (DataW H)} {ps : List MemPlace}, DataW.TrodAll enc Try.prog W base spare held ts vs ds ps → ds.length = ts.length
  | [], vs, ds, ps, h => by
    obtain ⟨rfl, rfl, rfl⟩ := trodAll_nil h
    rfl
  | t :: ts, vs, ds, ps, h => by
    obtain ⟨v, vs', D, ds', p, q, rfl, rfl, rfl, h1, h2⟩ := trodAll_cons h
    simp only [List.length_cons, trodAll_len h2]
theorem arr_get {α : Type} {a : Array α} {j : Nat} {x : α} (h : a.toList[j]? = some x) : a[j]? = some x := by simpa using h
end
end Go.Proofs.Ytdbnohpolknbbaa
