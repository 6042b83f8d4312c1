/-
  The statement ShadowLater: its walk.
-/
import Derived.Test.YtmegjnanieafbaaShL5
import Derived.Test.YtmegjnanieafbaaShY
namespace Go.Proofs.Ytmegjnanieafbaa
open Go.RowKit Bk

theorem walk_zero {bot : Bool} {l : List Ent} {m : Nat} {i : Int} (h : WalkEnd bot l i 0 m) : ∀ j, j < l.length → errAt bot l j = 0 := by
  rcases h with ⟨_, _, h, _⟩ | ⟨_, _, _, _, h, _⟩ | h
  · exact absurd h (by decide)
  · exact absurd rfl h
  · intro j hj; exact h.2.2.2.2 j (by omega)
theorem kept_ok {l : List Ent} {bot : Bool} (h : ∀ x ∈ l, x.ok) : ∀ k, ∀ x ∈ keptOf (fatesTo bot l k), x.ok := by
  intro k x hx
  simp only [keptOf, List.mem_map, List.mem_filter] at hx
  obtain ⟨⟨n, y⟩, ⟨hy, _⟩, rfl⟩ := hx
  induction k with
  | zero => simp [fatesTo] at hy
  | succ k ih =>
    cases hx : l[k]? with
    | none => simp [fatesTo, hx] at hy; exact ih hy
    | some z =>
      rw [fatesTo_succ hx, List.mem_append] at hy
      rcases hy with hy | hy
      · exact ih hy
      · simp at hy
        obtain ⟨_, rfl⟩ := hy
        exact h _ (List.mem_of_getElem? hx)

set_option maxRecDepth 100000 in
set_option maxHeartbeats 4000000 in
theorem lawLater {l : List Ent} {v : Value} (w : World) (hok : ∀ x ∈ l, x.ok) (hv : EntSl w v l) :
    Calls Try.prog 9 #[v] w fun e w' => e = .returned (.bool true) ∧ Below w.heap.size w w' := by
  have HV := Lib.hid hv
  have HO := Lib.hid hok
  clear hok hv
  go_enter Try.func9, Try.ntmps9
  go_wp2_with (fail)
  refine (farAny w HO.out HV.out).mono ?_
  rintro e w' ⟨bb, rfl, rfl⟩
  cases bb
  · go_wp2_with (fail)
    refine (filterAny false w HO.out HV.out).mono ?_
    rintro e w1 ⟨a, i, E, m, hend, rfl, ha, hb1⟩
    have HE := Lib.hid hend
    clear hend
    by_cases hE : E = 0
    · subst hE
      obtain ⟨rfl, rfl, hlen⟩ := walk_full HE.out
      have hla := later_all (walk_zero HE.out) hlen
      have hoa := kept_ok (bot := false) HO.out l.length
      have ha' : EntSl w1 a (keptOf (fatesTo false l l.length)) := ha
      have HOA := Lib.hid hoa
      obtain ⟨p1, p2, p3, p4, p5, _, _⟩ := hla
      have cv1 : cntVal true (keptOf (fatesTo false l l.length)) 0 (keptOf (fatesTo false l l.length)).length = .agg #[.int .i64 (cntOf 0 (fatesTo true l l.length)), .int .i64 0, .int .i64 (cntOf 2 (fatesTo true l l.length))] := by
        rw [cntVal, if_pos rfl, p3, p4, p5]
      have cv2 : cntVal true l 0 l.length = .agg #[.int .i64 (cntOf 0 (fatesTo true l l.length)), .int .i64 (cntOf 1 (fatesTo true l l.length)), .int .i64 (cntOf 2 (fatesTo true l l.length))] := if_pos rfl
      have C1 := Lib.hid cv1
      have C2 := Lib.hid cv2
      have P1 := Lib.hid p1
      have P2 : Hid (outOf true (keptOf (fatesTo false l l.length)) 0 (keptOf (fatesTo false l l.length)).length = outOf true l 0 l.length) := p2
      clear cv1 cv2 p1 p2 p3 p4 p5 hoa ha
      revert C1 C2
      generalize cntOf 0 (fatesTo true l l.length) = n0
      generalize cntOf 1 (fatesTo true l l.length) = n1
      generalize cntOf 2 (fatesTo true l l.length) = n2
      intro C1 C2
      go_wp2_with (fail)
      refine (filterAny true w1 HOA.out ha').mono ?_
      rintro e w2 ⟨b, i2, E2, m2, hend2, rfl, hb, hb2⟩
      obtain ⟨rfl, rfl, rfl⟩ := P1.out.inj hend2
      rw [P2.out] at hb
      have hB2 := Below.old hb1 hb2
      have ha2 := ha'.mono hb2
      clear hend2 hb1 hb2 ha'
      go_wp2_with (fail)
      refine (filterAny true w2 HO.out (HV.out.mono hB2)).mono ?_
      rintro e w3 ⟨c, i3, E3, m3, hend3, rfl, hc, hb3⟩
      obtain ⟨rfl, rfl, rfl⟩ := (HE.out.bot (c := true)).inj hend3
      have hB3 := Below.old hB2 hb3
      have ha3 := ha2.mono hb3
      have hbb := hb.mono hb3
      clear hend3 hB2 hb3 ha2 hb
      go_wp2_with (fail)
      refine (countAny true w3 HOA.out ha3).mono ?_
      rintro e w4 ⟨i4, E4, m4, hend4, rfl, hb4⟩
      obtain ⟨rfl, rfl, rfl⟩ := P1.out.inj hend4
      rw [C1.out]
      have hB4 := Below.old hB3 hb4
      have hc4 := hc.mono hb4
      have hbb4 := hbb.mono hb4
      clear hend4 hB3 hb4 ha3 hbb hc
      go_wp2_with (fail)
      refine (countAny true _ HO.out (HV.out.mono (hB4.alloc hB4.size _))).mono ?_
      rintro e w5 ⟨i5, E5, m5, hend5, rfl, hb5⟩
      obtain ⟨rfl, rfl, rfl⟩ := (HE.out.bot (c := true)).inj hend5
      rw [C2.out]
      obtain ⟨c0, f0, z0, hb5'⟩ := own1 hb5
      have hB5 := Below.old hB4 hb5'
      have hc5 := hc4.mono hb5'
      have hbb5 := hbb4.mono hb5'
      clear hend5 hb5 hb5' hB4 hc4 hbb4
      go_wp2_with (fail)
      refine (sameTrue _ (hbb5.mono ((Below.refl _ _).alloc (Nat.le_refl _) _)) (hc5.mono ((Below.refl _ _).alloc (Nat.le_refl _) _))).mono ?_
      rintro e w6 ⟨rfl, hb6⟩
      obtain ⟨d0, g0, y0, hb6'⟩ := own1 hb6
      obtain ⟨e0, k0, x0⟩ := keepC hb6' z0 c0
      have hB6 := Below.old hB5 hb6'
      clear hb6 hb6' hB5 c0 f0 hc5 hbb5
      go_wp2_with (go_at_call 10; refine (awakeAny _).mono ?_; rintro e w7 ⟨rfl, hb7⟩)
      go_ret
      exact ⟨rfl, Below.old hB6 hb7⟩
    · have hne : (E != 0) = true := by simpa using hE
      clear hE
      go_wp2_with (go_at_call 10; refine (awakeAny _).mono ?_; rintro e w6 ⟨rfl, hb6⟩)
      go_ret
      exact ⟨rfl, Below.old hb1 hb6⟩
  · go_wp2_with (go_at_call 10; refine (awakeAny _).mono ?_; rintro e w6 ⟨rfl, hb6⟩)
    go_ret
    exact ⟨rfl, hb6⟩
end Go.Proofs.Ytmegjnanieafbaa
