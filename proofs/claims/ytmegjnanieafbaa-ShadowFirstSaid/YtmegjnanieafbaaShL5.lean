/-
  The statement ShadowCounts: its walk.
-/
import Derived.Test.YtmegjnanieafbaaShL2
namespace Go.Proofs.Ytmegjnanieafbaa
open Go.RowKit Bk

theorem outLen {bot : Bool} {l : List Ent} {m : Nat} : ((outOf bot l 0 m).length : Int) = cntOf 0 (fatesTo bot l m) := keptOf_cnt _
theorem walk_full {bot : Bool} {l : List Ent} {i : Int} {m : Nat} (h : WalkEnd bot l i 0 m) : m = l.length ∧ i = 0 ∧ l.length ≤ 20000 := by
  rcases h with ⟨_, _, h, _⟩ | ⟨_, _, _, _, h, _⟩ | h
  · exact absurd h (by decide)
  · exact absurd rfl h
  · exact ⟨h.2.1, h.2.2.1, h.1⟩

set_option maxRecDepth 100000 in
set_option maxHeartbeats 4000000 in
theorem lawCounts {l : List Ent} {v : Value} (w : World) (hok : ∀ x ∈ l, x.ok) (hv : EntSl w v l) :
    Calls Try.prog 7 #[v] w fun e w' => e = .returned (.bool true) ∧ Below w.heap.size w w' := by
  have HV := Lib.hid hv
  have HO := Lib.hid hok
  obtain ⟨va, vc, rfl, hvl, _⟩ := hv
  clear hok
  go_enter Try.func7, Try.ntmps7
  go_wp2_with (fail)
  refine (farAny w HO.out HV.out).mono ?_
  rintro e w' ⟨bb, rfl, rfl⟩
  cases bb
  · go_wp2_with (fail)
    refine (countAny false w HO.out HV.out).mono ?_
    rintro e w1 ⟨i, E, m, hend, rfl, hb1⟩
    have HE := Lib.hid hend
    clear hend
    by_cases hE : E = 0
    · subst hE
      obtain ⟨rfl, rfl, hlen⟩ := walk_full HE.out
      obtain ⟨q1, q2, q3, q4⟩ := cnts l l.length (Nat.le_refl _)
      have Q := Lib.hid (And.intro q1 (And.intro q2 (And.intro q3 q4)))
      have r0 := cntOf_range 0 (fatesTo false l l.length)
      have r1 := cntOf_range 1 (fatesTo false l l.length)
      have t0 := cntOf_range 0 (fatesTo true l l.length)
      have t1 := cntOf_range 1 (fatesTo true l l.length)
      have t2 := cntOf_range 2 (fatesTo true l l.length)
      have g0 := outLen (bot := false) (l := l) (m := l.length)
      have g1 := outLen (bot := true) (l := l) (m := l.length)
      have cv0 : cntVal false l 0 l.length = .agg #[.int .i64 (cntOf 0 (fatesTo false l l.length)), .int .i64 (cntOf 1 (fatesTo false l l.length)), .int .i64 (cntOf 2 (fatesTo false l l.length))] := if_pos rfl
      have cv1 : cntVal true l 0 l.length = .agg #[.int .i64 (cntOf 0 (fatesTo true l l.length)), .int .i64 (cntOf 1 (fatesTo true l l.length)), .int .i64 (cntOf 2 (fatesTo true l l.length))] := if_pos rfl
      rw [cv0]
      have C1 := Lib.hid cv1
      have G0 := Lib.hid g0
      have G1 := Lib.hid g1
      clear cv0 cv1 g0 g1 q1 q2 q3 q4
      simp only [fatesTo_length _ _ _ (Nat.le_refl l.length)] at r0 r1 t0 t1 t2
      revert Q r0 r1 t0 t1 t2 C1 G0 G1
      generalize cntOf 0 (fatesTo false l l.length) = a0
      generalize cntOf 1 (fatesTo false l l.length) = a1
      generalize cntOf 2 (fatesTo false l l.length) = a2
      generalize cntOf 0 (fatesTo true l l.length) = b0
      generalize cntOf 1 (fatesTo true l l.length) = b1
      generalize cntOf 2 (fatesTo true l l.length) = b2
      intro Q C1 G0 G1 r0 r1 t0 t1 t2
      go_wp2_with (fail)
      refine (countAny true _ HO.out (HV.out.mono (hb1.alloc hb1.size _))).mono ?_
      rintro e w2 ⟨i2, E2, m2, hend2, rfl, hb2⟩
      obtain ⟨rfl, rfl, rfl⟩ := (HE.out.bot (c := true)).inj hend2
      rw [C1.out]
      obtain ⟨c0, f0, z0, hb2'⟩ := own1 hb2
      have hB2 := Below.old hb1 hb2'
      clear hend2 hb2 hb2' hb1
      go_wp2_with (fail)
      refine (filterAny false _ HO.out (HV.out.mono (hB2.alloc hB2.size _))).mono ?_
      rintro e w3 ⟨u3, i3, E3, m3, hend3, rfl, ha3, hb3⟩
      obtain ⟨rfl, rfl, rfl⟩ := HE.out.inj hend3
      obtain ⟨d0, g0, y0, hb3'⟩ := own1 hb3
      obtain ⟨e0, k0, x0⟩ := keepC hb3' z0 c0
      have hB3 := Below.old hB2 hb3'
      obtain ⟨u3a, u3c, rfl, hu3, _⟩ := ha3
      clear hend3 hb3 hb3' hB2 c0 f0 z0
      go_wp2_with (fail)
      refine (filterAny true _ HO.out (HV.out.mono hB3)).mono ?_
      rintro e w4 ⟨u4, i4, E4, m4, hend4, rfl, ha4, hb4⟩
      obtain ⟨rfl, rfl, rfl⟩ := (HE.out.bot (c := true)).inj hend4
      obtain ⟨d0', g0', y0'⟩ := keepC hb4 y0 d0
      obtain ⟨e0', k0', x0'⟩ := keepC hb4 x0 e0
      have hB4 := Below.old hB3 hb4
      obtain ⟨u4a, u4c, rfl, hu4, _⟩ := ha4
      clear hend4 hb4 hB3 d0 g0 y0 e0 k0 x0
      obtain ⟨q1, q2, q3, q4⟩ := Q.out
      have k1 : (a0 == ((outOf false l 0 l.length).length : Int)) = true := by rw [G0.out]; simp
      have k2 : (b0 == ((outOf true l 0 l.length).length : Int)) = true := by rw [G1.out]; simp
      have k3 : (a2 == 0) = true := by simp [q3]
      have k4 : (a1 == b1) = true := by simp [q1]
      have k5 : (a0 + a1 == (l.length : Int)) = true := by simp [q2]
      have k6 : (b0 + b1 + b2 == (l.length : Int)) = true := by simp [q4]
      have k7 : decide (0 ≤ b2) = true := by simp [t2.1]
      clear q1 q2 q3 q4
      go_wp2_with (go_at_call 10; refine (awakeAny _).mono ?_; rintro e w6 ⟨rfl, hb6⟩)
      go_ret
      exact ⟨rfl, Below.old hB4 hb6⟩
    · have hne : (E != 0) = true := by simpa using hE
      have cv0 : cntVal false l E m = .agg #[.int .i64 0, .int .i64 0, .int .i64 0] := if_neg hE
      have cv1 : cntVal true l E m = .agg #[.int .i64 0, .int .i64 0, .int .i64 0] := if_neg hE
      rw [cv0]
      have C1 := Lib.hid cv1
      clear cv0 cv1 hE
      go_wp2_with (fail)
      refine (countAny true _ HO.out (HV.out.mono (hb1.alloc hb1.size _))).mono ?_
      rintro e w2 ⟨i2, E2, m2, hend2, rfl, hb2⟩
      obtain ⟨rfl, rfl, rfl⟩ := (HE.out.bot (c := true)).inj hend2
      rw [C1.out]
      obtain ⟨c0, f0, z0, hb2'⟩ := own1 hb2
      have hB2 := Below.old hb1 hb2'
      clear hend2 hb2 hb2' hb1
      go_wp2_with (go_at_call 10; refine (awakeAny _).mono ?_; rintro e w6 ⟨rfl, hb6⟩)
      go_ret
      exact ⟨rfl, Below.old (hB2.alloc hB2.size _) hb6⟩
  · go_wp2_with (go_at_call 10; refine (awakeAny _).mono ?_; rintro e w6 ⟨rfl, hb6⟩)
    go_ret
    exact ⟨rfl, hb6⟩
end Go.Proofs.Ytmegjnanieafbaa
