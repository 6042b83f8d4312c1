/-
  The statement ShadowFilters: its walk.
-/
import Derived.Test.YtmegjnanieafbaaShJ
namespace Go.Proofs.Ytmegjnanieafbaa
open Go.RowKit Bk

set_option maxHeartbeats 1000000 in
theorem farNone (a : Option Addr) (ca : Nat) (w : World) : Calls Try.prog 17 #[.slice a 0 ca] w (RetBool w) := by
  go_enter Try.func17, Try.ntmps17
  go_wp2
  go_loop [3] (fun i => i = .int .i64 0) (fun _ => 0)
  case atStart => rfl
  case round =>
    subst hrel
    go_wp2
    go_ret
    exact ⟨_, rfl, rfl⟩
theorem farAny {l : List Ent} {v : Value} (w : World) (hok : ∀ x ∈ l, x.ok) (hv : EntSl w v l) : Calls Try.prog 17 #[v] w (RetBool w) := by
  obtain ⟨a, ca, rfl, hl, hA⟩ := hv
  by_cases hne : l = []
  · subst hne
    exact farNone a ca w
  · obtain ⟨ba, oa, rfl, hA'⟩ := hA hne
    exact farFull l ba oa ca w hl hok hA'
theorem cntVal_form (bot : Bool) (l : List Ent) (E : Int) (m : Nat) : ∃ a b c : Int, cntVal bot l E m = .agg #[.int .i64 a, .int .i64 b, .int .i64 c] := by
  unfold cntVal
  split
  · exact ⟨_, _, _, rfl⟩
  · exact ⟨_, _, _, rfl⟩

set_option maxRecDepth 100000 in
set_option maxHeartbeats 4000000 in
theorem lawFilters {l : List Ent} {v : Value} (bot : Bool) (w : World) (hok : ∀ x ∈ l, x.ok) (hv : EntSl w v l) :
    Calls Try.prog 4 #[v, .bool bot] w fun e w' => e = .returned (.bool true) ∧ Below w.heap.size w w' := by
  have HV := Lib.hid hv
  have HO := Lib.hid hok
  clear hv hok
  go_enter Try.func4, Try.ntmps4
  go_wp2_with (fail)
  refine (farAny w HO.out HV.out).mono ?_
  rintro e w' ⟨bb, rfl, rfl⟩
  cases bb
  · go_wp2_with (fail)
    refine (filterAny bot w HO.out HV.out).mono ?_
    rintro e w1 ⟨a, i, E, m, hend, rfl, ha, hb1⟩
    have HE := Lib.hid hend
    clear hend
    go_wp2_with (fail)
    refine (refFilterAny bot w1 HO.out (HV.out.mono hb1)).mono ?_
    rintro e w2 ⟨a2, i2, E2, m2, hend2, rfl, ha2, hb2⟩
    obtain ⟨rfl, rfl, rfl⟩ := HE.out.inj hend2
    have hB2 := Below.old hb1 hb2
    have hA2 := ha.mono hb2
    clear hend2 ha hb1 hb2
    go_wp2_with (fail)
    refine (countAny bot w2 HO.out (HV.out.mono hB2)).mono ?_
    rintro e w3 ⟨i3, E3, m3, hend3, rfl, hb3⟩
    obtain ⟨rfl, rfl, rfl⟩ := HE.out.inj hend3
    obtain ⟨n0, n1, n2, hcv⟩ := cntVal_form bot l E m
    rw [hcv]
    have HC := Lib.hid hcv
    have hB3 := Below.old hB2 hb3
    have hA3 := hA2.mono hb3
    have hA3' := ha2.mono hb3
    clear hend3 hcv hB2 hA2 ha2 hb3
    go_wp2_with (fail)
    refine (refCountAny bot _ HO.out (HV.out.mono (hB3.alloc hB3.size _))).mono ?_
    rintro e w4 ⟨i4, E4, m4, hend4, rfl, hb4⟩
    obtain ⟨rfl, rfl, rfl⟩ := HE.out.inj hend4
    rw [HC.out]
    obtain ⟨c0, f0, z0, hb4'⟩ := own1 hb4
    have hB4 := Below.old hB3 hb4'
    have hA4 := hA3.mono hb4'
    have hA4' := hA3'.mono hb4'
    clear hend4 hb4 hb4' hB3 hA3 hA3'
    go_wp2_with (fail)
    refine (sameTrue _ (hA4.mono ((Below.refl _ _).alloc (Nat.le_refl _) _)) (hA4'.mono ((Below.refl _ _).alloc (Nat.le_refl _) _))).mono ?_
    rintro e w5 ⟨rfl, hb5⟩
    obtain ⟨d0, g0, y0, hb5'⟩ := own1 hb5
    obtain ⟨e0, k0, x0⟩ := keepC hb5' z0 c0
    have hB5 := Below.old hB4 hb5'
    clear hb5 hb5' hB4 hA4 hA4' c0 f0
    go_wp2_with (go_at_call 10; refine (awakeAny _).mono ?_; rintro e w6 ⟨rfl, hb6⟩)
    go_ret
    exact ⟨rfl, Below.old hB5 hb6⟩
  · go_wp2_with (go_at_call 10; refine (awakeAny _).mono ?_; rintro e w6 ⟨rfl, hb6⟩)
    go_ret
    exact ⟨rfl, hb6⟩
end Go.Proofs.Ytmegjnanieafbaa
