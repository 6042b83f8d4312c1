/-
  The statement ShadowFirst: its walk.
-/
import Derived.Test.YtmegjnanieafbaaShL7
import Derived.Test.YtmegjnanieafbaaShT
namespace Go.Proofs.Ytmegjnanieafbaa
open Go.RowKit Bk

set_option maxRecDepth 100000 in
set_option maxHeartbeats 4000000 in
theorem lawFirst {l : List Ent} {v : Value} (w : World) (hok : ∀ x ∈ l, x.ok) (hv : EntSl w v l) :
    Calls Try.prog 5 #[v] w fun e w' => e = .returned (.bool true) ∧ Below w.heap.size w w' := by
  have HV := Lib.hid hv
  have HO := Lib.hid hok
  clear hok hv
  go_enter Try.func5, Try.ntmps5
  go_wp2_with (fail)
  refine (farAny w HO.out HV.out).mono ?_
  rintro e w' ⟨bb, rfl, rfl⟩
  cases bb
  · go_wp2_with (fail)
    refine (filterAny false w HO.out HV.out).mono ?_
    rintro e w1 ⟨a, i, E, m, hend, rfl, ha, hb1⟩
    have HE := Lib.hid hend
    clear hend
    go_wp2_with (fail)
    refine (filterAny true w1 HO.out (HV.out.mono hb1)).mono ?_
    rintro e w2 ⟨b, i2, E2, m2, hend2, rfl, hb, hb2⟩
    obtain ⟨rfl, rfl, rfl⟩ := (HE.out.bot (c := true)).inj hend2
    have hB2 := Below.old hb1 hb2
    have ha2 := ha.mono hb2
    clear hend2 hb1 hb2 ha
    by_cases hE : E = 0
    · subst hE
      obtain ⟨rfl, rfl, hlen⟩ := walk_full HE.out
      have ea : outOf false l 0 l.length = keptOf (fatesTo false l l.length) := rfl
      have eb : outOf true l 0 l.length = keptOf (fatesTo true l l.length) := rfl
      rw [ea] at ha2
      rw [eb] at hb
      clear ea eb
      have hv2 := HV.out.mono hB2
      have HV2 := Lib.hid hv2
      clear HV
      obtain ⟨va, vc, rfl, hvl, hvA⟩ := hv2
      obtain ⟨aa, ac, rfl, hal, haA⟩ := ha2
      obtain ⟨ba, bc, rfl, hbl, hbA⟩ := hb
      have HVA := Lib.hid hvA
      have HAA := Lib.hid haA
      have HBA := Lib.hid hbA
      have HB2 := Lib.hid hB2
      clear hvA haA hbA hB2
      go_wp2_with (fail)
      go_loopw [9, 10, 11] (fun s9 s10 s11 wr => ∃ (k : Nat), k ≤ l.length ∧ s9 = .int .i64 (keptOf (fatesTo false l k)).length ∧ s10 = .int .i64 (keptOf (fatesTo true l k)).length ∧ s11 = .int .i64 k ∧ ∃ n, wr = w2.drewN n) (fun _ _ t _ => l.length - (intOf t).toNat)
      case atStart =>
        exact ⟨0, Nat.zero_le _, rfl, rfl, rfl, 0, rfl⟩
      case round =>
        obtain ⟨k, hk, rfl, rfl, rfl, n, rfl⟩ := hrel
        by_cases hlt : k < l.length
        · have hx' : l[k]? = some l[k] := List.getElem?_eq_getElem hlt
          obtain ⟨pv, ov, rfl, hV⟩ := HVA.out (fun e => by subst e; simp at hlt)
          have v0 := hV _ _ hx'
          have lf := kept_len (b := false) hx'
          have lt := kept_len (b := true) hx'
          have pf := kept_at (b := false) hx'
          have pt := kept_at (b := true) hx'
          have hself := ent_self l[k]
          obtain ⟨dup, hd1, hd2, hd3⟩ := dup_at hx'
          rw [hd1] at lf lt pf pt
          have HD2 := Lib.hid hd2
          have HD3 := Lib.hid hd3
          have HVV := Lib.hid hV
          have i0 : (0 : Int) ≤ (k : Int) := by omega
          have i1 : (k : Int) < (l.length : Int) := by omega
          clear HV2 hd1 hd2 hd3 hx' hV
          revert v0; revert hself; revert HD3; revert pt; revert pf; revert lt; revert lf
          generalize l[k] = x
          obtain ⟨xk, xv, xd, xs⟩ := x
          rintro LF LT PF PT HD3 hself ⟨v0, v1, v2, v3⟩
          have LF := Lib.hid LF
          have LT := Lib.hid LT
          have PF := Lib.hid PF
          have PT := Lib.hid PT
          go_upto_region 13 with (fail)
          go_cut [68] (fun s68 wx => s68 = .bool dup ∧ ∃ n', wx = w2.drewN n')
          case first =>
            cases k with
            | zero =>
              have hd := HD2.out rfl
              subst hd
              go_wp2_with (fail)
              go_quiet (fail)
              go_wp2_with (fail)
              go_meet
              exact ⟨rfl, _, by first | rfl | exact World.drewN_drewN ..⟩
            | succ j =>
              have hy' : l[j]? = some l[j] := List.getElem?_eq_getElem (by omega)
              obtain ⟨u0, u1, u2, u3⟩ := HVV.out _ _ hy'
              have hd := HD3.out j _ rfl hy'
              subst hd
              go_wp2_with (fail)
              go_quiet (fail)
              go_wp2_with (fail)
              go_meet
              exact ⟨congrArg Value.bool (key_beq _ _), _, by first | rfl | exact World.drewN_drewN ..⟩
          case rest =>
            obtain ⟨rfl, n', rfl⟩ := hcut
            cases dup
            · have pf := PF.out rfl
              obtain ⟨pa, oa, rfl, hA⟩ := HAA.out (fun e => by rw [e] at pf; simp at pf)
              obtain ⟨a0, a1, a2, a3⟩ := hA _ _ pf
              have ln := (List.getElem?_eq_some_iff.1 pf).1
              have ln' : ((keptOf (fatesTo false l k)).length : Int) < ((keptOf (fatesTo false l l.length)).length : Int) := by omega
              have ln0 : (0 : Int) ≤ ((keptOf (fatesTo false l k)).length : Int) := by omega
              clear hA pf
              go_upto_region 14 with (fail)
              go_cut [83] (fun s83 wx => s83 = .bool false ∧ ∃ n', wx = w2.drewN n')
              case first =>
                go_wp2_with (fail)
                go_quiet (fail)
                go_wp2_with (fail)
                go_meet
                exact ⟨by first | rfl | exact congrArg Value.bool (decide_eq_false (by omega)), _, by first | rfl | exact World.drewN_drewN ..⟩
              case rest =>
                obtain ⟨rfl, n'', rfl⟩ := hcut
                cases xd
                · have pt := PT.out rfl
                  obtain ⟨pb, ob, rfl, hB⟩ := HBA.out (fun e => by rw [e] at pt; simp at pt)
                  obtain ⟨b0, b1, b2, b3⟩ := hB _ _ pt
                  have lm := (List.getElem?_eq_some_iff.1 pt).1
                  have lm' : ((keptOf (fatesTo true l k)).length : Int) < ((keptOf (fatesTo true l l.length)).length : Int) := by omega
                  have lm0 : (0 : Int) ≤ ((keptOf (fatesTo true l k)).length : Int) := by omega
                  clear hB pt
                  go_upto_region 18 with (fail)
                  go_quiet (fail)
                  go_wp2_with (fail)
                  go_roundw
                  case rel =>
                    have h1 := LF.out
                    have h2 := LT.out
                    simp at h1 h2
                    exact ⟨k + 1, by omega, by rw [h1]; go_num, by rw [h2]; go_num, by go_num, _, rfl⟩
                  case measure => simp [intOf]; omega
                · go_wp2_with (fail)
                  go_roundw
                  case rel =>
                    have h1 := LF.out
                    have h2 := LT.out
                    simp at h1 h2
                    exact ⟨k + 1, by omega, by rw [h1]; go_num, by rw [h2], by go_num, _, rfl⟩
                  case measure => simp [intOf]; omega
            · go_wp2_with (fail)
              go_roundw
              case rel =>
                have h1 := LF.out
                have h2 := LT.out
                simp at h1 h2
                exact ⟨k + 1, by omega, by rw [h1], by rw [h2], by go_num, _, rfl⟩
              case measure => simp [intOf]; omega
        · obtain rfl : k = l.length := by omega
          go_wp2_with (go_at_call 10; refine (awakeAny _).mono ?_; rintro e w6 ⟨rfl, hb6⟩)
          go_ret
          exact ⟨rfl, Below.old (HB2.out.trans ((drewN_below w2 _).mono HB2.out.size)) hb6⟩
    · have hne : (E != 0) = true := by simpa using hE
      have ea : outOf false l E m = [] := if_neg hE
      have eb : outOf true l E m = [] := if_neg hE
      rw [ea] at ha2
      rw [eb] at hb
      obtain ⟨aa, ac, rfl, _, _⟩ := ha2
      obtain ⟨ba, bc, rfl, _, _⟩ := hb
      clear hE
      go_wp2_with (go_at_call 10; refine (awakeAny _).mono ?_; rintro e w6 ⟨rfl, hb6⟩)
      go_ret
      exact ⟨rfl, Below.old hB2 hb6⟩
  · go_wp2_with (go_at_call 10; refine (awakeAny _).mono ?_; rintro e w6 ⟨rfl, hb6⟩)
    go_ret
    exact ⟨rfl, hb6⟩
end Go.Proofs.Ytmegjnanieafbaa
