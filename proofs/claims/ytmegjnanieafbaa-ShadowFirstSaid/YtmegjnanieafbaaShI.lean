/-
  Filter and Count of the document, for every list.
-/
import Derived.Test.YtmegjnanieafbaaShH
namespace Go.Proofs.Ytmegjnanieafbaa
open Go.RowKit Bk

theorem refFilterAny {l : List Ent} {v : Value} (bot : Bool) (w : World) (hok : ∀ x ∈ l, x.ok) (hv : EntSl w v l) :
    Calls Try.prog 19 #[v, .bool bot] w (FilterPost bot l w) := by
  obtain ⟨a, ca, rfl, hl, hA⟩ := hv
  by_cases hL : 20000 < l.length
  · exact (refLong l a ca bot w hl hL).mono fun e w' ⟨h1, h2⟩ => ⟨_, -1, 3, 0, .inl ⟨hL, rfl, rfl, rfl⟩, h1, by rw [outOf, if_neg (by decide)]; exact ⟨none, 0, rfl, by simp, fun h => absurd rfl h⟩, h2 ▸ Below.refl _ _⟩
  · by_cases hne : l = []
    · subst hne
      exact (refNone a ca bot w).mono fun e w' ⟨h1, h2⟩ => ⟨_, 0, 0, 0, .inr (.inr ⟨by simp, rfl, rfl, rfl, fun j hj => absurd hj (by omega)⟩), h1, by rw [outOf, if_pos rfl]; exact ⟨none, 0, rfl, by simp [fatesTo, keptOf], fun h => absurd rfl h⟩, h2⟩
    · obtain ⟨ba, oa, rfl, hA'⟩ := hA hne
      exact refFull l ba oa ca bot w (by omega) hok hA'

set_option maxHeartbeats 1000000 in
theorem refCountAny {l : List Ent} {v : Value} (bot : Bool) (w : World) (hok : ∀ x ∈ l, x.ok) (hv : EntSl w v l) :
    Calls Try.prog 21 #[v, .bool bot] w (CountPost bot l w) := by
  have hv0 := hv
  obtain ⟨a, ca, rfl, hl, hA⟩ := hv
  have HV := Lib.hid hv0
  have HOK := Lib.hid hok
  clear hv0 hok hA
  go_enter Try.func21, Try.ntmps21
  go_wp2_with (fail)
  refine (refFilterAny false _ HOK.out (HV.out.mono ((Below.refl _ _).alloc (Nat.le_refl _) _))).mono ?_
  rintro e w1 ⟨v1, i, E, m, hend, rfl, ⟨a1, c1, rfl, hl1, hc1⟩, hb⟩
  obtain ⟨k0, f0, z0, hB1⟩ := own1 hb
  have HEND := Lib.hid hend
  clear hb hc1 hend
  by_cases hE : E = 0
  · subst hE
    go_wp2_with (fail)
    refine (refFilterAny bot _ HOK.out (HV.out.mono hB1)).mono ?_
    rintro e w2 ⟨v2, i2, E2, m2, hend2, rfl, ⟨a2, c2, rfl, hl2, hc2⟩, hb⟩
    obtain ⟨rfl, rfl, rfl⟩ := (HEND.out.bot (c := bot)).inj hend2
    obtain ⟨k0', f0', z0'⟩ := keepC hb z0 k0
    have hB2 := Below.old hB1 hb
    clear hb hc2 hend2
    have g1 : ((outOf false l 0 m).length : Int) = cntOf 0 (fatesTo false l m) := keptOf_cnt _
    have g2 : ((outOf bot l 0 m).length : Int) = cntOf 0 (fatesTo bot l m) := keptOf_cnt _
    have G1 := Lib.hid g1
    have G2 := Lib.hid g2
    clear g1 g2
    have r1 : ((outOf false l 0 m).length : Int) ≤ l.length := by
      have := keptOf_length (fatesTo false l m); rw [fatesTo_length _ _ _ HEND.out.le] at this; have := HEND.out.le; simp only [outOf, if_true]; omega
    have r2 : ((outOf bot l 0 m).length : Int) ≤ l.length := by
      have := keptOf_length (fatesTo bot l m); rw [fatesTo_length _ _ _ HEND.out.le] at this; have := HEND.out.le; simp only [outOf, if_true]; omega
    go_wp2
    have hm : m = l.length := by
      rcases HEND.out with ⟨_, _, h, _⟩ | ⟨_, _, _, _, h, _⟩ | h
      · exact absurd h (by decide)
      · exact absurd rfl h
      · exact h.2.1
    refine bodyPost_ret (v := .tuple #[.agg #[.int .i64 (outOf bot l 0 m).length, .int .i64 ((l.length : Int) - (outOf false l 0 m).length), .int .i64 ((outOf false l 0 m).length - (outOf bot l 0 m).length)], .int .i64 0, .int .i64 0]) (results3 rfl (RVal.struct rfl (cellSet (cellSet (cellSet k0' _ _) _ _) _ _) Try.underlying38 rfl (by kernel_rfl)) rfl rfl) rfl ⟨0, 0, m, ?_, ?_, ?_⟩
    · rcases HEND.out with ⟨_, _, h, _⟩ | ⟨_, _, _, _, h, _⟩ | h
      · exact absurd h (by decide)
      · exact absurd rfl h
      · exact (WalkEnd.bot (b := false) (.inr (.inr ⟨h.1, h.2.1, rfl, rfl, h.2.2.2.2⟩)))
    · rw [cntVal, if_pos rfl, G1.out, G2.out, cnt_shadowed bot l m (by omega), cnt_dropped bot l m (by omega), hm]
    · exact ((hB2.setCell (p := ⟨w.heap.size, 0, none⟩) (Nat.le_refl _) _).setCell (p := ⟨w.heap.size, 1, none⟩) (Nat.le_refl _) _).setCell (p := ⟨w.heap.size, 2, none⟩) (Nat.le_refl _) _
  · have hne : (E != 0) = true := by simpa using hE
    have HE := Lib.hid hE
    clear hE
    go_wp2_with (fail)
    refine bodyPost_ret (v := .tuple #[.agg #[.int .i64 0, .int .i64 0, .int .i64 0], .int .i64 i, .int .i64 E]) (results3 rfl (RVal.struct rfl (cellSet (cellSet (cellSet k0 _ _) _ _) _ _) Try.underlying38 rfl (by kernel_rfl)) rfl rfl) rfl ⟨i, E, m, HEND.out.bot, by rw [cntVal, if_neg HE.out], ?_⟩
    exact ((hB1.setCell (p := ⟨w.heap.size, 0, none⟩) (Nat.le_refl _) _).setCell (p := ⟨w.heap.size, 1, none⟩) (Nat.le_refl _) _).setCell (p := ⟨w.heap.size, 2, none⟩) (Nat.le_refl _) _
end Go.Proofs.Ytmegjnanieafbaa
