/-
  Contract of one step of the filter of merges in the document.
-/
import Derived.Test.YtmegjnanieafbaaShB
namespace Go.Proofs.Ytmegjnanieafbaa
open Go.RowKit Bk

theorem stepErr_first {s : Sh} {x : Ent} (h : (shErr s == 0) = false) : stepErr s x = shErr s := by simp at h; simp [stepErr, h]
theorem stepErr_second {s : Sh} {x : Ent} (h : (shErr s == 0) = true) (h2 : (entErr x == 0) = false) : stepErr s x = entErr x := by simp at h h2; simp [stepErr, h, h2]

theorem sv_sh {a b d : Bool} {l k v : ByteArray} {s : Int} (h : (shErr ⟨a, l, b⟩ == 0) = false) : stepVal ⟨a, l, b⟩ ⟨k, v, d, s⟩ = .tuple #[.bool false, .agg #[.bool false, .string ⟨#[]⟩, .bool false], .int .i64 (shErr ⟨a, l, b⟩)] := by
  have e := stepErr_first (x := ⟨k, v, d, s⟩) h
  rw [stepVal, if_neg (by rw [e]; simpa using h), e]; rfl
theorem sv_ent {a b d : Bool} {l k v : ByteArray} {s : Int} (h : (shErr ⟨a, l, b⟩ == 0) = true) (h2 : ¬ entErr ⟨k, v, d, s⟩ = 0) : stepVal ⟨a, l, b⟩ ⟨k, v, d, s⟩ = .tuple #[.bool false, .agg #[.bool false, .string ⟨#[]⟩, .bool false], .int .i64 (entErr ⟨k, v, d, s⟩)] := by
  have e := stepErr_second (x := ⟨k, v, d, s⟩) h (by simpa using h2)
  rw [stepVal, if_neg (by rw [e]; exact h2), e]; rfl
theorem sv_less {b d : Bool} {l k v : ByteArray} {s : Int} (h : (shErr ⟨true, l, b⟩ == 0) = true) (h2 : entErr ⟨k, v, d, s⟩ = 0) (h3 : Op.bytesLess k.toList l.toList = true) : stepVal ⟨true, l, b⟩ ⟨k, v, d, s⟩ = .tuple #[.bool false, .agg #[.bool false, .string ⟨#[]⟩, .bool false], .int .i64 6] := by
  have e : stepErr ⟨true, l, b⟩ ⟨k, v, d, s⟩ = 6 := by simp at h; simp [stepErr, h, h2, h3]
  rw [stepVal, if_neg (by rw [e]; decide), e]; rfl
theorem sv_ok {a b d : Bool} {l k v : ByteArray} {s : Int} (h : (shErr ⟨a, l, b⟩ == 0) = true) (h2 : entErr ⟨k, v, d, s⟩ = 0) (h3 : a = true → Op.bytesLess k.toList l.toList = false) :
    stepVal ⟨a, l, b⟩ ⟨k, v, d, s⟩ = .tuple #[.bool (!(a && k.toList == l.toList) && !(b && d)), .agg #[.bool true, .string k, .bool b], .int .i64 0] := by
  have e : stepErr ⟨a, l, b⟩ ⟨k, v, d, s⟩ = 0 := by simp at h; cases a <;> simp_all [stepErr]
  have e2 : (fateOf ⟨a, l, b⟩ ⟨k, v, d, s⟩ == 0) = (!(a && k.toList == l.toList) && !(b && d)) := by
    unfold fateOf
    by_cases g : a = true ∧ k.toList = l.toList
    · simp [g]
    · rw [if_neg g]
      have : (a && k.toList == l.toList) = false := by simpa using g
      rw [this]
      cases b <;> cases d <;> simp
  rw [stepVal, if_pos e, e2]; rfl

set_option maxHeartbeats 1000000 in
theorem refStep (a b d : Bool) (l k v : ByteArray) (s : Int) (w : World) (hl : l.size ≤ maxLen) (hk : k.size ≤ maxLen) (hv : v.size ≤ maxLen) :
    Calls Try.prog 12 #[.agg #[.bool a, .string l, .bool b], .agg #[.string k, .string v, .bool d, .int .i64 s]] w fun e w' => e = .returned (stepVal ⟨a, l, b⟩ ⟨k, v, d, s⟩) ∧ Below w.heap.size w w' := by
  rcases Bool.eq_false_or_eq_true (k.toList == l.toList) with hkl | hkl
  all_goals
   go_enter Try.func12, Try.ntmps12
   go_wp2_with (first
     | (go_at_call 16; refine (refShCheck _ _ _ _ hl).mono ?_; rintro e w1 ⟨rfl, hb⟩; obtain ⟨c0, f0, z0, c1, f1, z1, c2, f2, z2, hB1⟩ := own3 hb; clear hb)
     | (go_at_call 27; refine (ref03Check _ _ _ _ _ hk hv).mono ?_; rintro e w2 ⟨rfl, hb⟩; obtain ⟨d0, g0, y0⟩ := keepC hb z0 c0; obtain ⟨d1, g1, y1⟩ := keepC hb z1 c1; obtain ⟨d2, g2, y2⟩ := keepC hb z2 c2; have hB2 := Below.old hB1 hb; clear hb))
   rotate_left
   · obtain rfl : a = true := ‹_›
     have hok := sv_ok (b := b) (d := d) (v := v) (s := s) (k := k) (l := l) (a := true) ‹_› ‹_› (fun _ => ‹_›)
     have HO := Lib.hid hok
     clear hok
     cases b <;> cases d
     all_goals
       go_region
       go_wp2
       refine bodyPost_ret (results3 rfl rfl (RVal.struct rfl (cellDrew (cellSet (cellSet (cellSet d2 _ _) _ _) _ _)) Try.underlying23 rfl (by kernel_rfl)) rfl) rfl ⟨by rw [HO.out, hkl]; simp, ?_⟩
       repeat' (first | with_reducible assumption | with_reducible apply Below.drew | with_reducible apply Below.setCell | with_reducible apply Below.alloc)
       all_goals (simp <;> omega)
   · obtain rfl : a = false := ‹_›
     have hok := sv_ok (b := b) (d := d) (v := v) (s := s) (a := false) (k := k) (l := l) ‹_› ‹_› (fun h => by cases h)
     have HO := Lib.hid hok
     clear hok
     cases b <;> cases d
     all_goals
       go_region
       go_wp2
       refine bodyPost_ret (results3 rfl rfl (RVal.struct rfl (cellDrew (cellSet (cellSet (cellSet d2 _ _) _ _) _ _)) Try.underlying23 rfl (by kernel_rfl)) rfl) rfl ⟨by rw [HO.out]; simp, ?_⟩
       repeat' (first | with_reducible assumption | with_reducible apply Below.drew | with_reducible apply Below.setCell | with_reducible apply Below.alloc)
       all_goals (simp <;> omega)
   · refine bodyPost_ret (results3 rfl rfl (RVal.struct rfl (cellSet (cellSet (cellSet d2 _ _) _ _) _ _) Try.underlying23 rfl (by kernel_rfl)) rfl) rfl ⟨by rw [sv_ent ‹_› ‹_›]; rfl, ?_⟩
     repeat' (first | with_reducible assumption | with_reducible apply Below.drew | with_reducible apply Below.setCell | with_reducible apply Below.alloc)
     all_goals (simp <;> omega)
   · refine bodyPost_ret (results3 rfl rfl (RVal.struct rfl (cellSet (cellSet (cellSet c2 _ _) _ _) _ _) Try.underlying23 rfl (by kernel_rfl)) rfl) rfl ⟨by rw [sv_sh ‹_›]; rfl, ?_⟩
     repeat' (first | with_reducible assumption | with_reducible apply Below.drew | with_reducible apply Below.setCell | with_reducible apply Below.alloc)
     all_goals (simp <;> omega)
   · obtain rfl : a = true := ‹_›
     refine bodyPost_ret (results3 rfl rfl (RVal.struct rfl (cellSet (cellSet (cellSet d2 _ _) _ _) _ _) Try.underlying23 rfl (by kernel_rfl)) rfl) rfl ⟨by rw [sv_less ‹_› ‹_› ‹_›]; rfl, ?_⟩
     repeat' (first | with_reducible assumption | with_reducible apply Below.drew | with_reducible apply Below.setCell | with_reducible apply Below.alloc)
     all_goals (simp <;> omega)
end Go.Proofs.Ytmegjnanieafbaa
