/-
  What is kept, filtered again in the same way, is kept: plain Lean.
-/
import Derived.Test.YtmegjnanieafbaaShY
import Derived.Test.YtmegjnanieafbaaOrd
namespace Bk
open Go

theorem ent_key {x : Ent} (h : entErr x = 0) : x.k.size ≤ 32 := by
  unfold entErr at h
  split at h
  · cases h
  · omega
theorem sh_key {k : ByteArray} (b : Bool) (h : k.size ≤ 32) : shErr ⟨true, k, b⟩ = 0 := by
  simp [shErr]; omega
theorem step_parts {s : Sh} {x : Ent} (h : stepErr s x = 0) : shErr s = 0 ∧ entErr x = 0 ∧ (s.some = true → Op.bytesLess x.k.toList s.last.toList = false) := by
  unfold stepErr at h
  split at h
  · exact absurd h (by assumption)
  · split at h
    · exact absurd h (by assumption)
    · split at h
      · cases h
      · rename_i h1 h2 h3
        refine ⟨by simpa using h1, by simpa using h2, fun hs => ?_⟩
        cases hb : Op.bytesLess x.k.toList s.last.toList
        · rfl
        · exact absurd ⟨hs, hb⟩ h3
theorem step_mk {s : Sh} {x : Ent} (h1 : shErr s = 0) (h2 : entErr x = 0) (h3 : s.some = true → Op.bytesLess x.k.toList s.last.toList = false) : stepErr s x = 0 := by
  unfold stepErr
  rw [if_neg (by simp [h1]), if_neg (by simp [h2]), if_neg (fun ⟨a, b⟩ => by rw [h3 a] at b; cases b)]
theorem sh_begin (b : Bool) : shErr ⟨false, ⟨#[]⟩, b⟩ = 0 := by
  have h : ¬ 32 < (⟨#[]⟩ : ByteArray).size := by decide
  simp [shErr, ByteArray.toList_eq, h]
/-- How the state over what was kept hangs together with the state over all. -/
def Lag (s t : Sh) : Prop := t.bottom = s.bottom ∧ shErr t = 0 ∧ (t.some = true → s.some = true ∧ Op.bytesLess s.last.toList t.last.toList = false)
theorem again_from (l : List Ent) : ∀ (s t : Sh), Lag s t → goods s l → goods t (keptOf (fatesL s l)) ∧ fatesL t (keptOf (fatesL s l)) = (keptOf (fatesL s l)).map (fun x => (0, x)) := by
  induction l with
  | nil => intro s t _ _; simp [fatesL, keptOf, goods]
  | cons x l ih =>
    rintro s t ⟨hb, he, hlag⟩ ⟨h1, h2⟩
    obtain ⟨p1, p2, p3⟩ := step_parts h1
    have hge : t.some = true → Op.bytesLess x.k.toList t.last.toList = false := fun ht => bl_ge_trans (p3 (hlag ht).1) (hlag ht).2
    by_cases hf : fateOf s x = 0
    · have e1 : keptOf (fatesL s (x :: l)) = x :: keptOf (fatesL ⟨true, x.k, s.bottom⟩ l) := by simp [fatesL, keptOf, hf]
      rw [e1]
      obtain ⟨i1, i2⟩ := ih ⟨true, x.k, s.bottom⟩ ⟨true, x.k, t.bottom⟩ ⟨hb, sh_key _ (ent_key p2), fun _ => ⟨rfl, bl_irrefl _⟩⟩ h2
      have ft : fateOf t x = 0 := by
        unfold fateOf at hf ⊢
        split at hf
        · cases hf
        · rename_i g1
          split at hf
          · cases hf
          · rename_i g2
            rw [if_neg, if_neg (by rw [hb]; exact g2)]
            rintro ⟨q1, q2⟩
            obtain ⟨r1, r2⟩ := hlag q1
            rw [← q2] at r2
            exact g1 ⟨r1, (bl_total _ _ r2 (p3 r1)).symm⟩
      refine ⟨⟨step_mk he p2 hge, i1⟩, ?_⟩
      simp only [fatesL, List.map_cons, ft, i2]
    · have e1 : keptOf (fatesL s (x :: l)) = keptOf (fatesL ⟨true, x.k, s.bottom⟩ l) := by simp [fatesL, keptOf, hf]
      rw [e1]
      exact ih ⟨true, x.k, s.bottom⟩ t ⟨hb, he, fun ht => ⟨rfl, hge ht⟩⟩ h2
theorem again_all {b : Bool} {l : List Ent} (h : ∀ j, j < l.length → errAt b l j = 0) (hl : l.length ≤ 20000) :
    WalkEnd b (keptOf (fatesTo b l l.length)) 0 0 (keptOf (fatesTo b l l.length)).length ∧ keptOf (fatesTo b (keptOf (fatesTo b l l.length)) (keptOf (fatesTo b l l.length)).length) = keptOf (fatesTo b l l.length) := by
  have hlen : (keptOf (fatesTo b l l.length)).length ≤ 20000 := by
    have := keptOf_length (fatesTo b l l.length)
    rw [fatesTo_length _ _ _ (Nat.le_refl _)] at this
    omega
  obtain ⟨i1, i2⟩ := again_from l ⟨false, ⟨#[]⟩, b⟩ ⟨false, ⟨#[]⟩, b⟩ ⟨rfl, sh_begin b, fun h => by cases h⟩ (goods_of b l h)
  rw [← fatesTo_eq] at i1 i2
  rw [← fatesTo_eq] at i2
  exact ⟨.inr (.inr ⟨hlen, rfl, rfl, rfl, err_of b _ i1⟩), by rw [i2, kept_map0]⟩
end Bk
