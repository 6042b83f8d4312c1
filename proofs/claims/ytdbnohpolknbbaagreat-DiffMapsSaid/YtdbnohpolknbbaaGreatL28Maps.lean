/-
  Proved: DiffMaps returns true for every input, and leaves its arguments as they were. Conditions: none beyond the row's own.
-/
import Derived.Test.YtdbnohpolknbbaaGreatGP
namespace Go.Proofs.YtdbnohpolknbbaaGreat
open Go.ChangeShapes Go.WideShapes Go.ChangeAt Go.RowKit Go.Joins Av

theorem diffMaps_readable : (Tryz.f3.params.toList.all fun t => Tryz.prog.readableRec t && decide (t < Tryz.prog.types.size)) = true := by kernel_rfl
set_option maxRecDepth 100000 in
theorem diffMaps_lifted (os : Os) (started : os.Started) (H : Type) (enc : TypeId × Value → H) :
    ReturnsInHanded {} Tryz.checked os 3 .any (Rows.diffMapsSpec.pre6 enc Tryz.prog Tryz.f3 Rows.diffMapsRow.domain false) (Rows.diffMapsSpec.post enc Tryz.prog Tryz.f3 false true false false) := by
  refine returnsInHanded_of_change (C := Tryz.checked) Tryz.own started (by kernel_rfl) Tryz.func3
    (ChangeSpec.witness6 (enc := enc) (C := Tryz.checked) false ⟨#[], #[.agg #[.slice none 0 0, .slice none 0 0], .agg #[.slice none 0 0, .slice none 0 0]], []⟩ 8 (by kernel_rfl) (by kernel_rfl) (by kernel_rfl) (by kernel_rfl)) ?_
  intro W base args ds gs before hval0 hW hcnd _
  have hval : ∀ (j : Nat) t v, Tryz.f3.params[j]? = some t → args[j]? = some v → Value.okWide Tryz.prog W .any base t v := hval0
  have hW' := hW
  obtain ⟨p, q, hA0, hV, rfl, hfz, hnd⟩ := hW
  have hA : DataW.TrodAll enc Tryz.prog W 0 (fun _ => true) true Tryz.f3.params.toList args.toList ds p := hA0
  obtain ⟨rfl, rfl⟩ := trodVars_none hV
  refine (law_calls mixed tbOk lMp_D (callN_ok mixed tbOk lMp_D lMp_F lMp_N) lMp_FN (ts := lMp_T) lMp (by kernel_rfl) (fun j T v h1 h2 => hval j T v (arr_get h1) (arr_get h2)) hA).mono fun e W' ⟨he, hb⟩ => ?_
  subst he
  have hres : (Rows.diffMapsSpec.fn H (ds ++ [])).results = [.lit (.bool true)] ∧ (Rows.diffMapsSpec.fn H (ds ++ [])).args = ds ∧ (Rows.diffMapsSpec.fn H (ds ++ [])).vars = [] := by
    rw [Tryz.params3] at hA
    have hl := trodAll_len hA
    first
      | (match ds, hl with
         | [], _ => exact ⟨rfl, rfl, rfl⟩)
      | (match ds, hl with
         | [_], _ => exact ⟨rfl, rfl, rfl⟩)
      | (match ds, hl with
         | [_, _], _ => exact ⟨rfl, rfl, rfl⟩)
      | (match ds, hl with
         | [_, _, _], _ => exact ⟨rfl, rfl, rfl⟩)
      | (match ds, hl with
         | [_, _, _, _], _ => exact ⟨rfl, rfl, rfl⟩)
      | (match ds, hl with
         | [_, _, _, _, _], _ => exact ⟨rfl, rfl, rfl⟩)
      | (match ds, hl with
         | [_, _, _, _, _, _], _ => exact ⟨rfl, rfl, rfl⟩)
  exact ⟨_, rfl, law_post (s := Rows.diffMapsSpec) hW' rfl hres.1 hres.2.1 hres.2.2 rfl (fun t ht => by
    have := List.all_eq_true.1 diffMaps_readable t ht
    rw [Bool.and_eq_true, decide_eq_true_eq] at this
    exact this) hb⟩

theorem diffMaps_holds : Rows.DiffMapsSaid :=
  OpenClaim.holds_of_wide 3 Tryz.f3 rfl rfl rfl rfl rfl rfl rfl ⟨rfl, rfl, rfl, rfl, rfl⟩ rfl rfl rfl rfl rfl (by kernel_rfl) Tryz.func3 (by kernel_rfl)
    (of_decide_eq_true (by kernel_rfl)) (by unfold Func.isWrapper; first | (rw [if_pos (by decide +kernel)]; kernel_rfl) | (rw [if_neg (by decide +kernel)]; exact ⟨rfl, rfl⟩))
    (fun os started H enc _ => diffMaps_lifted os started H enc)
#print axioms diffMaps_holds
end Go.Proofs.YtdbnohpolknbbaaGreat
