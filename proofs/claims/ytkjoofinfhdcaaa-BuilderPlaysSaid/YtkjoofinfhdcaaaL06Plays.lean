/-
  Proved: BuilderPlays returns true for every input, and leaves its arguments as they were. Conditions: none beyond the row's own.
-/
import Derived.Test.YtkjoofinfhdcaaaGP
namespace Go.Proofs.Ytkjoofinfhdcaaa
open Go.ChangeShapes Go.WideShapes Go.ChangeAt Go.RowKit Go.Joins Av

theorem builderPlays_readable : (Try.f7.params.toList.all fun t => Try.prog.readableRec t && decide (t < Try.prog.types.size)) = true := by kernel_rfl
set_option maxRecDepth 100000 in
theorem builderPlays_lifted (os : Os) (started : os.Started) (H : Type) (enc : TypeId × Value → H) :
    ReturnsInHanded {} Try.checked os 7 .any (Rows.builderPlaysSpec.pre6 enc Try.prog Try.f7 Rows.builderPlaysRow.domain false) (Rows.builderPlaysSpec.post enc Try.prog Try.f7 false true false false) := by
  refine returnsInHanded_of_change (C := Try.checked) Try.own started (by kernel_rfl) Try.func7
    (ChangeSpec.witness6 (enc := enc) (C := Try.checked) false ⟨#[], #[.int .i64 0, .slice none 0 0], []⟩ 8 (by kernel_rfl) (by kernel_rfl) (by kernel_rfl) (by kernel_rfl)) ?_
  intro W base args ds gs before hval0 hW hcnd _
  have hval : ∀ (j : Nat) t v, Try.f7.params[j]? = some t → args[j]? = some v → Value.okWide Try.prog W .any base t v := hval0
  have hW' := hW
  obtain ⟨p, q, hA0, hV, rfl, hfz, hnd⟩ := hW
  have hA : DataW.TrodAll enc Try.prog W 0 (fun _ => true) true Try.f7.params.toList args.toList ds p := hA0
  obtain ⟨rfl, rfl⟩ := trodVars_none hV
  refine (law_callsR mixed tbOk lPb_D (callM_ok mixed tbOk lPb_D lPb_F lPb_Lk 2) lPb_FN BB_no (ts := lPb_T) lPb (by kernel_rfl) (fun j T v h1 h2 => hval j T v (arr_get h1) (arr_get h2)) hA).mono fun e W' ⟨he, hb⟩ => ?_
  subst he
  have hres : (Rows.builderPlaysSpec.fn H (ds ++ [])).results = [.lit (.bool true)] ∧ (Rows.builderPlaysSpec.fn H (ds ++ [])).args = ds ∧ (Rows.builderPlaysSpec.fn H (ds ++ [])).vars = [] := by
    rw [Try.params7] at hA
    have hl := trodAll_len hA
    first
      | (match ds, hl with
         | [], _ => exact ⟨rfl, rfl, rfl⟩)
      | (match ds, hl with
         | [_], _ => exact ⟨rfl, rfl, rfl⟩)
      | (match ds, hl with
         | [_, _], _ => exact ⟨rfl, rfl, rfl⟩)
      | (match ds, hl with
         | [_, _, _], _ => exact ⟨rfl, rfl, rfl⟩)
      | (match ds, hl with
         | [_, _, _, _], _ => exact ⟨rfl, rfl, rfl⟩)
      | (match ds, hl with
         | [_, _, _, _, _], _ => exact ⟨rfl, rfl, rfl⟩)
      | (match ds, hl with
         | [_, _, _, _, _, _], _ => exact ⟨rfl, rfl, rfl⟩)
  exact ⟨_, rfl, law_post (s := Rows.builderPlaysSpec) hW' rfl hres.1 hres.2.1 hres.2.2 rfl (fun t ht => by
    have := List.all_eq_true.1 builderPlays_readable t ht
    rw [Bool.and_eq_true, decide_eq_true_eq] at this
    exact this) hb⟩

theorem builderPlays_holds : Rows.BuilderPlaysSaid :=
 OpenClaim.holds_of_wide 7 Try.f7 rfl rfl rfl rfl rfl rfl rfl ⟨rfl, rfl, rfl, rfl, rfl⟩ rfl rfl rfl rfl rfl (by kernel_rfl) Try.func7 (by kernel_rfl)
  (of_decide_eq_true (by kernel_rfl)) (by unfold Func.isWrapper; first | (rw [if_pos (by decide +kernel)]; kernel_rfl) | (rw [if_neg (by decide +kernel)]; exact ⟨rfl, rfl⟩))
  (fun os started H enc _ => builderPlays_lifted os started H enc)
#print axioms builderPlays_holds
end Go.Proofs.Ytkjoofinfhdcaaa
