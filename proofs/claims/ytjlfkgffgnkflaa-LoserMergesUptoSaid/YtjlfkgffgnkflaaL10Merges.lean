/-
  Proved: LoserMerges returns true for every input of bulk at most 1048576, and leaves its arguments as they were. Conditions: none beyond the row's own.
-/
import Derived.Test.YtjlfkgffgnkflaaDo
import Derived.Test.YtjlfkgffgnkflaaGP
import Derived.JoinedCond
namespace Go.Proofs.Ytjlfkgffgnkflaa
open Go.ChangeShapes Go.WideShapes Go.ChangeAt Go.RowKit Go.Joins Av

theorem bulk_len {H : Type} : ∀ es : List (DataW H), es.length ≤ Rows.uptoBulkAll es ∧ ∀ d ∈ es, Rows.uptoBulk d ≤ Rows.uptoBulkAll es
  | [] => ⟨Nat.le_refl _, fun d h => by cases h⟩
  | e :: es => by
    obtain ⟨h1, h2⟩ := bulk_len es
    have h0 : 1 ≤ Rows.uptoBulk e := by
      cases e with
      | lit l => cases l <;> simp only [Rows.uptoBulk] <;> omega
      | _ => simp only [Rows.uptoBulk]; omega
    refine ⟨by simp only [Rows.uptoBulkAll, List.length_cons]; omega, fun d hd => ?_⟩
    simp only [Rows.uptoBulkAll]
    rcases List.mem_cons.1 hd with rfl | hd
    · omega
    · have := h2 d hd
      omega
theorem bulk_meas {H : Type} : Meas (Rows.uptoBulk (H := H)) where
  str := fun b => by simp only [Rows.uptoBulk]; omega
  sl := fun es sp => by have := (bulk_len es).1; simp only [Rows.uptoBulk]; omega
  slE := fun es sp d h => by have := (bulk_len es).2 d h; simp only [Rows.uptoBulk]; omega
  agg := fun ps d h => by have := (bulk_len ps).2 d h; simp only [Rows.uptoBulk]; omega
def uptoLoserMerges : OpenSpec := Rows.OpenSpec.upto Rows.loserMergesSpec
theorem loserMerges_readable : (Try.f5.params.toList.all fun t => Try.prog.readableRec t && decide (t < Try.prog.types.size)) = true := by kernel_rfl
set_option maxRecDepth 100000 in
theorem loserMerges_lifted (os : Os) (started : os.Started) (H : Type) (enc : TypeId × Value → H) (F0 : Stop.Interp) :
    ReturnsInHanded {} Try.checked os 5 .any (uptoLoserMerges.pre6 enc Try.prog Try.f5 Rows.loserMergesUptoRow.domain false) ((uptoLoserMerges.at F0).post enc Try.prog Try.f5 false true false false) := by
  refine returnsInHanded_of_cond (C := Try.checked) (s := uptoLoserMerges) (k := Rows.uptoSmall) rfl Try.own started (by kernel_rfl) Try.func5
    (OpenSpec.witness (enc := enc) (C := Try.checked) (s := uptoLoserMerges) (k := Rows.uptoSmall) rfl false ⟨#[], #[.slice none 0 0], []⟩ 8 (by kernel_rfl) (by kernel_rfl) (by kernel_rfl)
      (x := ([.nil], [], [])) (by kernel_rfl) (by kernel_rfl) (by kernel_rfl)) ?_
  intro W base args ds gs before hval0 hW hcnd hk _
  have hval : ∀ (j : Nat) t v, Try.f5.params[j]? = some t → args[j]? = some v → Value.okWide Try.prog W .any base t v := hval0
  have hW' := hW
  obtain ⟨p, q, hA0, hV, rfl, hfz, hnd⟩ := hW
  have hA : DataW.TrodAll enc Try.prog W 0 (fun _ => true) true Try.f5.params.toList args.toList ds p := hA0
  obtain ⟨rfl, rfl⟩ := trodVars_none hV
  have hbulk : ∀ d ∈ ds, Rows.uptoBulk d ≤ 1048576 := by
    intro d hd
    rw [List.append_nil] at hk
    simp only [Rows.uptoSmall, decide_eq_true_eq] at hk
    have := (bulk_len ds).2 d hd
    omega
  refine (law_callsU mixed lMe_FN (ts := lMe_T) bulk_meas lMe (by kernel_rfl) (fun j T v h1 h2 => hval j T v (arr_get h1) (arr_get h2)) hA hbulk).mono fun e W' ⟨he, hb⟩ => ?_
  subst he
  have hres : (Rows.loserMergesSpec.fn H (ds ++ [])).results = [.lit (.bool true)] ∧ (Rows.loserMergesSpec.fn H (ds ++ [])).args = ds ∧ (Rows.loserMergesSpec.fn H (ds ++ [])).vars = [] := by
    rw [Try.params5] at hA
    have hl := trodAll_len hA
    first
      | (match ds, hl with
         | [], _ => exact ⟨rfl, rfl, rfl⟩)
      | (match ds, hl with
         | [_], _ => exact ⟨rfl, rfl, rfl⟩)
      | (match ds, hl with
         | [_, _], _ => exact ⟨rfl, rfl, rfl⟩)
      | (match ds, hl with
         | [_, _, _], _ => exact ⟨rfl, rfl, rfl⟩)
  exact ⟨_, rfl, law_post (s := Rows.loserMergesSpec) hW' rfl hres.1 hres.2.1 hres.2.2 rfl (fun t ht => by
    have := List.all_eq_true.1 loserMerges_readable t ht
    rw [Bool.and_eq_true, decide_eq_true_eq] at this
    exact this) hb⟩

theorem loserMerges_holds : Rows.LoserMergesUptoSaid :=
  OpenClaim.holds_of_cond 5 Try.f5 rfl rfl rfl rfl rfl rfl rfl ⟨rfl, rfl, rfl, rfl, rfl⟩ rfl rfl rfl rfl rfl (by kernel_rfl) Try.func5 (by kernel_rfl)
    (of_decide_eq_true (by kernel_rfl)) (by unfold Func.isWrapper; first | (rw [if_pos (by decide +kernel)]; kernel_rfl) | (rw [if_neg (by decide +kernel)]; exact ⟨rfl, rfl⟩))
    (fun os started H enc _ F0 => loserMerges_lifted os started H enc F0)
#print axioms loserMerges_holds
end Go.Proofs.Ytjlfkgffgnkflaa
