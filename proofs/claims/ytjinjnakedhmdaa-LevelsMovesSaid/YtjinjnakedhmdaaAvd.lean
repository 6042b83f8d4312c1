/-
  An abstract reading of values and memory: any operation that only reads or makes memory does what is reckoned.
-/
import Derived.Test.YtjinjnakedhmdaaAvc
namespace Av
open Go
section
variable {P : Program} {tb : Tb}
theorem Gives.of {o : Oper} {a : Act} {s : St} {nid : Nat} {v : AV} {ob : Option AObj} {e : Sem Value} (h : Gv P e s nid v ob) (he : execOp a.eval o = (do pure (.value (← e)))) : Gives P o a s nid v ob := by
  obtain ⟨cv, s', hr, h1, h2, h3, h4⟩ := h
  exact ⟨cv, s', by rw [he]; exact exec_value hr, h1, h2, h3, h4⟩
theorem Gives.of_run {o : Oper} {a : Act} {s : St} {nid : Nat} {v : AV} {ob : Option AObj} {e : Sem Value} (h : Gv P e s nid v ob) (he : (execOp a.eval o).run P s.w = ((do pure (.value (← e))) : Sem Next).run P s.w) : Gives P o a s nid v ob := by
  obtain ⟨cv, s', hr, h1, h2, h3, h4⟩ := h
  exact ⟨cv, s', by rw [he]; exact exec_value hr, h1, h2, h3, h4⟩
theorem pop_Gives (hT : TbOk P tb) {s : St} (hok : Ok s) {h0 : List AObj} (hs : SubH h0 s.h) {nid : Nat} (hf : Free s.h nid) {ρ : Operand → AV} {a : Act} (hρ : ∀ x, R s (ρ x) (a.eval x)) {o : Oper} {v : AV} {ob : Option AObj}
    (h : (pop tb h0 nid ρ o).Is v ob) : Gives P o a s nid v ob := by
  unfold pop at h
  split at h <;> rename_i ho
  · exact Gives.of (move_Gv hok hf (hρ _) h) (by unfold execOp; simp only [ho]; rfl)
  · exact Gives.of (move_Gv hok hf (hρ _) h) (by unfold execOp; simp only [ho]; rfl)
  · rename_i c x y
    exact Gives.of (pick_Gv (P := P) hok (hρ c) (hρ x) (hρ y) h) (by unfold execOp; simp only [ho]; simp)
  · exact Gives.of (alloc_Gv hT hok hf h (.tuple #[])) (by unfold execOp; simp only [ho])
  · exact Gives.of (box_Gv hok hf (hρ _) h) (by unfold execOp; simp only [ho])
  · rename_i t ps
    exact Gives.of (build_Gv hT hok (ws := ps.map fun p => (p.1, a.eval p.2)) (by simpa using RP_map hρ ps.toList) h) (by unfold execOp; simp only [ho])
  · rename_i t n ps
    exact Gives.of (buildSlice_Gv hT hok hf (ws := ps.map fun p => (p.1, a.eval p.2)) (by simpa using RP_map hρ ps.toList) h) (by unfold execOp; simp only [ho])
  · exact Gives.of (load_Gv hT hok hs (hρ _) h) (by unfold execOp; simp only [ho])
  · exact Gives.of (fieldAddr_Gv hT hok (hρ _) h) (by unfold execOp; simp only [ho])
  · exact Gives.of (field_Gv hT hok (hρ _) h) (by unfold execOp; simp only [ho])
  · rename_i t x i
    exact Gives.of (indexAddr_Gv hT hok hs (R_detos (hρ x)) (hρ i) h) (by unfold execOp; simp only [ho])
  · rename_i t x i
    exact Gives.of (index_Gv hT hok (hρ x) (hρ i) h) (by unfold execOp; simp only [ho])
  · rename_i op t x y t'
    exact Gives.of (bin_Gv hT hok (ox := x) (oy := y) (R_detos (hρ x)) (hρ y) h) (by unfold execOp; simp only [ho])
  · exact Gives.of (un_Gv hok (hρ _) h) (by unfold execOp; simp only [ho])
  · exact Gives.of (conv_Gv hT hok hs (hρ _) h) (by unfold execOp; simp only [ho])
  · exact Gives.of (iface_Gv hT hok (hρ _) h) (by unfold execOp; simp only [ho])
  · rename_i x xT t ok
    exact Gives.of (assert_Gv hT hok (X := xT) (hρ x) h) (by unfold execOp; simp only [ho])
  · exact Gives.of (extract_Gv hok (hρ _) h) (by unfold execOp; simp only [ho])
  · rename_i t x lo hi mx
    split at h
    · exact Gives.of (slice_Gv hT hok hs (R_detos (hρ x)) (RO_map hρ lo) (RO_map hρ hi) (mx := none) (cmx := none) trivial h) (by unfold execOp; simp only [ho]; rfl)
    · rename_i m
      exact Gives.of (slice3_Gv hT hok hs (hρ x) (RO_map hρ lo) (RO_map hρ hi) (mx := some (ρ m)) (cmx := some (a.eval m)) (hρ m) h) (by unfold execOp; simp only [ho]; rfl)
  · rename_i t n c
    exact Gives.of (make_Gv hT hok hf (hρ n) (hρ c) h) (by unfold execOp; simp only [ho])
  · rename_i f first caps
    obtain ⟨rfl, rfl⟩ := h
    refine Gives.of (e := Instr.makeFunc f (first.map a.eval) (caps.map a.eval)) (Gv.same (cv := .func f (first.map a.eval) (caps.map a.eval)) hok rfl ?_) (by unfold execOp; simp only [ho])
    simp only [R]
    have e : ∀ xs : Array Operand, xs.map a.eval = (xs.toList.map a.eval).toArray := fun xs => by rw [← Array.toList_map]
    exact ⟨first.toList.map a.eval, caps.toList.map a.eval, by rw [e first, e caps], RL_map hρ _, RL_map hρ _⟩
  · rename_i x
    obtain ⟨rfl, rfl, hv⟩ := nilCheck_ok (hρ x) h
    refine ⟨a.eval x, s, ?_, Step.refl s, hok, hρ x, rfl⟩
    unfold execOp
    simp only [ho]
    rcases hv with ⟨ad, e⟩ | ⟨f, b, c, e⟩ | ⟨t, y, e⟩ <;> rw [e] <;> rfl
  · rename_i c
    split at h
    · rename_i x t hc hargs htys
      have ha : c.args = #[x] := by have := congrArg List.toArray hargs; simpa using this
      have ht : c.argTypes = #[t] := by have := congrArg List.toArray htys; simpa using this
      refine Gives.of_run (len_Gv hT hok (ty := o.type) (R_detos (hρ x)) h) ?_
      unfold execOp
      simp only [ho, resolve, hc, ha, ht, Sem.run_bind, Sem.run_pure, Result.andThen_ok, invoke, builtin]
      simp
    · rename_i x t hc hargs htys
      have ha : c.args = #[x] := by have := congrArg List.toArray hargs; simpa using this
      have ht : c.argTypes = #[t] := by have := congrArg List.toArray htys; simpa using this
      refine Gives.of_run (cap_Gv hT hok hs (ty := o.type) (hρ x) h) ?_
      unfold execOp
      simp only [ho, resolve, hc, ha, ht, Sem.run_bind, Sem.run_pure, Result.andThen_ok, invoke, builtin]
      simp
    · have hc : c.callee = .builtin .min := by assumption
      refine Gives.of_run (minmax_Gv hok (cs := c.args.toList.map a.eval) (A := c.argTypes) (ty := o.type) (RL_map hρ c.args.toList) h) ?_
      unfold execOp
      have e : c.args.map a.eval = (c.args.toList.map a.eval).toArray := by rw [← Array.toList_map]
      simp only [ho, resolve, hc, Sem.run_bind, Sem.run_pure, Result.andThen_ok, invoke, builtin, e]
      simp
    · have hc : c.callee = .builtin .max := by assumption
      refine Gives.of_run (minmax_Gv hok (cs := c.args.toList.map a.eval) (A := c.argTypes) (ty := o.type) (RL_map hρ c.args.toList) h) ?_
      unfold execOp
      have e : c.args.map a.eval = (c.args.toList.map a.eval).toArray := by rw [← Array.toList_map]
      simp only [ho, resolve, hc, Sem.run_bind, Sem.run_pure, Result.andThen_ok, invoke, builtin, e]
      simp
    · exact h.elim
  · exact h.elim
end
end Av
