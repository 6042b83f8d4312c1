/-
  Two states, two counts are compared.
-/
import Derived.Test.YtmegjnanieafbaaCore
namespace Go.Proofs.Ytmegjnanieafbaa
open Go.RowKit Bk

theorem sh_struct : Try.prog.underlying 23 = some (.struct (Try.prog.fieldsOf 23)) := by kernel_rfl
theorem sh_held : Try.prog.stoodInHeld 23 = false := by kernel_rfl
@[go_sem] theorem sh_guard : Try.prog.eqGuardType Try.prog.depth 23 = false := by kernel_rfl
@[go_sem high] theorem sh_eql (a b : Bool) (l : ByteArray) (w : World) :
    (binOp .eql 23 (.agg #[.bool a, .string l, .bool b]) (.agg #[.bool a, .string l, .bool b])).run Try.prog w = .ok (.bool true) w := by
  rw [run_eql_struct, run_equalIn_agg w 9999 23 _ _ sh_struct sh_held]
  have hf : (Try.prog.fieldsOf 23).toList.map (fun f => (f.name, f.type, f.offset)) = [("Some", 4, 0), ("Last", 9, 1), ("Bottom", 4, 2)] := by kernel_rfl
  generalize (Try.prog.fieldsOf 23).toList = fs at hf
  obtain ⟨f0, fs, rfl, e0, hf⟩ := List.map_eq_cons_iff.1 hf
  obtain ⟨f1, fs, rfl, e1, hf⟩ := List.map_eq_cons_iff.1 hf
  obtain ⟨f2, fs, rfl, e2, hf⟩ := List.map_eq_cons_iff.1 hf
  obtain rfl := List.map_eq_nil_iff.1 hf
  simp only [Prod.mk.injEq] at e0 e1 e2
  obtain ⟨a0, b0, c0⟩ := e0
  obtain ⟨a1, b1, c1⟩ := e1
  obtain ⟨a2, b2, c2⟩ := e2
  simp [go_sem, Op.eqFields, a0, b0, c0, a1, b1, c1, a2, b2, c2]

theorem cnt_struct : Try.prog.underlying 38 = some (.struct (Try.prog.fieldsOf 38)) := by kernel_rfl
theorem cnt_held : Try.prog.stoodInHeld 38 = false := by kernel_rfl
@[go_sem] theorem cnt_guard : Try.prog.eqGuardType Try.prog.depth 38 = false := by kernel_rfl
@[go_sem high] theorem cnt_eql (a b c : Int) (w : World) :
    (binOp .eql 38 (.agg #[.int .i64 a, .int .i64 b, .int .i64 c]) (.agg #[.int .i64 a, .int .i64 b, .int .i64 c])).run Try.prog w = .ok (.bool true) w := by
  rw [run_eql_struct, run_equalIn_agg w 9999 38 _ _ cnt_struct cnt_held]
  have hf : (Try.prog.fieldsOf 38).toList.map (fun f => (f.name, f.type, f.offset)) = [("Kept", 3, 0), ("Shadowed", 3, 1), ("Dropped", 3, 2)] := by kernel_rfl
  generalize (Try.prog.fieldsOf 38).toList = fs at hf
  obtain ⟨f0, fs, rfl, e0, hf⟩ := List.map_eq_cons_iff.1 hf
  obtain ⟨f1, fs, rfl, e1, hf⟩ := List.map_eq_cons_iff.1 hf
  obtain ⟨f2, fs, rfl, e2, hf⟩ := List.map_eq_cons_iff.1 hf
  obtain rfl := List.map_eq_nil_iff.1 hf
  simp only [Prod.mk.injEq] at e0 e1 e2
  obtain ⟨a0, b0, c0⟩ := e0
  obtain ⟨a1, b1, c1⟩ := e1
  obtain ⟨a2, b2, c2⟩ := e2
  simp [go_sem, Op.eqFields, a0, b0, c0, a1, b1, c1, a2, b2, c2]
end Go.Proofs.Ytmegjnanieafbaa
