/-
  Two entries are compared.
-/
import Derived.Test.YtmegjnanieafbaaCore
namespace Go.Proofs.Ytmegjnanieafbaa
open Go.RowKit Bk

theorem ent_struct : Try.prog.underlying 25 = some (.struct (Try.prog.fieldsOf 25)) := by kernel_rfl
theorem ent_held : Try.prog.stoodInHeld 25 = false := by kernel_rfl
@[go_sem] theorem ent_guard : Try.prog.eqGuardType Try.prog.depth 25 = false := by kernel_rfl
theorem ent_equalIn (k v k' v' : ByteArray) (d d' : Bool) (s s' : Int) (w : World) :
    (Op.equalIn 10000 25 (.agg #[.string k, .string v, .bool d, .int .i64 s]) (.agg #[.string k', .string v', .bool d', .int .i64 s'])).run Try.prog w = .ok (entEq ⟨k, v, d, s⟩ ⟨k', v', d', s'⟩) w := by
  rw [run_equalIn_agg w 9999 25 _ _ ent_struct ent_held]
  have hf : (Try.prog.fieldsOf 25).toList.map (fun f => (f.name, f.type, f.offset)) = [("Key", 9, 0), ("Val", 9, 1), ("Dead", 4, 2), ("Seq", 2, 3)] := by kernel_rfl
  generalize (Try.prog.fieldsOf 25).toList = fs at hf
  obtain ⟨f0, fs, rfl, e0, hf⟩ := List.map_eq_cons_iff.1 hf
  obtain ⟨f1, fs, rfl, e1, hf⟩ := List.map_eq_cons_iff.1 hf
  obtain ⟨f2, fs, rfl, e2, hf⟩ := List.map_eq_cons_iff.1 hf
  obtain ⟨f3, fs, rfl, e3, hf⟩ := List.map_eq_cons_iff.1 hf
  obtain rfl := List.map_eq_nil_iff.1 hf
  simp only [Prod.mk.injEq] at e0 e1 e2 e3
  obtain ⟨a0, b0, c0⟩ := e0
  obtain ⟨a1, b1, c1⟩ := e1
  obtain ⟨a2, b2, c2⟩ := e2
  obtain ⟨a3, b3, c3⟩ := e3
  simp [go_sem, Op.eqFields, a0, b0, c0, a1, b1, c1, a2, b2, c2, a3, b3, c3, entEq]
  repeat (split <;> simp_all)
@[go_sem high] theorem ent_eql (k v k' v' : ByteArray) (d d' : Bool) (s s' : Int) (w : World) :
    (binOp .eql 25 (.agg #[.string k, .string v, .bool d, .int .i64 s]) (.agg #[.string k', .string v', .bool d', .int .i64 s'])).run Try.prog w = .ok (.bool (entEq ⟨k, v, d, s⟩ ⟨k', v', d', s'⟩)) w := by
  rw [run_eql_struct, ent_equalIn]; rfl
@[go_sem high] theorem ent_neq (k v k' v' : ByteArray) (d d' : Bool) (s s' : Int) (w : World) :
    (binOp .neq 25 (.agg #[.string k, .string v, .bool d, .int .i64 s]) (.agg #[.string k', .string v', .bool d', .int .i64 s'])).run Try.prog w = .ok (.bool (!entEq ⟨k, v, d, s⟩ ⟨k', v', d', s'⟩)) w := by
  rw [run_neq_struct, ent_equalIn]; rfl
end Go.Proofs.Ytmegjnanieafbaa
