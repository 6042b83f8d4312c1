/-
  The table of types of the program, and its functions.
-/
import Derived.Test.YtmegjnanieafbaaProg
import Derived.Test.YtmegjnanieafbaaAv6
namespace Go.Proofs.Ytmegjnanieafbaa
open Av
def tb : Tb := [
  (1, ⟨.fn, 1, 8, [.nilfn], none, []⟩),
  (2, ⟨.int .i64, 1, 8, [.int .i64 0], some (.int .i64), []⟩),
  (3, ⟨.int .i64, 1, 8, [.int .i64 0], some (.int .i64), []⟩),
  (4, ⟨.bool, 1, 1, [.bool false], some .bool, []⟩),
  (5, ⟨.int .u8, 1, 1, [.int .u8 0], some (.int .u8), []⟩),
  (9, ⟨.str, 1, 16, [.str ⟨#[]⟩], some .str, []⟩),
  (12, ⟨.int .u64, 1, 8, [.int .u64 0], some (.int .u64), []⟩),
  (20, ⟨.ifc, 1, 16, [.nili], none, []⟩),
  (21, ⟨.int .i32, 1, 4, [.int .i32 0], some (.int .i32), []⟩),
  (23, ⟨.st [(4, 0), (9, 1), (4, 2)], 3, 32, [.bool false, .str ⟨#[]⟩, .bool false], some (.st [.bool, .str, .bool]), []⟩),
  (25, ⟨.st [(9, 0), (9, 1), (4, 2), (2, 3)], 4, 48, [.str ⟨#[]⟩, .str ⟨#[]⟩, .bool false, .int .i64 0], some (.st [.str, .str, .bool, (.int .i64)]), []⟩),
  (26, ⟨.fn, 1, 8, [.nilfn], none, []⟩),
  (27, ⟨.int .i64, 1, 8, [.int .i64 0], some (.int .i64), []⟩),
  (29, ⟨.fn, 1, 8, [.nilfn], none, []⟩),
  (30, ⟨.fn, 1, 8, [.nilfn], none, []⟩),
  (31, ⟨.fn, 1, 8, [.nilfn], none, []⟩),
  (32, ⟨.fn, 1, 8, [.nilfn], none, []⟩),
  (33, ⟨.sl 25, 1, 24, [.zsl (.st [.str, .str, .bool, (.int .i64)])], some (.sl (.st [.str, .str, .bool, (.int .i64)])), []⟩),
  (34, ⟨.fn, 1, 8, [.nilfn], none, []⟩),
  (36, ⟨.fn, 1, 8, [.nilfn], none, []⟩),
  (38, ⟨.st [(3, 0), (3, 1), (3, 2)], 3, 24, [.int .i64 0, .int .i64 0, .int .i64 0], some (.st [(.int .i64), (.int .i64), (.int .i64)]), []⟩),
  (40, ⟨.fn, 1, 8, [.nilfn], none, []⟩),
  (41, ⟨.fn, 1, 8, [.nilfn], none, []⟩),
  (42, ⟨.fn, 1, 8, [.nilfn], none, []⟩),
  (44, ⟨.fn, 1, 8, [.nilfn], none, []⟩),
  (45, ⟨.fn, 1, 8, [.nilfn], none, []⟩),
  (46, ⟨.ifc, 1, 16, [.nili], none, []⟩),
  (47, ⟨.ifc, 1, 16, [.nili], none, []⟩),
  (49, ⟨.fn, 1, 8, [.nilfn], none, []⟩),
  (50, ⟨.st [(9, 0), (9, 1), (4, 2), (2, 3)], 4, 48, [.str ⟨#[]⟩, .str ⟨#[]⟩, .bool false, .int .i64 0], some (.st [.str, .str, .bool, (.int .i64)]), [("bookend/shadow.entry", 53)]⟩),
  (52, ⟨.fn, 1, 8, [.nilfn], none, []⟩),
  (53, ⟨.fn, 1, 8, [.nilfn], none, []⟩),
  (55, ⟨.fn, 1, 8, [.nilfn], none, []⟩),
  (56, ⟨.fn, 1, 8, [.nilfn], none, []⟩),
  (57, ⟨.fn, 1, 8, [.nilfn], none, []⟩),
  (58, ⟨.st [(9, 0), (9, 1), (4, 2), (2, 3)], 4, 48, [.str ⟨#[]⟩, .str ⟨#[]⟩, .bool false, .int .i64 0], some (.st [.str, .str, .bool, (.int .i64)]), [("bookend/shadow.entry", 54)]⟩),
  (59, ⟨.st [(9, 0), (9, 1), (4, 2), (2, 3)], 4, 48, [.str ⟨#[]⟩, .str ⟨#[]⟩, .bool false, .int .i64 0], some (.st [.str, .str, .bool, (.int .i64)]), [("bookend/shadow.entry", 55)]⟩),
  (60, ⟨.fn, 1, 8, [.nilfn], none, []⟩),
  (61, ⟨.fn, 1, 8, [.nilfn], none, []⟩),
  (62, ⟨.fn, 1, 8, [.nilfn], none, []⟩),
  (63, ⟨.fn, 1, 8, [.nilfn], none, []⟩),
  (64, ⟨.fn, 1, 8, [.nilfn], none, []⟩),
  (70, ⟨.fn, 1, 8, [.nilfn], none, []⟩),
  (71, ⟨.int .u32, 1, 4, [.int .u32 0], some (.int .u32), []⟩),
  (74, ⟨.fn, 1, 8, [.nilfn], none, []⟩),
  (75, ⟨.ptr 5, 1, 8, [.nilp], none, []⟩)]
theorem tbOk : TbOk Try.prog tb := TbOk.of_all (by kernel_rfl)
noncomputable def fns : List (FuncId × Func) := [(3, Try.f3), (4, Try.f4), (5, Try.f5), (6, Try.f6), (7, Try.f7), (8, Try.f8), (9, Try.f9), (10, Try.f10), (11, Try.f11), (12, Try.f12), (13, Try.f13), (14, Try.f14), (15, Try.f15), (16, Try.f16), (17, Try.f17), (18, Try.f18), (19, Try.f19), (20, Try.f20), (21, Try.f21), (22, Try.f22), (23, Try.f23), (24, Try.f24), (25, Try.f25), (26, Try.f26), (27, Try.f27), (28, Try.f28), (29, Try.f29), (30, Try.f30), (31, Try.f31), (32, Try.f32), (33, Try.f33), (34, Try.f34), (35, Try.f35), (36, Try.f36), (37, Try.f37), (53, Try.f53), (54, Try.f54), (55, Try.f55)]
end Go.Proofs.Ytmegjnanieafbaa
