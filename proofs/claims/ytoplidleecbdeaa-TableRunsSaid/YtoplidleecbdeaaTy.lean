import Derived.Test.YtoplidleecbdeaaProg
import Derived.Test.YtoplidleecbdeaaRXj
namespace Go.Proofs.Ytoplidleecbdeaa
open Go.Proofs.RX
noncomputable def Γ : Ty := ⟨[(3, ⟨(.int .i64), 1, [.int .i64 0]⟩),
  (4, ⟨.bool, 1, [.bool false]⟩),
  (9, ⟨.str, 1, [.string ⟨#[]⟩]⟩),
  (25, ⟨.ifc, 1, [.nilIface]⟩),
  (23, ⟨.ptr, 1, [.pointer none]⟩),
  (60, ⟨.ptr, 1, [.pointer none]⟩),
  (62, ⟨.row, 4, [.int .i64 0, .map none, .pointer none, .pointer none]⟩),
  (73, ⟨.row, 2, [.int .i64 0, .int .i64 0]⟩),
  (80, ⟨.row, 7, [.int .i64 0, .int .i64 0, .string ⟨#[]⟩, .int .i64 0, .int .i64 0, .pointer none, .pointer none]⟩),
  (38, ⟨.row, 3, [.int .i64 0, .int .i64 0, .string ⟨#[]⟩]⟩),
  (40, ⟨.row, 4, [.int .i64 0, .int .i64 0, .int .i64 0, .int .i64 0]⟩),
  (58, ⟨(.int .i64), 1, [.int .i64 0]⟩),
  (59, ⟨(.mp 38 60), 1, [.map none]⟩),
  (54, ⟨(.slc 38), 1, [.slice none 0 0]⟩),
  (95, ⟨.row, 3, [.int .i64 0, .int .i64 0, .int .i64 0]⟩),
  (28, ⟨(.slc 72), 1, [.slice none 0 0]⟩),
  (72, ⟨.row, 5, [.int .i64 0, .int .i64 0, .string ⟨#[]⟩, .int .i64 0, .int .i64 0]⟩),
  (30, ⟨.row, 2, [.int .i64 0, .slice none 0 0]⟩),
  (70, ⟨.row, 2, [.int .i64 0, .int .i64 0]⟩),
  (42, ⟨.row, 9, [.int .i64 0, .int .i64 0, .int .i64 0, .string ⟨#[]⟩, .int .i64 0, .int .i64 0, .int .i64 0, .int .i64 0, .int .i64 0]⟩),
  (22, ⟨(.slc 42), 1, [.slice none 0 0]⟩)],
  [(62, [(0, 1), (1, 1), (2, 1), (3, 1)]),
  (73, [(0, 1), (1, 1)]),
  (80, [(0, 3), (3, 2), (5, 1), (6, 1)]),
  (38, [(0, 1), (1, 1), (2, 1)]),
  (40, [(0, 1), (1, 1), (2, 1), (3, 1)]),
  (72, [(0, 3), (3, 2)]),
  (30, [(0, 1), (1, 1)]),
  (70, [(0, 1), (1, 1)]),
  (42, [(0, 1), (1, 3), (4, 4), (8, 1)])], Try.prog⟩
theorem Γok : Γ.ok Try.prog := ⟨⟨⟨by kernel_rfl, by kernel_rfl⟩, ⟨by kernel_rfl, by kernel_rfl⟩, ⟨by kernel_rfl, by kernel_rfl⟩, ⟨by kernel_rfl, by kernel_rfl⟩, ⟨by kernel_rfl, by kernel_rfl⟩, ⟨by kernel_rfl, by kernel_rfl⟩, ⟨by kernel_rfl, by kernel_rfl⟩, ⟨by kernel_rfl, by kernel_rfl⟩, ⟨by kernel_rfl, by kernel_rfl⟩, ⟨by kernel_rfl, by kernel_rfl⟩, ⟨by kernel_rfl, by kernel_rfl⟩, ⟨by kernel_rfl, by kernel_rfl⟩, ⟨by kernel_rfl, by kernel_rfl⟩, ⟨by kernel_rfl, by kernel_rfl⟩, ⟨by kernel_rfl, by kernel_rfl⟩, ⟨by kernel_rfl, by kernel_rfl⟩, ⟨by kernel_rfl, by kernel_rfl⟩, ⟨by kernel_rfl, by kernel_rfl⟩, ⟨by kernel_rfl, by kernel_rfl⟩, ⟨by kernel_rfl, by kernel_rfl⟩, ⟨by kernel_rfl, by kernel_rfl⟩, trivial⟩, ⟨by unfold sOk; kernel_rfl, by unfold sOk; kernel_rfl, by unfold sOk; kernel_rfl, by unfold sOk; kernel_rfl, by unfold sOk; kernel_rfl, by unfold sOk; kernel_rfl, by unfold sOk; kernel_rfl, by unfold sOk; kernel_rfl, by unfold sOk; kernel_rfl, trivial⟩, by kernel_rfl, rfl⟩
theorem g3 : findT Γ.ts 3 = some ⟨(.int .i64), 1, [.int .i64 0]⟩ := rfl
theorem g4 : findT Γ.ts 4 = some ⟨.bool, 1, [.bool false]⟩ := rfl
theorem g9 : findT Γ.ts 9 = some ⟨.str, 1, [.string ⟨#[]⟩]⟩ := rfl
theorem g25 : findT Γ.ts 25 = some ⟨.ifc, 1, [.nilIface]⟩ := rfl
theorem g23 : findT Γ.ts 23 = some ⟨.ptr, 1, [.pointer none]⟩ := rfl
theorem g60 : findT Γ.ts 60 = some ⟨.ptr, 1, [.pointer none]⟩ := rfl
theorem g62 : findT Γ.ts 62 = some ⟨.row, 4, [.int .i64 0, .map none, .pointer none, .pointer none]⟩ := rfl
theorem g73 : findT Γ.ts 73 = some ⟨.row, 2, [.int .i64 0, .int .i64 0]⟩ := rfl
theorem g80 : findT Γ.ts 80 = some ⟨.row, 7, [.int .i64 0, .int .i64 0, .string ⟨#[]⟩, .int .i64 0, .int .i64 0, .pointer none, .pointer none]⟩ := rfl
theorem g38 : findT Γ.ts 38 = some ⟨.row, 3, [.int .i64 0, .int .i64 0, .string ⟨#[]⟩]⟩ := rfl
theorem g40 : findT Γ.ts 40 = some ⟨.row, 4, [.int .i64 0, .int .i64 0, .int .i64 0, .int .i64 0]⟩ := rfl
theorem g58 : findT Γ.ts 58 = some ⟨(.int .i64), 1, [.int .i64 0]⟩ := rfl
theorem g59 : findT Γ.ts 59 = some ⟨(.mp 38 60), 1, [.map none]⟩ := rfl
theorem g54 : findT Γ.ts 54 = some ⟨(.slc 38), 1, [.slice none 0 0]⟩ := rfl
theorem g95 : findT Γ.ts 95 = some ⟨.row, 3, [.int .i64 0, .int .i64 0, .int .i64 0]⟩ := rfl
theorem g28 : findT Γ.ts 28 = some ⟨(.slc 72), 1, [.slice none 0 0]⟩ := rfl
theorem g72 : findT Γ.ts 72 = some ⟨.row, 5, [.int .i64 0, .int .i64 0, .string ⟨#[]⟩, .int .i64 0, .int .i64 0]⟩ := rfl
theorem g30 : findT Γ.ts 30 = some ⟨.row, 2, [.int .i64 0, .slice none 0 0]⟩ := rfl
theorem g70 : findT Γ.ts 70 = some ⟨.row, 2, [.int .i64 0, .int .i64 0]⟩ := rfl
theorem g42 : findT Γ.ts 42 = some ⟨.row, 9, [.int .i64 0, .int .i64 0, .int .i64 0, .string ⟨#[]⟩, .int .i64 0, .int .i64 0, .int .i64 0, .int .i64 0, .int .i64 0]⟩ := rfl
theorem g22 : findT Γ.ts 22 = some ⟨(.slc 42), 1, [.slice none 0 0]⟩ := rfl
theorem s62 : findS Γ.fs 62 = some [(0, 1), (1, 1), (2, 1), (3, 1)] := rfl
theorem f62_0 : findF Γ.fs 62 0 = some (0, 1) := rfl
theorem f62_1 : findF Γ.fs 62 1 = some (1, 1) := rfl
theorem f62_2 : findF Γ.fs 62 2 = some (2, 1) := rfl
theorem f62_3 : findF Γ.fs 62 3 = some (3, 1) := rfl
theorem s73 : findS Γ.fs 73 = some [(0, 1), (1, 1)] := rfl
theorem f73_0 : findF Γ.fs 73 0 = some (0, 1) := rfl
theorem f73_1 : findF Γ.fs 73 1 = some (1, 1) := rfl
theorem s80 : findS Γ.fs 80 = some [(0, 3), (3, 2), (5, 1), (6, 1)] := rfl
theorem f80_0 : findF Γ.fs 80 0 = some (0, 3) := rfl
theorem f80_1 : findF Γ.fs 80 1 = some (3, 2) := rfl
theorem f80_2 : findF Γ.fs 80 2 = some (5, 1) := rfl
theorem f80_3 : findF Γ.fs 80 3 = some (6, 1) := rfl
theorem s38 : findS Γ.fs 38 = some [(0, 1), (1, 1), (2, 1)] := rfl
theorem f38_0 : findF Γ.fs 38 0 = some (0, 1) := rfl
theorem f38_1 : findF Γ.fs 38 1 = some (1, 1) := rfl
theorem f38_2 : findF Γ.fs 38 2 = some (2, 1) := rfl
theorem s40 : findS Γ.fs 40 = some [(0, 1), (1, 1), (2, 1), (3, 1)] := rfl
theorem f40_0 : findF Γ.fs 40 0 = some (0, 1) := rfl
theorem f40_1 : findF Γ.fs 40 1 = some (1, 1) := rfl
theorem f40_2 : findF Γ.fs 40 2 = some (2, 1) := rfl
theorem f40_3 : findF Γ.fs 40 3 = some (3, 1) := rfl
theorem s72 : findS Γ.fs 72 = some [(0, 3), (3, 2)] := rfl
theorem f72_0 : findF Γ.fs 72 0 = some (0, 3) := rfl
theorem f72_1 : findF Γ.fs 72 1 = some (3, 2) := rfl
theorem s30 : findS Γ.fs 30 = some [(0, 1), (1, 1)] := rfl
theorem f30_0 : findF Γ.fs 30 0 = some (0, 1) := rfl
theorem f30_1 : findF Γ.fs 30 1 = some (1, 1) := rfl
theorem s70 : findS Γ.fs 70 = some [(0, 1), (1, 1)] := rfl
theorem f70_0 : findF Γ.fs 70 0 = some (0, 1) := rfl
theorem f70_1 : findF Γ.fs 70 1 = some (1, 1) := rfl
theorem s42 : findS Γ.fs 42 = some [(0, 1), (1, 3), (4, 4), (8, 1)] := rfl
theorem f42_0 : findF Γ.fs 42 0 = some (0, 1) := rfl
theorem f42_1 : findF Γ.fs 42 1 = some (1, 3) := rfl
theorem f42_2 : findF Γ.fs 42 2 = some (4, 4) := rfl
theorem f42_3 : findF Γ.fs 42 3 = some (8, 1) := rfl
end Go.Proofs.Ytoplidleecbdeaa
