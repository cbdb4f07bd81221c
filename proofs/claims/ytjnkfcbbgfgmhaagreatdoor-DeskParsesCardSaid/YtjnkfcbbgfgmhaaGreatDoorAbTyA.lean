import Derived.Test.YtjnkfcbbgfgmhaaGreatDoorChecked
import Derived.Test.YtjnkfcbbgfgmhaaGreatDoorAbSimp
set_option linter.unusedSimpArgs false
set_option linter.unusedVariables false
namespace Go.Ab.Ty
open Go Go.Ab Go.Proofs
set_option maxRecDepth 100000
@[go_sem] theorem tk2 : tk Tryz.prog 2 = .int .i64 := by kernel_rfl
@[go_sem] theorem ldk2 : ldk Tryz.prog 2 = some (false, 1) := by kernel_rfl
@[go_sem] theorem tz2 : tz Tryz.prog 2 = some [.v (.int .i64 0)] := by kernel_rfl
@[go_sem] theorem tzv2 : tzv Tryz.prog 2 = some (.v (.int .i64 0)) := by kernel_rfl
@[go_sem] theorem tk3 : tk Tryz.prog 3 = .int .i64 := by kernel_rfl
@[go_sem] theorem ldk3 : ldk Tryz.prog 3 = some (false, 1) := by kernel_rfl
@[go_sem] theorem tz3 : tz Tryz.prog 3 = some [.v (.int .i64 0)] := by kernel_rfl
@[go_sem] theorem tzv3 : tzv Tryz.prog 3 = some (.v (.int .i64 0)) := by kernel_rfl
@[go_sem] theorem tk4 : tk Tryz.prog 4 = .bool := by kernel_rfl
@[go_sem] theorem ldk4 : ldk Tryz.prog 4 = some (false, 1) := by kernel_rfl
@[go_sem] theorem tz4 : tz Tryz.prog 4 = some [.v (.bool false)] := by kernel_rfl
@[go_sem] theorem tzv4 : tzv Tryz.prog 4 = some (.v (.bool false)) := by kernel_rfl
@[go_sem] theorem tk5 : tk Tryz.prog 5 = .int .u8 := by kernel_rfl
@[go_sem] theorem ldk5 : ldk Tryz.prog 5 = some (false, 1) := by kernel_rfl
@[go_sem] theorem tz5 : tz Tryz.prog 5 = some [.v (.int .u8 0)] := by kernel_rfl
@[go_sem] theorem tzv5 : tzv Tryz.prog 5 = some (.v (.int .u8 0)) := by kernel_rfl
@[go_sem] theorem tk9 : tk Tryz.prog 9 = .string := by kernel_rfl
@[go_sem] theorem ldk9 : ldk Tryz.prog 9 = some (false, 1) := by kernel_rfl
@[go_sem] theorem tz9 : tz Tryz.prog 9 = some [.v (.string ⟨#[]⟩)] := by kernel_rfl
@[go_sem] theorem tzv9 : tzv Tryz.prog 9 = some (.v (.string ⟨#[]⟩)) := by kernel_rfl
@[go_sem] theorem tk21 : tk Tryz.prog 21 = .int .i32 := by kernel_rfl
@[go_sem] theorem ldk21 : ldk Tryz.prog 21 = some (false, 1) := by kernel_rfl
@[go_sem] theorem tz21 : tz Tryz.prog 21 = some [.v (.int .i32 0)] := by kernel_rfl
@[go_sem] theorem tzv21 : tzv Tryz.prog 21 = some (.v (.int .i32 0)) := by kernel_rfl
@[go_sem] theorem tk23 : tk Tryz.prog 23 = .slice 39 2 16 := by kernel_rfl
@[go_sem] theorem ldk23 : ldk Tryz.prog 23 = some (false, 1) := by kernel_rfl
@[go_sem] theorem tz23 : tz Tryz.prog 23 = some [.sl 0 true []] := by kernel_rfl
@[go_sem] theorem tzv23 : tzv Tryz.prog 23 = some (.sl 0 true []) := by kernel_rfl
@[go_sem] theorem tk24 : tk Tryz.prog 24 = .struct [(0, 1, false), (1, 1, false), (2, 1, false), (3, 1, false), (4, 1, false), (5, 1, false), (6, 1, false), (7, 1, false), (8, 1, false), (9, 1, false), (10, 1, false), (11, 1, false), (12, 1, false), (13, 1, false), (14, 1, false), (15, 1, false), (16, 1, false), (17, 1, false), (18, 1, false), (19, 1, false), (20, 1, false), (21, 1, false)] := by kernel_rfl
@[go_sem] theorem ldk24 : ldk Tryz.prog 24 = some (true, 22) := by kernel_rfl
@[go_sem] theorem tz24 : tz Tryz.prog 24 = some [.v (.int .i64 0), .v (.int .i64 0), .v (.int .i64 0), .v (.int .i64 0), .v (.int .i64 0), .v (.int .i64 0), .v (.int .i64 0), .v (.int .i64 0), .v (.int .i64 0), .v (.int .i64 0), .v (.int .i64 0), .v (.int .i64 0), .v (.int .i64 0), .v (.int .i64 0), .v (.int .i64 0), .v (.int .i64 0), .v (.int .i64 0), .v (.int .i64 0), .v (.int .i64 0), .v (.int .i64 0), .sl 0 true [], .sl 0 true []] := by kernel_rfl
@[go_sem] theorem tzv24 : tzv Tryz.prog 24 = some (.agg [.v (.int .i64 0), .v (.int .i64 0), .v (.int .i64 0), .v (.int .i64 0), .v (.int .i64 0), .v (.int .i64 0), .v (.int .i64 0), .v (.int .i64 0), .v (.int .i64 0), .v (.int .i64 0), .v (.int .i64 0), .v (.int .i64 0), .v (.int .i64 0), .v (.int .i64 0), .v (.int .i64 0), .v (.int .i64 0), .v (.int .i64 0), .v (.int .i64 0), .v (.int .i64 0), .v (.int .i64 0), .sl 0 true [], .sl 0 true []]) := by kernel_rfl
@[go_sem] theorem tk25 : tk Tryz.prog 25 = .struct [(0, 1, false), (1, 1, false), (2, 1, false), (3, 1, false), (4, 1, false), (5, 1, false), (6, 1, false), (7, 1, false), (8, 1, false), (9, 1, false), (10, 1, false), (11, 1, false), (12, 1, false), (13, 1, false), (14, 1, false), (15, 1, false), (16, 1, false), (17, 1, false), (18, 1, false), (19, 1, false), (20, 1, false), (21, 1, false)] := by kernel_rfl
@[go_sem] theorem ldk25 : ldk Tryz.prog 25 = some (true, 22) := by kernel_rfl
@[go_sem] theorem tz25 : tz Tryz.prog 25 = some [.v (.int .i64 0), .v (.int .i64 0), .v (.int .i64 0), .v (.int .i64 0), .v (.int .i64 0), .v (.int .i64 0), .v (.int .i64 0), .v (.int .i64 0), .v (.int .i64 0), .v (.int .i64 0), .v (.int .i64 0), .v (.int .i64 0), .v (.int .i64 0), .v (.int .i64 0), .v (.int .i64 0), .v (.int .i64 0), .v (.int .i64 0), .v (.int .i64 0), .v (.int .i64 0), .v (.int .i64 0), .sl 0 true [], .sl 0 true []] := by kernel_rfl
@[go_sem] theorem tzv25 : tzv Tryz.prog 25 = some (.agg [.v (.int .i64 0), .v (.int .i64 0), .v (.int .i64 0), .v (.int .i64 0), .v (.int .i64 0), .v (.int .i64 0), .v (.int .i64 0), .v (.int .i64 0), .v (.int .i64 0), .v (.int .i64 0), .v (.int .i64 0), .v (.int .i64 0), .v (.int .i64 0), .v (.int .i64 0), .v (.int .i64 0), .v (.int .i64 0), .v (.int .i64 0), .v (.int .i64 0), .v (.int .i64 0), .v (.int .i64 0), .sl 0 true [], .sl 0 true []]) := by kernel_rfl
@[go_sem] theorem tk26 : tk Tryz.prog 26 = .int .i64 := by kernel_rfl
@[go_sem] theorem ldk26 : ldk Tryz.prog 26 = some (false, 1) := by kernel_rfl
@[go_sem] theorem tz26 : tz Tryz.prog 26 = some [.v (.int .i64 0)] := by kernel_rfl
@[go_sem] theorem tzv26 : tzv Tryz.prog 26 = some (.v (.int .i64 0)) := by kernel_rfl
@[go_sem] theorem tk38 : tk Tryz.prog 38 = .struct [(0, 1, false), (1, 1, false)] := by kernel_rfl
@[go_sem] theorem ldk38 : ldk Tryz.prog 38 = some (true, 2) := by kernel_rfl
@[go_sem] theorem eqTy38 : eqTy Tryz.prog 38 = some [.int, .int] := by kernel_rfl
@[go_sem] theorem tz38 : tz Tryz.prog 38 = some [.v (.int .i64 0), .v (.int .i64 0)] := by kernel_rfl
@[go_sem] theorem tzv38 : tzv Tryz.prog 38 = some (.agg [.v (.int .i64 0), .v (.int .i64 0)]) := by kernel_rfl
@[go_sem] theorem tk39 : tk Tryz.prog 39 = .struct [(0, 1, false), (1, 1, false)] := by kernel_rfl
@[go_sem] theorem ldk39 : ldk Tryz.prog 39 = some (true, 2) := by kernel_rfl
@[go_sem] theorem eqTy39 : eqTy Tryz.prog 39 = some [.int, .int] := by kernel_rfl
@[go_sem] theorem tz39 : tz Tryz.prog 39 = some [.v (.int .i64 0), .v (.int .i64 0)] := by kernel_rfl
@[go_sem] theorem tzv39 : tzv Tryz.prog 39 = some (.agg [.v (.int .i64 0), .v (.int .i64 0)]) := by kernel_rfl
@[go_sem] theorem tk40 : tk Tryz.prog 40 = .slice 9 1 16 := by kernel_rfl
@[go_sem] theorem ldk40 : ldk Tryz.prog 40 = some (false, 1) := by kernel_rfl
@[go_sem] theorem tz40 : tz Tryz.prog 40 = some [.sl 0 true []] := by kernel_rfl
@[go_sem] theorem tzv40 : tzv Tryz.prog 40 = some (.sl 0 true []) := by kernel_rfl
@[go_sem] theorem tk43 : tk Tryz.prog 43 = .map 9 4 := by kernel_rfl
@[go_sem] theorem ldk43 : ldk Tryz.prog 43 = some (false, 1) := by kernel_rfl
@[go_sem] theorem tz43 : tz Tryz.prog 43 = some [.v (.map none)] := by kernel_rfl
@[go_sem] theorem tzv43 : tzv Tryz.prog 43 = some (.v (.map none)) := by kernel_rfl
@[go_sem] theorem tk53 : tk Tryz.prog 53 = .iface := by kernel_rfl
@[go_sem] theorem ldk53 : ldk Tryz.prog 53 = some (false, 1) := by kernel_rfl
@[go_sem] theorem tz53 : tz Tryz.prog 53 = some [.v .nilIface] := by kernel_rfl
@[go_sem] theorem tzv53 : tzv Tryz.prog 53 = some (.v .nilIface) := by kernel_rfl
@[go_sem] theorem tk60 : tk Tryz.prog 60 = .slice 3 1 8 := by kernel_rfl
@[go_sem] theorem ldk60 : ldk Tryz.prog 60 = some (false, 1) := by kernel_rfl
@[go_sem] theorem tz60 : tz Tryz.prog 60 = some [.sl 0 true []] := by kernel_rfl
@[go_sem] theorem tzv60 : tzv Tryz.prog 60 = some (.sl 0 true []) := by kernel_rfl
@[go_sem] theorem tk65 : tk Tryz.prog 65 = .array 2 9 1 false := by kernel_rfl
@[go_sem] theorem ldk65 : ldk Tryz.prog 65 = some (true, 2) := by kernel_rfl
@[go_sem] theorem eqTy65 : eqTy Tryz.prog 65 = some [.string, .string] := by kernel_rfl
@[go_sem] theorem tz65 : tz Tryz.prog 65 = some [.v (.string ⟨#[]⟩), .v (.string ⟨#[]⟩)] := by kernel_rfl
@[go_sem] theorem tzv65 : tzv Tryz.prog 65 = some (.agg [.v (.string ⟨#[]⟩), .v (.string ⟨#[]⟩)]) := by kernel_rfl
@[go_sem] theorem tk66 : tk Tryz.prog 66 = .array 25 65 2 true := by kernel_rfl
@[go_sem] theorem ldk66 : ldk Tryz.prog 66 = some (true, 50) := by kernel_rfl
@[go_sem] theorem eqTy66 : eqTy Tryz.prog 66 = some [.string, .string, .string, .string, .string, .string, .string, .string, .string, .string, .string, .string, .string, .string, .string, .string, .string, .string, .string, .string, .string, .string, .string, .string, .string, .string, .string, .string, .string, .string, .string, .string, .string, .string, .string, .string, .string, .string, .string, .string, .string, .string, .string, .string, .string, .string, .string, .string, .string, .string] := by kernel_rfl
@[go_sem] theorem tz66 : tz Tryz.prog 66 = some [.v (.string ⟨#[]⟩), .v (.string ⟨#[]⟩), .v (.string ⟨#[]⟩), .v (.string ⟨#[]⟩), .v (.string ⟨#[]⟩), .v (.string ⟨#[]⟩), .v (.string ⟨#[]⟩), .v (.string ⟨#[]⟩), .v (.string ⟨#[]⟩), .v (.string ⟨#[]⟩), .v (.string ⟨#[]⟩), .v (.string ⟨#[]⟩), .v (.string ⟨#[]⟩), .v (.string ⟨#[]⟩), .v (.string ⟨#[]⟩), .v (.string ⟨#[]⟩), .v (.string ⟨#[]⟩), .v (.string ⟨#[]⟩), .v (.string ⟨#[]⟩), .v (.string ⟨#[]⟩), .v (.string ⟨#[]⟩), .v (.string ⟨#[]⟩), .v (.string ⟨#[]⟩), .v (.string ⟨#[]⟩), .v (.string ⟨#[]⟩), .v (.string ⟨#[]⟩), .v (.string ⟨#[]⟩), .v (.string ⟨#[]⟩), .v (.string ⟨#[]⟩), .v (.string ⟨#[]⟩), .v (.string ⟨#[]⟩), .v (.string ⟨#[]⟩), .v (.string ⟨#[]⟩), .v (.string ⟨#[]⟩), .v (.string ⟨#[]⟩), .v (.string ⟨#[]⟩), .v (.string ⟨#[]⟩), .v (.string ⟨#[]⟩), .v (.string ⟨#[]⟩), .v (.string ⟨#[]⟩), .v (.string ⟨#[]⟩), .v (.string ⟨#[]⟩), .v (.string ⟨#[]⟩), .v (.string ⟨#[]⟩), .v (.string ⟨#[]⟩), .v (.string ⟨#[]⟩), .v (.string ⟨#[]⟩), .v (.string ⟨#[]⟩), .v (.string ⟨#[]⟩), .v (.string ⟨#[]⟩)] := by kernel_rfl
@[go_sem] theorem tzv66 : tzv Tryz.prog 66 = some (.agg [.v (.string ⟨#[]⟩), .v (.string ⟨#[]⟩), .v (.string ⟨#[]⟩), .v (.string ⟨#[]⟩), .v (.string ⟨#[]⟩), .v (.string ⟨#[]⟩), .v (.string ⟨#[]⟩), .v (.string ⟨#[]⟩), .v (.string ⟨#[]⟩), .v (.string ⟨#[]⟩), .v (.string ⟨#[]⟩), .v (.string ⟨#[]⟩), .v (.string ⟨#[]⟩), .v (.string ⟨#[]⟩), .v (.string ⟨#[]⟩), .v (.string ⟨#[]⟩), .v (.string ⟨#[]⟩), .v (.string ⟨#[]⟩), .v (.string ⟨#[]⟩), .v (.string ⟨#[]⟩), .v (.string ⟨#[]⟩), .v (.string ⟨#[]⟩), .v (.string ⟨#[]⟩), .v (.string ⟨#[]⟩), .v (.string ⟨#[]⟩), .v (.string ⟨#[]⟩), .v (.string ⟨#[]⟩), .v (.string ⟨#[]⟩), .v (.string ⟨#[]⟩), .v (.string ⟨#[]⟩), .v (.string ⟨#[]⟩), .v (.string ⟨#[]⟩), .v (.string ⟨#[]⟩), .v (.string ⟨#[]⟩), .v (.string ⟨#[]⟩), .v (.string ⟨#[]⟩), .v (.string ⟨#[]⟩), .v (.string ⟨#[]⟩), .v (.string ⟨#[]⟩), .v (.string ⟨#[]⟩), .v (.string ⟨#[]⟩), .v (.string ⟨#[]⟩), .v (.string ⟨#[]⟩), .v (.string ⟨#[]⟩), .v (.string ⟨#[]⟩), .v (.string ⟨#[]⟩), .v (.string ⟨#[]⟩), .v (.string ⟨#[]⟩), .v (.string ⟨#[]⟩), .v (.string ⟨#[]⟩)]) := by kernel_rfl
@[go_sem] theorem tk71 : tk Tryz.prog 71 = .slice 5 1 1 := by kernel_rfl
@[go_sem] theorem ldk71 : ldk Tryz.prog 71 = some (false, 1) := by kernel_rfl
@[go_sem] theorem tz71 : tz Tryz.prog 71 = some [.sl 0 true []] := by kernel_rfl
@[go_sem] theorem tzv71 : tzv Tryz.prog 71 = some (.sl 0 true []) := by kernel_rfl
@[go_sem] theorem tk73 : tk Tryz.prog 73 = .pointer 3 := by kernel_rfl
@[go_sem] theorem ldk73 : ldk Tryz.prog 73 = some (false, 1) := by kernel_rfl
@[go_sem] theorem tz73 : tz Tryz.prog 73 = some [.v (.pointer none)] := by kernel_rfl
@[go_sem] theorem tzv73 : tzv Tryz.prog 73 = some (.v (.pointer none)) := by kernel_rfl
@[go_sem] theorem tk75 : tk Tryz.prog 75 = .pointer 25 := by kernel_rfl
@[go_sem] theorem ldk75 : ldk Tryz.prog 75 = some (false, 1) := by kernel_rfl
@[go_sem] theorem tz75 : tz Tryz.prog 75 = some [.v (.pointer none)] := by kernel_rfl
@[go_sem] theorem tzv75 : tzv Tryz.prog 75 = some (.v (.pointer none)) := by kernel_rfl
end Go.Ab.Ty
