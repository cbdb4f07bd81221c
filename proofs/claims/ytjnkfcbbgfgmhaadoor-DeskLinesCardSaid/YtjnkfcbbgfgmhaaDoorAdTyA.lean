import Derived.Test.YtjnkfcbbgfgmhaaDoorChecked
import Derived.Test.YtjnkfcbbgfgmhaaDoorAbSimp
set_option linter.unusedSimpArgs false
set_option linter.unusedVariables false
namespace Go.Ab.Ty
open Go Go.Ab Go.Proofs
set_option maxRecDepth 100000
@[go_sem] theorem tk2 : tk Tryd.prog 2 = .int .i64 := by kernel_rfl
@[go_sem] theorem ldk2 : ldk Tryd.prog 2 = some (false, 1) := by kernel_rfl
@[go_sem] theorem tz2 : tz Tryd.prog 2 = some [.v (.int .i64 0)] := by kernel_rfl
@[go_sem] theorem tzv2 : tzv Tryd.prog 2 = some (.v (.int .i64 0)) := by kernel_rfl
@[go_sem] theorem tk3 : tk Tryd.prog 3 = .int .i64 := by kernel_rfl
@[go_sem] theorem ldk3 : ldk Tryd.prog 3 = some (false, 1) := by kernel_rfl
@[go_sem] theorem tz3 : tz Tryd.prog 3 = some [.v (.int .i64 0)] := by kernel_rfl
@[go_sem] theorem tzv3 : tzv Tryd.prog 3 = some (.v (.int .i64 0)) := by kernel_rfl
@[go_sem] theorem tk4 : tk Tryd.prog 4 = .bool := by kernel_rfl
@[go_sem] theorem ldk4 : ldk Tryd.prog 4 = some (false, 1) := by kernel_rfl
@[go_sem] theorem tz4 : tz Tryd.prog 4 = some [.v (.bool false)] := by kernel_rfl
@[go_sem] theorem tzv4 : tzv Tryd.prog 4 = some (.v (.bool false)) := by kernel_rfl
@[go_sem] theorem tk5 : tk Tryd.prog 5 = .int .u8 := by kernel_rfl
@[go_sem] theorem ldk5 : ldk Tryd.prog 5 = some (false, 1) := by kernel_rfl
@[go_sem] theorem tz5 : tz Tryd.prog 5 = some [.v (.int .u8 0)] := by kernel_rfl
@[go_sem] theorem tzv5 : tzv Tryd.prog 5 = some (.v (.int .u8 0)) := by kernel_rfl
@[go_sem] theorem tk6 : tk Tryd.prog 6 = .int .u8 := by kernel_rfl
@[go_sem] theorem ldk6 : ldk Tryd.prog 6 = some (false, 1) := by kernel_rfl
@[go_sem] theorem tz6 : tz Tryd.prog 6 = some [.v (.int .u8 0)] := by kernel_rfl
@[go_sem] theorem tzv6 : tzv Tryd.prog 6 = some (.v (.int .u8 0)) := by kernel_rfl
@[go_sem] theorem tk7 : tk Tryd.prog 7 = .struct [(0, 1, false), (1, 1, false), (2, 1, false), (3, 1, false)] := by kernel_rfl
@[go_sem] theorem ldk7 : ldk Tryd.prog 7 = some (true, 4) := by kernel_rfl
@[go_sem] theorem eqTy7 : eqTy Tryd.prog 7 = some [.int, .int, .bool, .int] := by kernel_rfl
@[go_sem] theorem tz7 : tz Tryd.prog 7 = some [.v (.int .i64 0), .v (.int .i64 0), .v (.bool false), .v (.int .u8 0)] := by kernel_rfl
@[go_sem] theorem tzv7 : tzv Tryd.prog 7 = some (.agg [.v (.int .i64 0), .v (.int .i64 0), .v (.bool false), .v (.int .u8 0)]) := by kernel_rfl
@[go_sem] theorem tk8 : tk Tryd.prog 8 = .struct [(0, 1, false), (1, 1, false), (2, 1, false), (3, 1, false)] := by kernel_rfl
@[go_sem] theorem ldk8 : ldk Tryd.prog 8 = some (true, 4) := by kernel_rfl
@[go_sem] theorem eqTy8 : eqTy Tryd.prog 8 = some [.int, .int, .bool, .int] := by kernel_rfl
@[go_sem] theorem tz8 : tz Tryd.prog 8 = some [.v (.int .i64 0), .v (.int .i64 0), .v (.bool false), .v (.int .u8 0)] := by kernel_rfl
@[go_sem] theorem tzv8 : tzv Tryd.prog 8 = some (.agg [.v (.int .i64 0), .v (.int .i64 0), .v (.bool false), .v (.int .u8 0)]) := by kernel_rfl
@[go_sem] theorem tk9 : tk Tryd.prog 9 = .string := by kernel_rfl
@[go_sem] theorem ldk9 : ldk Tryd.prog 9 = some (false, 1) := by kernel_rfl
@[go_sem] theorem tz9 : tz Tryd.prog 9 = some [.v (.string ⟨#[]⟩)] := by kernel_rfl
@[go_sem] theorem tzv9 : tzv Tryd.prog 9 = some (.v (.string ⟨#[]⟩)) := by kernel_rfl
@[go_sem] theorem tk10 : tk Tryd.prog 10 = .string := by kernel_rfl
@[go_sem] theorem ldk10 : ldk Tryd.prog 10 = some (false, 1) := by kernel_rfl
@[go_sem] theorem tz10 : tz Tryd.prog 10 = some [.v (.string ⟨#[]⟩)] := by kernel_rfl
@[go_sem] theorem tzv10 : tzv Tryd.prog 10 = some (.v (.string ⟨#[]⟩)) := by kernel_rfl
@[go_sem] theorem tk11 : tk Tryd.prog 11 = .string := by kernel_rfl
@[go_sem] theorem ldk11 : ldk Tryd.prog 11 = some (false, 1) := by kernel_rfl
@[go_sem] theorem tz11 : tz Tryd.prog 11 = some [.v (.string ⟨#[]⟩)] := by kernel_rfl
@[go_sem] theorem tzv11 : tzv Tryd.prog 11 = some (.v (.string ⟨#[]⟩)) := by kernel_rfl
@[go_sem] theorem tk12 : tk Tryd.prog 12 = .int .u64 := by kernel_rfl
@[go_sem] theorem ldk12 : ldk Tryd.prog 12 = some (false, 1) := by kernel_rfl
@[go_sem] theorem tz12 : tz Tryd.prog 12 = some [.v (.int .u64 0)] := by kernel_rfl
@[go_sem] theorem tzv12 : tzv Tryd.prog 12 = some (.v (.int .u64 0)) := by kernel_rfl
@[go_sem] theorem tk13 : tk Tryd.prog 13 = .struct [(0, 1, false), (1, 1, false)] := by kernel_rfl
@[go_sem] theorem ldk13 : ldk Tryd.prog 13 = some (true, 2) := by kernel_rfl
@[go_sem] theorem tz13 : tz Tryd.prog 13 = some [.v (.string ⟨#[]⟩), .v (.int .u64 0)] := by kernel_rfl
@[go_sem] theorem tzv13 : tzv Tryd.prog 13 = some (.agg [.v (.string ⟨#[]⟩), .v (.int .u64 0)]) := by kernel_rfl
@[go_sem] theorem tk14 : tk Tryd.prog 14 = .struct [(0, 1, false), (1, 1, false)] := by kernel_rfl
@[go_sem] theorem ldk14 : ldk Tryd.prog 14 = some (true, 2) := by kernel_rfl
@[go_sem] theorem tz14 : tz Tryd.prog 14 = some [.v (.string ⟨#[]⟩), .v (.int .u64 0)] := by kernel_rfl
@[go_sem] theorem tzv14 : tzv Tryd.prog 14 = some (.agg [.v (.string ⟨#[]⟩), .v (.int .u64 0)]) := by kernel_rfl
@[go_sem] theorem tk15 : tk Tryd.prog 15 = .pointer 151 := by kernel_rfl
@[go_sem] theorem ldk15 : ldk Tryd.prog 15 = some (false, 1) := by kernel_rfl
@[go_sem] theorem tz15 : tz Tryd.prog 15 = some [.v (.pointer none)] := by kernel_rfl
@[go_sem] theorem tzv15 : tzv Tryd.prog 15 = some (.v (.pointer none)) := by kernel_rfl
@[go_sem] theorem tk16 : tk Tryd.prog 16 = .pointer 154 := by kernel_rfl
@[go_sem] theorem ldk16 : ldk Tryd.prog 16 = some (false, 1) := by kernel_rfl
@[go_sem] theorem tz16 : tz Tryd.prog 16 = some [.v (.pointer none)] := by kernel_rfl
@[go_sem] theorem tzv16 : tzv Tryd.prog 16 = some (.v (.pointer none)) := by kernel_rfl
@[go_sem] theorem tk17 : tk Tryd.prog 17 = .pointer 162 := by kernel_rfl
@[go_sem] theorem ldk17 : ldk Tryd.prog 17 = some (false, 1) := by kernel_rfl
@[go_sem] theorem tz17 : tz Tryd.prog 17 = some [.v (.pointer none)] := by kernel_rfl
@[go_sem] theorem tzv17 : tzv Tryd.prog 17 = some (.v (.pointer none)) := by kernel_rfl
@[go_sem] theorem tk18 : tk Tryd.prog 18 = .struct [(0, 1, false)] := by kernel_rfl
@[go_sem] theorem ldk18 : ldk Tryd.prog 18 = some (true, 1) := by kernel_rfl
@[go_sem] theorem tz18 : tz Tryd.prog 18 = some [.v (.pointer none)] := by kernel_rfl
@[go_sem] theorem tzv18 : tzv Tryd.prog 18 = some (.agg [.v (.pointer none)]) := by kernel_rfl
@[go_sem] theorem tk19 : tk Tryd.prog 19 = .struct [(0, 1, false)] := by kernel_rfl
@[go_sem] theorem ldk19 : ldk Tryd.prog 19 = some (true, 1) := by kernel_rfl
@[go_sem] theorem tz19 : tz Tryd.prog 19 = some [.v (.pointer none)] := by kernel_rfl
@[go_sem] theorem tzv19 : tzv Tryd.prog 19 = some (.agg [.v (.pointer none)]) := by kernel_rfl
@[go_sem] theorem tk20 : tk Tryd.prog 20 = .iface := by kernel_rfl
@[go_sem] theorem ldk20 : ldk Tryd.prog 20 = some (false, 1) := by kernel_rfl
@[go_sem] theorem tz20 : tz Tryd.prog 20 = some [.v .nilIface] := by kernel_rfl
@[go_sem] theorem tzv20 : tzv Tryd.prog 20 = some (.v .nilIface) := by kernel_rfl
@[go_sem] theorem tk21 : tk Tryd.prog 21 = .int .i32 := by kernel_rfl
@[go_sem] theorem ldk21 : ldk Tryd.prog 21 = some (false, 1) := by kernel_rfl
@[go_sem] theorem tz21 : tz Tryd.prog 21 = some [.v (.int .i32 0)] := by kernel_rfl
@[go_sem] theorem tzv21 : tzv Tryd.prog 21 = some (.v (.int .i32 0)) := by kernel_rfl
@[go_sem] theorem tk22 : tk Tryd.prog 22 = .slice 36 2 16 := by kernel_rfl
@[go_sem] theorem ldk22 : ldk Tryd.prog 22 = some (false, 1) := by kernel_rfl
@[go_sem] theorem tz22 : tz Tryd.prog 22 = some [.sl 0 true []] := by kernel_rfl
@[go_sem] theorem tzv22 : tzv Tryd.prog 22 = some (.sl 0 true []) := by kernel_rfl
@[go_sem] theorem tk23 : tk Tryd.prog 23 = .struct [(0, 1, false), (1, 1, false), (2, 1, false), (3, 1, false), (4, 1, false), (5, 1, false), (6, 1, false), (7, 1, false), (8, 1, false), (9, 1, false), (10, 1, false), (11, 1, false), (12, 1, false), (13, 1, false), (14, 1, false), (15, 1, false), (16, 1, false), (17, 1, false), (18, 1, false), (19, 1, false), (20, 1, false), (21, 1, false)] := by kernel_rfl
@[go_sem] theorem ldk23 : ldk Tryd.prog 23 = some (true, 22) := by kernel_rfl
@[go_sem] theorem tz23 : tz Tryd.prog 23 = some [.v (.int .i64 0), .v (.int .i64 0), .v (.int .i64 0), .v (.int .i64 0), .v (.int .i64 0), .v (.int .i64 0), .v (.int .i64 0), .v (.int .i64 0), .v (.int .i64 0), .v (.int .i64 0), .v (.int .i64 0), .v (.int .i64 0), .v (.int .i64 0), .v (.int .i64 0), .v (.int .i64 0), .v (.int .i64 0), .v (.int .i64 0), .v (.int .i64 0), .v (.int .i64 0), .v (.int .i64 0), .sl 0 true [], .sl 0 true []] := by kernel_rfl
@[go_sem] theorem tzv23 : tzv Tryd.prog 23 = some (.agg [.v (.int .i64 0), .v (.int .i64 0), .v (.int .i64 0), .v (.int .i64 0), .v (.int .i64 0), .v (.int .i64 0), .v (.int .i64 0), .v (.int .i64 0), .v (.int .i64 0), .v (.int .i64 0), .v (.int .i64 0), .v (.int .i64 0), .v (.int .i64 0), .v (.int .i64 0), .v (.int .i64 0), .v (.int .i64 0), .v (.int .i64 0), .v (.int .i64 0), .v (.int .i64 0), .v (.int .i64 0), .sl 0 true [], .sl 0 true []]) := by kernel_rfl
@[go_sem] theorem tk24 : tk Tryd.prog 24 = .struct [(0, 1, false), (1, 1, false), (2, 1, false), (3, 1, false), (4, 1, false), (5, 1, false), (6, 1, false), (7, 1, false), (8, 1, false), (9, 1, false), (10, 1, false), (11, 1, false), (12, 1, false), (13, 1, false), (14, 1, false), (15, 1, false), (16, 1, false), (17, 1, false), (18, 1, false), (19, 1, false), (20, 1, false), (21, 1, false)] := by kernel_rfl
@[go_sem] theorem ldk24 : ldk Tryd.prog 24 = some (true, 22) := by kernel_rfl
@[go_sem] theorem tz24 : tz Tryd.prog 24 = some [.v (.int .i64 0), .v (.int .i64 0), .v (.int .i64 0), .v (.int .i64 0), .v (.int .i64 0), .v (.int .i64 0), .v (.int .i64 0), .v (.int .i64 0), .v (.int .i64 0), .v (.int .i64 0), .v (.int .i64 0), .v (.int .i64 0), .v (.int .i64 0), .v (.int .i64 0), .v (.int .i64 0), .v (.int .i64 0), .v (.int .i64 0), .v (.int .i64 0), .v (.int .i64 0), .v (.int .i64 0), .sl 0 true [], .sl 0 true []] := by kernel_rfl
@[go_sem] theorem tzv24 : tzv Tryd.prog 24 = some (.agg [.v (.int .i64 0), .v (.int .i64 0), .v (.int .i64 0), .v (.int .i64 0), .v (.int .i64 0), .v (.int .i64 0), .v (.int .i64 0), .v (.int .i64 0), .v (.int .i64 0), .v (.int .i64 0), .v (.int .i64 0), .v (.int .i64 0), .v (.int .i64 0), .v (.int .i64 0), .v (.int .i64 0), .v (.int .i64 0), .v (.int .i64 0), .v (.int .i64 0), .v (.int .i64 0), .v (.int .i64 0), .sl 0 true [], .sl 0 true []]) := by kernel_rfl
@[go_sem] theorem tk26 : tk Tryd.prog 26 = .int .i64 := by kernel_rfl
@[go_sem] theorem ldk26 : ldk Tryd.prog 26 = some (false, 1) := by kernel_rfl
@[go_sem] theorem tz26 : tz Tryd.prog 26 = some [.v (.int .i64 0)] := by kernel_rfl
@[go_sem] theorem tzv26 : tzv Tryd.prog 26 = some (.v (.int .i64 0)) := by kernel_rfl
@[go_sem] theorem tk35 : tk Tryd.prog 35 = .struct [(0, 1, false), (1, 1, false)] := by kernel_rfl
@[go_sem] theorem ldk35 : ldk Tryd.prog 35 = some (true, 2) := by kernel_rfl
@[go_sem] theorem eqTy35 : eqTy Tryd.prog 35 = some [.int, .int] := by kernel_rfl
@[go_sem] theorem tz35 : tz Tryd.prog 35 = some [.v (.int .i64 0), .v (.int .i64 0)] := by kernel_rfl
@[go_sem] theorem tzv35 : tzv Tryd.prog 35 = some (.agg [.v (.int .i64 0), .v (.int .i64 0)]) := by kernel_rfl
@[go_sem] theorem tk36 : tk Tryd.prog 36 = .struct [(0, 1, false), (1, 1, false)] := by kernel_rfl
@[go_sem] theorem ldk36 : ldk Tryd.prog 36 = some (true, 2) := by kernel_rfl
@[go_sem] theorem eqTy36 : eqTy Tryd.prog 36 = some [.int, .int] := by kernel_rfl
@[go_sem] theorem tz36 : tz Tryd.prog 36 = some [.v (.int .i64 0), .v (.int .i64 0)] := by kernel_rfl
@[go_sem] theorem tzv36 : tzv Tryd.prog 36 = some (.agg [.v (.int .i64 0), .v (.int .i64 0)]) := by kernel_rfl
@[go_sem] theorem tk39 : tk Tryd.prog 39 = .slice 9 1 16 := by kernel_rfl
@[go_sem] theorem ldk39 : ldk Tryd.prog 39 = some (false, 1) := by kernel_rfl
@[go_sem] theorem tz39 : tz Tryd.prog 39 = some [.sl 0 true []] := by kernel_rfl
@[go_sem] theorem tzv39 : tzv Tryd.prog 39 = some (.sl 0 true []) := by kernel_rfl
@[go_sem] theorem tk45 : tk Tryd.prog 45 = .map 9 4 := by kernel_rfl
@[go_sem] theorem ldk45 : ldk Tryd.prog 45 = some (false, 1) := by kernel_rfl
@[go_sem] theorem tz45 : tz Tryd.prog 45 = some [.v (.map none)] := by kernel_rfl
@[go_sem] theorem tzv45 : tzv Tryd.prog 45 = some (.v (.map none)) := by kernel_rfl
@[go_sem] theorem tk50 : tk Tryd.prog 50 = .slice 3 1 8 := by kernel_rfl
@[go_sem] theorem ldk50 : ldk Tryd.prog 50 = some (false, 1) := by kernel_rfl
@[go_sem] theorem tz50 : tz Tryd.prog 50 = some [.sl 0 true []] := by kernel_rfl
@[go_sem] theorem tzv50 : tzv Tryd.prog 50 = some (.sl 0 true []) := by kernel_rfl
@[go_sem] theorem tk53 : tk Tryd.prog 53 = .iface := by kernel_rfl
@[go_sem] theorem ldk53 : ldk Tryd.prog 53 = some (false, 1) := by kernel_rfl
@[go_sem] theorem tz53 : tz Tryd.prog 53 = some [.v .nilIface] := by kernel_rfl
@[go_sem] theorem tzv53 : tzv Tryd.prog 53 = some (.v .nilIface) := by kernel_rfl
@[go_sem] theorem tk54 : tk Tryd.prog 54 = .iface := by kernel_rfl
@[go_sem] theorem ldk54 : ldk Tryd.prog 54 = some (false, 1) := by kernel_rfl
@[go_sem] theorem tz54 : tz Tryd.prog 54 = some [.v .nilIface] := by kernel_rfl
@[go_sem] theorem tzv54 : tzv Tryd.prog 54 = some (.v .nilIface) := by kernel_rfl
@[go_sem] theorem tk58 : tk Tryd.prog 58 = .pointer 3 := by kernel_rfl
@[go_sem] theorem ldk58 : ldk Tryd.prog 58 = some (false, 1) := by kernel_rfl
@[go_sem] theorem tz58 : tz Tryd.prog 58 = some [.v (.pointer none)] := by kernel_rfl
@[go_sem] theorem tzv58 : tzv Tryd.prog 58 = some (.v (.pointer none)) := by kernel_rfl
@[go_sem] theorem tk60 : tk Tryd.prog 60 = .pointer 24 := by kernel_rfl
@[go_sem] theorem ldk60 : ldk Tryd.prog 60 = some (false, 1) := by kernel_rfl
@[go_sem] theorem tz60 : tz Tryd.prog 60 = some [.v (.pointer none)] := by kernel_rfl
@[go_sem] theorem tzv60 : tzv Tryd.prog 60 = some (.v (.pointer none)) := by kernel_rfl
@[go_sem] theorem tk62 : tk Tryd.prog 62 = .array 2 9 1 false := by kernel_rfl
@[go_sem] theorem ldk62 : ldk Tryd.prog 62 = some (true, 2) := by kernel_rfl
@[go_sem] theorem eqTy62 : eqTy Tryd.prog 62 = some [.string, .string] := by kernel_rfl
@[go_sem] theorem tz62 : tz Tryd.prog 62 = some [.v (.string ⟨#[]⟩), .v (.string ⟨#[]⟩)] := by kernel_rfl
@[go_sem] theorem tzv62 : tzv Tryd.prog 62 = some (.agg [.v (.string ⟨#[]⟩), .v (.string ⟨#[]⟩)]) := by kernel_rfl
@[go_sem] theorem tk63 : tk Tryd.prog 63 = .array 25 62 2 true := by kernel_rfl
@[go_sem] theorem ldk63 : ldk Tryd.prog 63 = some (true, 50) := by kernel_rfl
@[go_sem] theorem eqTy63 : eqTy Tryd.prog 63 = some [.string, .string, .string, .string, .string, .string, .string, .string, .string, .string, .string, .string, .string, .string, .string, .string, .string, .string, .string, .string, .string, .string, .string, .string, .string, .string, .string, .string, .string, .string, .string, .string, .string, .string, .string, .string, .string, .string, .string, .string, .string, .string, .string, .string, .string, .string, .string, .string, .string, .string] := by kernel_rfl
@[go_sem] theorem tz63 : tz Tryd.prog 63 = some [.v (.string ⟨#[]⟩), .v (.string ⟨#[]⟩), .v (.string ⟨#[]⟩), .v (.string ⟨#[]⟩), .v (.string ⟨#[]⟩), .v (.string ⟨#[]⟩), .v (.string ⟨#[]⟩), .v (.string ⟨#[]⟩), .v (.string ⟨#[]⟩), .v (.string ⟨#[]⟩), .v (.string ⟨#[]⟩), .v (.string ⟨#[]⟩), .v (.string ⟨#[]⟩), .v (.string ⟨#[]⟩), .v (.string ⟨#[]⟩), .v (.string ⟨#[]⟩), .v (.string ⟨#[]⟩), .v (.string ⟨#[]⟩), .v (.string ⟨#[]⟩), .v (.string ⟨#[]⟩), .v (.string ⟨#[]⟩), .v (.string ⟨#[]⟩), .v (.string ⟨#[]⟩), .v (.string ⟨#[]⟩), .v (.string ⟨#[]⟩), .v (.string ⟨#[]⟩), .v (.string ⟨#[]⟩), .v (.string ⟨#[]⟩), .v (.string ⟨#[]⟩), .v (.string ⟨#[]⟩), .v (.string ⟨#[]⟩), .v (.string ⟨#[]⟩), .v (.string ⟨#[]⟩), .v (.string ⟨#[]⟩), .v (.string ⟨#[]⟩), .v (.string ⟨#[]⟩), .v (.string ⟨#[]⟩), .v (.string ⟨#[]⟩), .v (.string ⟨#[]⟩), .v (.string ⟨#[]⟩), .v (.string ⟨#[]⟩), .v (.string ⟨#[]⟩), .v (.string ⟨#[]⟩), .v (.string ⟨#[]⟩), .v (.string ⟨#[]⟩), .v (.string ⟨#[]⟩), .v (.string ⟨#[]⟩), .v (.string ⟨#[]⟩), .v (.string ⟨#[]⟩), .v (.string ⟨#[]⟩)] := by kernel_rfl
@[go_sem] theorem tzv63 : tzv Tryd.prog 63 = some (.agg [.v (.string ⟨#[]⟩), .v (.string ⟨#[]⟩), .v (.string ⟨#[]⟩), .v (.string ⟨#[]⟩), .v (.string ⟨#[]⟩), .v (.string ⟨#[]⟩), .v (.string ⟨#[]⟩), .v (.string ⟨#[]⟩), .v (.string ⟨#[]⟩), .v (.string ⟨#[]⟩), .v (.string ⟨#[]⟩), .v (.string ⟨#[]⟩), .v (.string ⟨#[]⟩), .v (.string ⟨#[]⟩), .v (.string ⟨#[]⟩), .v (.string ⟨#[]⟩), .v (.string ⟨#[]⟩), .v (.string ⟨#[]⟩), .v (.string ⟨#[]⟩), .v (.string ⟨#[]⟩), .v (.string ⟨#[]⟩), .v (.string ⟨#[]⟩), .v (.string ⟨#[]⟩), .v (.string ⟨#[]⟩), .v (.string ⟨#[]⟩), .v (.string ⟨#[]⟩), .v (.string ⟨#[]⟩), .v (.string ⟨#[]⟩), .v (.string ⟨#[]⟩), .v (.string ⟨#[]⟩), .v (.string ⟨#[]⟩), .v (.string ⟨#[]⟩), .v (.string ⟨#[]⟩), .v (.string ⟨#[]⟩), .v (.string ⟨#[]⟩), .v (.string ⟨#[]⟩), .v (.string ⟨#[]⟩), .v (.string ⟨#[]⟩), .v (.string ⟨#[]⟩), .v (.string ⟨#[]⟩), .v (.string ⟨#[]⟩), .v (.string ⟨#[]⟩), .v (.string ⟨#[]⟩), .v (.string ⟨#[]⟩), .v (.string ⟨#[]⟩), .v (.string ⟨#[]⟩), .v (.string ⟨#[]⟩), .v (.string ⟨#[]⟩), .v (.string ⟨#[]⟩), .v (.string ⟨#[]⟩)]) := by kernel_rfl
@[go_sem] theorem tk67 : tk Tryd.prog 67 = .slice 5 1 1 := by kernel_rfl
@[go_sem] theorem ldk67 : ldk Tryd.prog 67 = some (false, 1) := by kernel_rfl
@[go_sem] theorem tz67 : tz Tryd.prog 67 = some [.sl 0 true []] := by kernel_rfl
@[go_sem] theorem tzv67 : tzv Tryd.prog 67 = some (.sl 0 true []) := by kernel_rfl
@[go_sem] theorem tk72 : tk Tryd.prog 72 = .array 256 5 1 false := by kernel_rfl
@[go_sem] theorem ldk72 : ldk Tryd.prog 72 = some (true, 256) := by kernel_rfl
@[go_sem] theorem tk76 : tk Tryd.prog 76 = .pointer 78 := by kernel_rfl
@[go_sem] theorem ldk76 : ldk Tryd.prog 76 = some (false, 1) := by kernel_rfl
@[go_sem] theorem tz76 : tz Tryd.prog 76 = some [.v (.pointer none)] := by kernel_rfl
@[go_sem] theorem tzv76 : tzv Tryd.prog 76 = some (.v (.pointer none)) := by kernel_rfl
@[go_sem] theorem tk77 : tk Tryd.prog 77 = .struct [(0, 1, false), (1, 1, false)] := by kernel_rfl
@[go_sem] theorem ldk77 : ldk Tryd.prog 77 = some (true, 2) := by kernel_rfl
@[go_sem] theorem tz77 : tz Tryd.prog 77 = some [.v (.pointer none), .sl 0 true []] := by kernel_rfl
@[go_sem] theorem tzv77 : tzv Tryd.prog 77 = some (.agg [.v (.pointer none), .sl 0 true []]) := by kernel_rfl
@[go_sem] theorem tk78 : tk Tryd.prog 78 = .struct [(0, 1, false), (1, 1, false)] := by kernel_rfl
@[go_sem] theorem ldk78 : ldk Tryd.prog 78 = some (true, 2) := by kernel_rfl
@[go_sem] theorem tz78 : tz Tryd.prog 78 = some [.v (.pointer none), .sl 0 true []] := by kernel_rfl
@[go_sem] theorem tzv78 : tzv Tryd.prog 78 = some (.agg [.v (.pointer none), .sl 0 true []]) := by kernel_rfl
@[go_sem] theorem tk86 : tk Tryd.prog 86 = .int .i64 := by kernel_rfl
@[go_sem] theorem ldk86 : ldk Tryd.prog 86 = some (false, 1) := by kernel_rfl
@[go_sem] theorem tz86 : tz Tryd.prog 86 = some [.v (.int .i64 0)] := by kernel_rfl
@[go_sem] theorem tzv86 : tzv Tryd.prog 86 = some (.v (.int .i64 0)) := by kernel_rfl
@[go_sem] theorem tk87 : tk Tryd.prog 87 = .int .u64 := by kernel_rfl
@[go_sem] theorem ldk87 : ldk Tryd.prog 87 = some (false, 1) := by kernel_rfl
@[go_sem] theorem tz87 : tz Tryd.prog 87 = some [.v (.int .u64 0)] := by kernel_rfl
@[go_sem] theorem tzv87 : tzv Tryd.prog 87 = some (.v (.int .u64 0)) := by kernel_rfl
@[go_sem] theorem tk90 : tk Tryd.prog 90 = .int .u64 := by kernel_rfl
@[go_sem] theorem ldk90 : ldk Tryd.prog 90 = some (false, 1) := by kernel_rfl
@[go_sem] theorem tz90 : tz Tryd.prog 90 = some [.v (.int .u64 0)] := by kernel_rfl
@[go_sem] theorem tzv90 : tzv Tryd.prog 90 = some (.v (.int .u64 0)) := by kernel_rfl
@[go_sem] theorem tk91 : tk Tryd.prog 91 = .pointer 113 := by kernel_rfl
@[go_sem] theorem ldk91 : ldk Tryd.prog 91 = some (false, 1) := by kernel_rfl
@[go_sem] theorem tz91 : tz Tryd.prog 91 = some [.v (.pointer none)] := by kernel_rfl
@[go_sem] theorem tzv91 : tzv Tryd.prog 91 = some (.v (.pointer none)) := by kernel_rfl
@[go_sem] theorem tk94 : tk Tryd.prog 94 = .array 24 5 1 false := by kernel_rfl
@[go_sem] theorem ldk94 : ldk Tryd.prog 94 = some (true, 24) := by kernel_rfl
@[go_sem] theorem eqTy94 : eqTy Tryd.prog 94 = some [.int, .int, .int, .int, .int, .int, .int, .int, .int, .int, .int, .int, .int, .int, .int, .int, .int, .int, .int, .int, .int, .int, .int, .int] := by kernel_rfl
@[go_sem] theorem tz94 : tz Tryd.prog 94 = some [.v (.int .u8 0), .v (.int .u8 0), .v (.int .u8 0), .v (.int .u8 0), .v (.int .u8 0), .v (.int .u8 0), .v (.int .u8 0), .v (.int .u8 0), .v (.int .u8 0), .v (.int .u8 0), .v (.int .u8 0), .v (.int .u8 0), .v (.int .u8 0), .v (.int .u8 0), .v (.int .u8 0), .v (.int .u8 0), .v (.int .u8 0), .v (.int .u8 0), .v (.int .u8 0), .v (.int .u8 0), .v (.int .u8 0), .v (.int .u8 0), .v (.int .u8 0), .v (.int .u8 0)] := by kernel_rfl
@[go_sem] theorem tzv94 : tzv Tryd.prog 94 = some (.agg [.v (.int .u8 0), .v (.int .u8 0), .v (.int .u8 0), .v (.int .u8 0), .v (.int .u8 0), .v (.int .u8 0), .v (.int .u8 0), .v (.int .u8 0), .v (.int .u8 0), .v (.int .u8 0), .v (.int .u8 0), .v (.int .u8 0), .v (.int .u8 0), .v (.int .u8 0), .v (.int .u8 0), .v (.int .u8 0), .v (.int .u8 0), .v (.int .u8 0), .v (.int .u8 0), .v (.int .u8 0), .v (.int .u8 0), .v (.int .u8 0), .v (.int .u8 0), .v (.int .u8 0)]) := by kernel_rfl
@[go_sem] theorem tk99 : tk Tryd.prog 99 = .slice 101 2 16 := by kernel_rfl
@[go_sem] theorem ldk99 : ldk Tryd.prog 99 = some (false, 1) := by kernel_rfl
@[go_sem] theorem tz99 : tz Tryd.prog 99 = some [.sl 0 true []] := by kernel_rfl
@[go_sem] theorem tzv99 : tzv Tryd.prog 99 = some (.sl 0 true []) := by kernel_rfl
@[go_sem] theorem tk100 : tk Tryd.prog 100 = .struct [(0, 1, false), (1, 1, false)] := by kernel_rfl
@[go_sem] theorem ldk100 : ldk Tryd.prog 100 = some (true, 2) := by kernel_rfl
@[go_sem] theorem eqTy100 : eqTy Tryd.prog 100 = some [.int, .int] := by kernel_rfl
@[go_sem] theorem tz100 : tz Tryd.prog 100 = some [.v (.int .i64 0), .v (.int .i64 0)] := by kernel_rfl
@[go_sem] theorem tzv100 : tzv Tryd.prog 100 = some (.agg [.v (.int .i64 0), .v (.int .i64 0)]) := by kernel_rfl
@[go_sem] theorem tk101 : tk Tryd.prog 101 = .struct [(0, 1, false), (1, 1, false)] := by kernel_rfl
@[go_sem] theorem ldk101 : ldk Tryd.prog 101 = some (true, 2) := by kernel_rfl
@[go_sem] theorem eqTy101 : eqTy Tryd.prog 101 = some [.int, .int] := by kernel_rfl
@[go_sem] theorem tz101 : tz Tryd.prog 101 = some [.v (.int .i64 0), .v (.int .i64 0)] := by kernel_rfl
@[go_sem] theorem tzv101 : tzv Tryd.prog 101 = some (.agg [.v (.int .i64 0), .v (.int .i64 0)]) := by kernel_rfl
@[go_sem] theorem tk102 : tk Tryd.prog 102 = .int .u32 := by kernel_rfl
@[go_sem] theorem ldk102 : ldk Tryd.prog 102 = some (false, 1) := by kernel_rfl
@[go_sem] theorem tz102 : tz Tryd.prog 102 = some [.v (.int .u32 0)] := by kernel_rfl
@[go_sem] theorem tzv102 : tzv Tryd.prog 102 = some (.v (.int .u32 0)) := by kernel_rfl
@[go_sem] theorem tk104 : tk Tryd.prog 104 = .pointer 123 := by kernel_rfl
@[go_sem] theorem ldk104 : ldk Tryd.prog 104 = some (false, 1) := by kernel_rfl
@[go_sem] theorem tz104 : tz Tryd.prog 104 = some [.v (.pointer none)] := by kernel_rfl
@[go_sem] theorem tzv104 : tzv Tryd.prog 104 = some (.v (.pointer none)) := by kernel_rfl
@[go_sem] theorem tk105 : tk Tryd.prog 105 = .pointer 5 := by kernel_rfl
@[go_sem] theorem ldk105 : ldk Tryd.prog 105 = some (false, 1) := by kernel_rfl
@[go_sem] theorem tz105 : tz Tryd.prog 105 = some [.v (.pointer none)] := by kernel_rfl
@[go_sem] theorem tzv105 : tzv Tryd.prog 105 = some (.v (.pointer none)) := by kernel_rfl
@[go_sem] theorem tk112 : tk Tryd.prog 112 = .struct [(0, 1, false), (1, 1, false), (2, 1, false)] := by kernel_rfl
@[go_sem] theorem ldk112 : ldk Tryd.prog 112 = some (true, 3) := by kernel_rfl
@[go_sem] theorem tz112 : tz Tryd.prog 112 = some [.v (.string ⟨#[]⟩), .v (.string ⟨#[]⟩), .v .nilIface] := by kernel_rfl
@[go_sem] theorem tzv112 : tzv Tryd.prog 112 = some (.agg [.v (.string ⟨#[]⟩), .v (.string ⟨#[]⟩), .v .nilIface]) := by kernel_rfl
@[go_sem] theorem tk113 : tk Tryd.prog 113 = .struct [(0, 1, false), (1, 1, false), (2, 1, false)] := by kernel_rfl
@[go_sem] theorem ldk113 : ldk Tryd.prog 113 = some (true, 3) := by kernel_rfl
@[go_sem] theorem tz113 : tz Tryd.prog 113 = some [.v (.string ⟨#[]⟩), .v (.string ⟨#[]⟩), .v .nilIface] := by kernel_rfl
@[go_sem] theorem tzv113 : tzv Tryd.prog 113 = some (.agg [.v (.string ⟨#[]⟩), .v (.string ⟨#[]⟩), .v .nilIface]) := by kernel_rfl
@[go_sem] theorem tk116 : tk Tryd.prog 116 = .array 20 87 1 false := by kernel_rfl
@[go_sem] theorem ldk116 : ldk Tryd.prog 116 = some (true, 20) := by kernel_rfl
@[go_sem] theorem eqTy116 : eqTy Tryd.prog 116 = some [.int, .int, .int, .int, .int, .int, .int, .int, .int, .int, .int, .int, .int, .int, .int, .int, .int, .int, .int, .int] := by kernel_rfl
@[go_sem] theorem tz116 : tz Tryd.prog 116 = some [.v (.int .u64 0), .v (.int .u64 0), .v (.int .u64 0), .v (.int .u64 0), .v (.int .u64 0), .v (.int .u64 0), .v (.int .u64 0), .v (.int .u64 0), .v (.int .u64 0), .v (.int .u64 0), .v (.int .u64 0), .v (.int .u64 0), .v (.int .u64 0), .v (.int .u64 0), .v (.int .u64 0), .v (.int .u64 0), .v (.int .u64 0), .v (.int .u64 0), .v (.int .u64 0), .v (.int .u64 0)] := by kernel_rfl
@[go_sem] theorem tzv116 : tzv Tryd.prog 116 = some (.agg [.v (.int .u64 0), .v (.int .u64 0), .v (.int .u64 0), .v (.int .u64 0), .v (.int .u64 0), .v (.int .u64 0), .v (.int .u64 0), .v (.int .u64 0), .v (.int .u64 0), .v (.int .u64 0), .v (.int .u64 0), .v (.int .u64 0), .v (.int .u64 0), .v (.int .u64 0), .v (.int .u64 0), .v (.int .u64 0), .v (.int .u64 0), .v (.int .u64 0), .v (.int .u64 0), .v (.int .u64 0)]) := by kernel_rfl
@[go_sem] theorem tk117 : tk Tryd.prog 117 = .array 65 5 1 false := by kernel_rfl
@[go_sem] theorem ldk117 : ldk Tryd.prog 117 = some (true, 65) := by kernel_rfl
@[go_sem] theorem tk120 : tk Tryd.prog 120 = .slice 126 3 6 := by kernel_rfl
@[go_sem] theorem ldk120 : ldk Tryd.prog 120 = some (false, 1) := by kernel_rfl
@[go_sem] theorem tz120 : tz Tryd.prog 120 = some [.sl 0 true []] := by kernel_rfl
@[go_sem] theorem tzv120 : tzv Tryd.prog 120 = some (.sl 0 true []) := by kernel_rfl
@[go_sem] theorem tk121 : tk Tryd.prog 121 = .slice 129 3 12 := by kernel_rfl
@[go_sem] theorem ldk121 : ldk Tryd.prog 121 = some (false, 1) := by kernel_rfl
@[go_sem] theorem tz121 : tz Tryd.prog 121 = some [.sl 0 true []] := by kernel_rfl
@[go_sem] theorem tzv121 : tzv Tryd.prog 121 = some (.sl 0 true []) := by kernel_rfl
@[go_sem] theorem tk122 : tk Tryd.prog 122 = .struct [(0, 1, false), (1, 1, false), (2, 1, false)] := by kernel_rfl
@[go_sem] theorem ldk122 : ldk Tryd.prog 122 = some (true, 3) := by kernel_rfl
@[go_sem] theorem tz122 : tz Tryd.prog 122 = some [.sl 0 true [], .sl 0 true [], .v (.int .i64 0)] := by kernel_rfl
@[go_sem] theorem tzv122 : tzv Tryd.prog 122 = some (.agg [.sl 0 true [], .sl 0 true [], .v (.int .i64 0)]) := by kernel_rfl
@[go_sem] theorem tk123 : tk Tryd.prog 123 = .struct [(0, 1, false), (1, 1, false), (2, 1, false)] := by kernel_rfl
@[go_sem] theorem ldk123 : ldk Tryd.prog 123 = some (true, 3) := by kernel_rfl
@[go_sem] theorem tz123 : tz Tryd.prog 123 = some [.sl 0 true [], .sl 0 true [], .v (.int .i64 0)] := by kernel_rfl
@[go_sem] theorem tzv123 : tzv Tryd.prog 123 = some (.agg [.sl 0 true [], .sl 0 true [], .v (.int .i64 0)]) := by kernel_rfl
@[go_sem] theorem tk124 : tk Tryd.prog 124 = .int .u16 := by kernel_rfl
@[go_sem] theorem ldk124 : ldk Tryd.prog 124 = some (false, 1) := by kernel_rfl
@[go_sem] theorem tz124 : tz Tryd.prog 124 = some [.v (.int .u16 0)] := by kernel_rfl
@[go_sem] theorem tzv124 : tzv Tryd.prog 124 = some (.v (.int .u16 0)) := by kernel_rfl
@[go_sem] theorem tk125 : tk Tryd.prog 125 = .struct [(0, 1, false), (1, 1, false), (2, 1, false)] := by kernel_rfl
@[go_sem] theorem ldk125 : ldk Tryd.prog 125 = some (true, 3) := by kernel_rfl
@[go_sem] theorem eqTy125 : eqTy Tryd.prog 125 = some [.int, .int, .int] := by kernel_rfl
@[go_sem] theorem tz125 : tz Tryd.prog 125 = some [.v (.int .u16 0), .v (.int .u16 0), .v (.int .u16 0)] := by kernel_rfl
@[go_sem] theorem tzv125 : tzv Tryd.prog 125 = some (.agg [.v (.int .u16 0), .v (.int .u16 0), .v (.int .u16 0)]) := by kernel_rfl
@[go_sem] theorem tk126 : tk Tryd.prog 126 = .struct [(0, 1, false), (1, 1, false), (2, 1, false)] := by kernel_rfl
@[go_sem] theorem ldk126 : ldk Tryd.prog 126 = some (true, 3) := by kernel_rfl
@[go_sem] theorem eqTy126 : eqTy Tryd.prog 126 = some [.int, .int, .int] := by kernel_rfl
@[go_sem] theorem tz126 : tz Tryd.prog 126 = some [.v (.int .u16 0), .v (.int .u16 0), .v (.int .u16 0)] := by kernel_rfl
@[go_sem] theorem tzv126 : tzv Tryd.prog 126 = some (.agg [.v (.int .u16 0), .v (.int .u16 0), .v (.int .u16 0)]) := by kernel_rfl
@[go_sem] theorem tk128 : tk Tryd.prog 128 = .struct [(0, 1, false), (1, 1, false), (2, 1, false)] := by kernel_rfl
@[go_sem] theorem ldk128 : ldk Tryd.prog 128 = some (true, 3) := by kernel_rfl
@[go_sem] theorem eqTy128 : eqTy Tryd.prog 128 = some [.int, .int, .int] := by kernel_rfl
@[go_sem] theorem tz128 : tz Tryd.prog 128 = some [.v (.int .u32 0), .v (.int .u32 0), .v (.int .u32 0)] := by kernel_rfl
@[go_sem] theorem tzv128 : tzv Tryd.prog 128 = some (.agg [.v (.int .u32 0), .v (.int .u32 0), .v (.int .u32 0)]) := by kernel_rfl
@[go_sem] theorem tk129 : tk Tryd.prog 129 = .struct [(0, 1, false), (1, 1, false), (2, 1, false)] := by kernel_rfl
@[go_sem] theorem ldk129 : ldk Tryd.prog 129 = some (true, 3) := by kernel_rfl
@[go_sem] theorem eqTy129 : eqTy Tryd.prog 129 = some [.int, .int, .int] := by kernel_rfl
@[go_sem] theorem tz129 : tz Tryd.prog 129 = some [.v (.int .u32 0), .v (.int .u32 0), .v (.int .u32 0)] := by kernel_rfl
@[go_sem] theorem tzv129 : tzv Tryd.prog 129 = some (.agg [.v (.int .u32 0), .v (.int .u32 0), .v (.int .u32 0)]) := by kernel_rfl
@[go_sem] theorem tk131 : tk Tryd.prog 131 = .other := by kernel_rfl
@[go_sem] theorem ldk131 : ldk Tryd.prog 131 = some (false, 1) := by kernel_rfl
@[go_sem] theorem tz131 : tz Tryd.prog 131 = some [.v (.pointer none)] := by kernel_rfl
@[go_sem] theorem tzv131 : tzv Tryd.prog 131 = some (.v (.pointer none)) := by kernel_rfl
@[go_sem] theorem tk137 : tk Tryd.prog 137 = .pointer 139 := by kernel_rfl
@[go_sem] theorem ldk137 : ldk Tryd.prog 137 = some (false, 1) := by kernel_rfl
@[go_sem] theorem tz137 : tz Tryd.prog 137 = some [.v (.pointer none)] := by kernel_rfl
@[go_sem] theorem tzv137 : tzv Tryd.prog 137 = some (.v (.pointer none)) := by kernel_rfl
@[go_sem] theorem tk138 : tk Tryd.prog 138 = .struct [(0, 1, false)] := by kernel_rfl
@[go_sem] theorem ldk138 : ldk Tryd.prog 138 = some (true, 1) := by kernel_rfl
@[go_sem] theorem eqTy138 : eqTy Tryd.prog 138 = some [.string] := by kernel_rfl
@[go_sem] theorem tz138 : tz Tryd.prog 138 = some [.v (.string ⟨#[]⟩)] := by kernel_rfl
@[go_sem] theorem tzv138 : tzv Tryd.prog 138 = some (.agg [.v (.string ⟨#[]⟩)]) := by kernel_rfl
@[go_sem] theorem tk139 : tk Tryd.prog 139 = .struct [(0, 1, false)] := by kernel_rfl
@[go_sem] theorem ldk139 : ldk Tryd.prog 139 = some (true, 1) := by kernel_rfl
@[go_sem] theorem eqTy139 : eqTy Tryd.prog 139 = some [.string] := by kernel_rfl
@[go_sem] theorem tz139 : tz Tryd.prog 139 = some [.v (.string ⟨#[]⟩)] := by kernel_rfl
@[go_sem] theorem tzv139 : tzv Tryd.prog 139 = some (.agg [.v (.string ⟨#[]⟩)]) := by kernel_rfl
@[go_sem] theorem tk141 : tk Tryd.prog 141 = .pointer 126 := by kernel_rfl
@[go_sem] theorem ldk141 : ldk Tryd.prog 141 = some (false, 1) := by kernel_rfl
@[go_sem] theorem tz141 : tz Tryd.prog 141 = some [.v (.pointer none)] := by kernel_rfl
@[go_sem] theorem tzv141 : tzv Tryd.prog 141 = some (.v (.pointer none)) := by kernel_rfl
@[go_sem] theorem tk142 : tk Tryd.prog 142 = .pointer 129 := by kernel_rfl
@[go_sem] theorem ldk142 : ldk Tryd.prog 142 = some (false, 1) := by kernel_rfl
@[go_sem] theorem tz142 : tz Tryd.prog 142 = some [.v (.pointer none)] := by kernel_rfl
@[go_sem] theorem tzv142 : tzv Tryd.prog 142 = some (.v (.pointer none)) := by kernel_rfl
@[go_sem] theorem tk145 : tk Tryd.prog 145 = .array 32 5 1 false := by kernel_rfl
@[go_sem] theorem ldk145 : ldk Tryd.prog 145 = some (true, 32) := by kernel_rfl
@[go_sem] theorem eqTy145 : eqTy Tryd.prog 145 = some [.int, .int, .int, .int, .int, .int, .int, .int, .int, .int, .int, .int, .int, .int, .int, .int, .int, .int, .int, .int, .int, .int, .int, .int, .int, .int, .int, .int, .int, .int, .int, .int] := by kernel_rfl
@[go_sem] theorem tz145 : tz Tryd.prog 145 = some [.v (.int .u8 0), .v (.int .u8 0), .v (.int .u8 0), .v (.int .u8 0), .v (.int .u8 0), .v (.int .u8 0), .v (.int .u8 0), .v (.int .u8 0), .v (.int .u8 0), .v (.int .u8 0), .v (.int .u8 0), .v (.int .u8 0), .v (.int .u8 0), .v (.int .u8 0), .v (.int .u8 0), .v (.int .u8 0), .v (.int .u8 0), .v (.int .u8 0), .v (.int .u8 0), .v (.int .u8 0), .v (.int .u8 0), .v (.int .u8 0), .v (.int .u8 0), .v (.int .u8 0), .v (.int .u8 0), .v (.int .u8 0), .v (.int .u8 0), .v (.int .u8 0), .v (.int .u8 0), .v (.int .u8 0), .v (.int .u8 0), .v (.int .u8 0)] := by kernel_rfl
@[go_sem] theorem tzv145 : tzv Tryd.prog 145 = some (.agg [.v (.int .u8 0), .v (.int .u8 0), .v (.int .u8 0), .v (.int .u8 0), .v (.int .u8 0), .v (.int .u8 0), .v (.int .u8 0), .v (.int .u8 0), .v (.int .u8 0), .v (.int .u8 0), .v (.int .u8 0), .v (.int .u8 0), .v (.int .u8 0), .v (.int .u8 0), .v (.int .u8 0), .v (.int .u8 0), .v (.int .u8 0), .v (.int .u8 0), .v (.int .u8 0), .v (.int .u8 0), .v (.int .u8 0), .v (.int .u8 0), .v (.int .u8 0), .v (.int .u8 0), .v (.int .u8 0), .v (.int .u8 0), .v (.int .u8 0), .v (.int .u8 0), .v (.int .u8 0), .v (.int .u8 0), .v (.int .u8 0), .v (.int .u8 0)]) := by kernel_rfl
@[go_sem] theorem tk146 : tk Tryd.prog 146 = .array 64 5 1 false := by kernel_rfl
@[go_sem] theorem ldk146 : ldk Tryd.prog 146 = some (true, 64) := by kernel_rfl
@[go_sem] theorem eqTy146 : eqTy Tryd.prog 146 = some [.int, .int, .int, .int, .int, .int, .int, .int, .int, .int, .int, .int, .int, .int, .int, .int, .int, .int, .int, .int, .int, .int, .int, .int, .int, .int, .int, .int, .int, .int, .int, .int, .int, .int, .int, .int, .int, .int, .int, .int, .int, .int, .int, .int, .int, .int, .int, .int, .int, .int, .int, .int, .int, .int, .int, .int, .int, .int, .int, .int, .int, .int, .int, .int] := by kernel_rfl
@[go_sem] theorem tz146 : tz Tryd.prog 146 = some [.v (.int .u8 0), .v (.int .u8 0), .v (.int .u8 0), .v (.int .u8 0), .v (.int .u8 0), .v (.int .u8 0), .v (.int .u8 0), .v (.int .u8 0), .v (.int .u8 0), .v (.int .u8 0), .v (.int .u8 0), .v (.int .u8 0), .v (.int .u8 0), .v (.int .u8 0), .v (.int .u8 0), .v (.int .u8 0), .v (.int .u8 0), .v (.int .u8 0), .v (.int .u8 0), .v (.int .u8 0), .v (.int .u8 0), .v (.int .u8 0), .v (.int .u8 0), .v (.int .u8 0), .v (.int .u8 0), .v (.int .u8 0), .v (.int .u8 0), .v (.int .u8 0), .v (.int .u8 0), .v (.int .u8 0), .v (.int .u8 0), .v (.int .u8 0), .v (.int .u8 0), .v (.int .u8 0), .v (.int .u8 0), .v (.int .u8 0), .v (.int .u8 0), .v (.int .u8 0), .v (.int .u8 0), .v (.int .u8 0), .v (.int .u8 0), .v (.int .u8 0), .v (.int .u8 0), .v (.int .u8 0), .v (.int .u8 0), .v (.int .u8 0), .v (.int .u8 0), .v (.int .u8 0), .v (.int .u8 0), .v (.int .u8 0), .v (.int .u8 0), .v (.int .u8 0), .v (.int .u8 0), .v (.int .u8 0), .v (.int .u8 0), .v (.int .u8 0), .v (.int .u8 0), .v (.int .u8 0), .v (.int .u8 0), .v (.int .u8 0), .v (.int .u8 0), .v (.int .u8 0), .v (.int .u8 0), .v (.int .u8 0)] := by kernel_rfl
@[go_sem] theorem tzv146 : tzv Tryd.prog 146 = some (.agg [.v (.int .u8 0), .v (.int .u8 0), .v (.int .u8 0), .v (.int .u8 0), .v (.int .u8 0), .v (.int .u8 0), .v (.int .u8 0), .v (.int .u8 0), .v (.int .u8 0), .v (.int .u8 0), .v (.int .u8 0), .v (.int .u8 0), .v (.int .u8 0), .v (.int .u8 0), .v (.int .u8 0), .v (.int .u8 0), .v (.int .u8 0), .v (.int .u8 0), .v (.int .u8 0), .v (.int .u8 0), .v (.int .u8 0), .v (.int .u8 0), .v (.int .u8 0), .v (.int .u8 0), .v (.int .u8 0), .v (.int .u8 0), .v (.int .u8 0), .v (.int .u8 0), .v (.int .u8 0), .v (.int .u8 0), .v (.int .u8 0), .v (.int .u8 0), .v (.int .u8 0), .v (.int .u8 0), .v (.int .u8 0), .v (.int .u8 0), .v (.int .u8 0), .v (.int .u8 0), .v (.int .u8 0), .v (.int .u8 0), .v (.int .u8 0), .v (.int .u8 0), .v (.int .u8 0), .v (.int .u8 0), .v (.int .u8 0), .v (.int .u8 0), .v (.int .u8 0), .v (.int .u8 0), .v (.int .u8 0), .v (.int .u8 0), .v (.int .u8 0), .v (.int .u8 0), .v (.int .u8 0), .v (.int .u8 0), .v (.int .u8 0), .v (.int .u8 0), .v (.int .u8 0), .v (.int .u8 0), .v (.int .u8 0), .v (.int .u8 0), .v (.int .u8 0), .v (.int .u8 0), .v (.int .u8 0), .v (.int .u8 0)]) := by kernel_rfl
@[go_sem] theorem tk147 : tk Tryd.prog 147 = .struct [(0, 1, false), (1, 1, false)] := by kernel_rfl
@[go_sem] theorem ldk147 : ldk Tryd.prog 147 = some (true, 2) := by kernel_rfl
@[go_sem] theorem eqTy147 : eqTy Tryd.prog 147 = some [.int, .int] := by kernel_rfl
@[go_sem] theorem tz147 : tz Tryd.prog 147 = some [.v (.int .u8 0), .v (.int .u8 0)] := by kernel_rfl
@[go_sem] theorem tzv147 : tzv Tryd.prog 147 = some (.agg [.v (.int .u8 0), .v (.int .u8 0)]) := by kernel_rfl
@[go_sem] theorem tk148 : tk Tryd.prog 148 = .struct [(0, 1, false), (1, 1, false)] := by kernel_rfl
@[go_sem] theorem ldk148 : ldk Tryd.prog 148 = some (true, 2) := by kernel_rfl
@[go_sem] theorem eqTy148 : eqTy Tryd.prog 148 = some [.int, .int] := by kernel_rfl
@[go_sem] theorem tz148 : tz Tryd.prog 148 = some [.v (.int .u8 0), .v (.int .u8 0)] := by kernel_rfl
@[go_sem] theorem tzv148 : tzv Tryd.prog 148 = some (.agg [.v (.int .u8 0), .v (.int .u8 0)]) := by kernel_rfl
@[go_sem] theorem tk149 : tk Tryd.prog 149 = .array 16 148 2 true := by kernel_rfl
@[go_sem] theorem ldk149 : ldk Tryd.prog 149 = some (true, 32) := by kernel_rfl
@[go_sem] theorem eqTy149 : eqTy Tryd.prog 149 = some [.int, .int, .int, .int, .int, .int, .int, .int, .int, .int, .int, .int, .int, .int, .int, .int, .int, .int, .int, .int, .int, .int, .int, .int, .int, .int, .int, .int, .int, .int, .int, .int] := by kernel_rfl
@[go_sem] theorem tz149 : tz Tryd.prog 149 = some [.v (.int .u8 0), .v (.int .u8 0), .v (.int .u8 0), .v (.int .u8 0), .v (.int .u8 0), .v (.int .u8 0), .v (.int .u8 0), .v (.int .u8 0), .v (.int .u8 0), .v (.int .u8 0), .v (.int .u8 0), .v (.int .u8 0), .v (.int .u8 0), .v (.int .u8 0), .v (.int .u8 0), .v (.int .u8 0), .v (.int .u8 0), .v (.int .u8 0), .v (.int .u8 0), .v (.int .u8 0), .v (.int .u8 0), .v (.int .u8 0), .v (.int .u8 0), .v (.int .u8 0), .v (.int .u8 0), .v (.int .u8 0), .v (.int .u8 0), .v (.int .u8 0), .v (.int .u8 0), .v (.int .u8 0), .v (.int .u8 0), .v (.int .u8 0)] := by kernel_rfl
@[go_sem] theorem tzv149 : tzv Tryd.prog 149 = some (.agg [.v (.int .u8 0), .v (.int .u8 0), .v (.int .u8 0), .v (.int .u8 0), .v (.int .u8 0), .v (.int .u8 0), .v (.int .u8 0), .v (.int .u8 0), .v (.int .u8 0), .v (.int .u8 0), .v (.int .u8 0), .v (.int .u8 0), .v (.int .u8 0), .v (.int .u8 0), .v (.int .u8 0), .v (.int .u8 0), .v (.int .u8 0), .v (.int .u8 0), .v (.int .u8 0), .v (.int .u8 0), .v (.int .u8 0), .v (.int .u8 0), .v (.int .u8 0), .v (.int .u8 0), .v (.int .u8 0), .v (.int .u8 0), .v (.int .u8 0), .v (.int .u8 0), .v (.int .u8 0), .v (.int .u8 0), .v (.int .u8 0), .v (.int .u8 0)]) := by kernel_rfl
@[go_sem] theorem tk150 : tk Tryd.prog 150 = .struct [(0, 1, false), (1, 1, false), (2, 1, false), (3, 1, false)] := by kernel_rfl
@[go_sem] theorem ldk150 : ldk Tryd.prog 150 = some (true, 4) := by kernel_rfl
@[go_sem] theorem tz150 : tz Tryd.prog 150 = some [.v (.pointer none), .v (.pointer none), .v (.pointer none), .v (.string ⟨#[]⟩)] := by kernel_rfl
@[go_sem] theorem tzv150 : tzv Tryd.prog 150 = some (.agg [.v (.pointer none), .v (.pointer none), .v (.pointer none), .v (.string ⟨#[]⟩)]) := by kernel_rfl
@[go_sem] theorem tk151 : tk Tryd.prog 151 = .struct [(0, 1, false), (1, 1, false), (2, 1, false), (3, 1, false)] := by kernel_rfl
@[go_sem] theorem ldk151 : ldk Tryd.prog 151 = some (true, 4) := by kernel_rfl
@[go_sem] theorem tz151 : tz Tryd.prog 151 = some [.v (.pointer none), .v (.pointer none), .v (.pointer none), .v (.string ⟨#[]⟩)] := by kernel_rfl
@[go_sem] theorem tzv151 : tzv Tryd.prog 151 = some (.agg [.v (.pointer none), .v (.pointer none), .v (.pointer none), .v (.string ⟨#[]⟩)]) := by kernel_rfl
@[go_sem] theorem tk152 : tk Tryd.prog 152 = .array 0 16 1 false := by kernel_rfl
@[go_sem] theorem ldk152 : ldk Tryd.prog 152 = some (true, 0) := by kernel_rfl
@[go_sem] theorem tz152 : tz Tryd.prog 152 = some [] := by kernel_rfl
@[go_sem] theorem tzv152 : tzv Tryd.prog 152 = some (.agg []) := by kernel_rfl
@[go_sem] theorem tk153 : tk Tryd.prog 153 = .struct [(0, 0, true)] := by kernel_rfl
@[go_sem] theorem ldk153 : ldk Tryd.prog 153 = some (true, 0) := by kernel_rfl
@[go_sem] theorem tz153 : tz Tryd.prog 153 = some [] := by kernel_rfl
@[go_sem] theorem tzv153 : tzv Tryd.prog 153 = some (.agg []) := by kernel_rfl
@[go_sem] theorem tk154 : tk Tryd.prog 154 = .struct [(0, 0, true)] := by kernel_rfl
@[go_sem] theorem ldk154 : ldk Tryd.prog 154 = some (true, 0) := by kernel_rfl
@[go_sem] theorem tz154 : tz Tryd.prog 154 = some [] := by kernel_rfl
@[go_sem] theorem tzv154 : tzv Tryd.prog 154 = some (.agg []) := by kernel_rfl
@[go_sem] theorem tk156 : tk Tryd.prog 156 = .int .u8 := by kernel_rfl
@[go_sem] theorem ldk156 : ldk Tryd.prog 156 = some (false, 1) := by kernel_rfl
@[go_sem] theorem tz156 : tz Tryd.prog 156 = some [.v (.int .u8 0)] := by kernel_rfl
@[go_sem] theorem tzv156 : tzv Tryd.prog 156 = some (.v (.int .u8 0)) := by kernel_rfl
@[go_sem] theorem tk157 : tk Tryd.prog 157 = .int .u8 := by kernel_rfl
@[go_sem] theorem ldk157 : ldk Tryd.prog 157 = some (false, 1) := by kernel_rfl
@[go_sem] theorem tz157 : tz Tryd.prog 157 = some [.v (.int .u8 0)] := by kernel_rfl
@[go_sem] theorem tzv157 : tzv Tryd.prog 157 = some (.v (.int .u8 0)) := by kernel_rfl
@[go_sem] theorem tk159 : tk Tryd.prog 159 = .int .i32 := by kernel_rfl
@[go_sem] theorem ldk159 : ldk Tryd.prog 159 = some (false, 1) := by kernel_rfl
@[go_sem] theorem tz159 : tz Tryd.prog 159 = some [.v (.int .i32 0)] := by kernel_rfl
@[go_sem] theorem tzv159 : tzv Tryd.prog 159 = some (.v (.int .i32 0)) := by kernel_rfl
@[go_sem] theorem tk160 : tk Tryd.prog 160 = .int .i32 := by kernel_rfl
@[go_sem] theorem ldk160 : ldk Tryd.prog 160 = some (false, 1) := by kernel_rfl
@[go_sem] theorem tz160 : tz Tryd.prog 160 = some [.v (.int .i32 0)] := by kernel_rfl
@[go_sem] theorem tzv160 : tzv Tryd.prog 160 = some (.v (.int .i32 0)) := by kernel_rfl
@[go_sem] theorem tk161 : tk Tryd.prog 161 = .struct [(0, 1, false), (1, 1, false), (2, 1, false), (3, 1, false), (4, 1, false), (5, 1, false), (6, 1, false), (7, 1, false), (8, 1, false), (9, 1, false), (10, 1, false)] := by kernel_rfl
@[go_sem] theorem ldk161 : ldk Tryd.prog 161 = some (true, 11) := by kernel_rfl
@[go_sem] theorem tz161 : tz Tryd.prog 161 = some [.v (.int .u64 0), .v (.int .u64 0), .v (.int .u32 0), .v (.int .u8 0), .v (.int .u8 0), .v (.int .u8 0), .v (.int .u8 0), .v .nilFunc, .v (.pointer none), .v (.int .i32 0), .v (.int .i32 0)] := by kernel_rfl
@[go_sem] theorem tzv161 : tzv Tryd.prog 161 = some (.agg [.v (.int .u64 0), .v (.int .u64 0), .v (.int .u32 0), .v (.int .u8 0), .v (.int .u8 0), .v (.int .u8 0), .v (.int .u8 0), .v .nilFunc, .v (.pointer none), .v (.int .i32 0), .v (.int .i32 0)]) := by kernel_rfl
@[go_sem] theorem tk162 : tk Tryd.prog 162 = .struct [(0, 1, false), (1, 1, false), (2, 1, false), (3, 1, false), (4, 1, false), (5, 1, false), (6, 1, false), (7, 1, false), (8, 1, false), (9, 1, false), (10, 1, false)] := by kernel_rfl
@[go_sem] theorem ldk162 : ldk Tryd.prog 162 = some (true, 11) := by kernel_rfl
@[go_sem] theorem tz162 : tz Tryd.prog 162 = some [.v (.int .u64 0), .v (.int .u64 0), .v (.int .u32 0), .v (.int .u8 0), .v (.int .u8 0), .v (.int .u8 0), .v (.int .u8 0), .v .nilFunc, .v (.pointer none), .v (.int .i32 0), .v (.int .i32 0)] := by kernel_rfl
@[go_sem] theorem tzv162 : tzv Tryd.prog 162 = some (.agg [.v (.int .u64 0), .v (.int .u64 0), .v (.int .u32 0), .v (.int .u8 0), .v (.int .u8 0), .v (.int .u8 0), .v (.int .u8 0), .v .nilFunc, .v (.pointer none), .v (.int .i32 0), .v (.int .i32 0)]) := by kernel_rfl
end Go.Ab.Ty
