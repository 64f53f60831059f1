/- YtpikidekdeglcaaTy: part of the proof; written by a program of mine. -/
import Derived.Test.YtpikidekdeglcaaAb32
import Derived.Test.YtpikidekdeglcaaChecked
set_option linter.all false
namespace Go.Ab.Try
open Go Go.Proofs
noncomputable section
theorem mixed : Try.prog.follows .mixedOrders = true := Checked.mixed Try.checked
theorem ti1 : tiOf Try.prog 1 = some { size := 1, bytes := 8, zero := [.one .nilFunc], k := .func } := by kernel_rfl
theorem ti2 : tiOf Try.prog 2 = some { size := 1, bytes := 8, zero := [.one (.int .i64 0)], k := .int .i64 } := by kernel_rfl
theorem ti3 : tiOf Try.prog 3 = some { size := 1, bytes := 8, zero := [.one (.int .i64 0)], k := .int .i64 } := by kernel_rfl
theorem ti4 : tiOf Try.prog 4 = some { size := 1, bytes := 1, zero := [.one (.bool false)], k := .bool } := by kernel_rfl
theorem ti5 : tiOf Try.prog 5 = some { size := 1, bytes := 1, zero := [.one (.int .u8 0)], k := .int .u8 } := by kernel_rfl
theorem ti6 : tiOf Try.prog 6 = some { size := 1, bytes := 1, zero := [.one (.int .u8 0)], k := .int .u8 } := by kernel_rfl
theorem ti7 : tiOf Try.prog 7 = some { size := 4, bytes := 24, zero := [.one (.int .i64 0), .one (.int .i64 0), .one (.bool false), .one (.int .u8 0)], k := .struct [(0, 2), (1, 3), (2, 4), (3, 6)] } := by kernel_rfl
theorem ti8 : tiOf Try.prog 8 = some { size := 4, bytes := 24, zero := [.one (.int .i64 0), .one (.int .i64 0), .one (.bool false), .one (.int .u8 0)], k := .struct [(0, 2), (1, 3), (2, 4), (3, 6)] } := by kernel_rfl
theorem ti9 : tiOf Try.prog 9 = some { size := 1, bytes := 16, zero := [.one (.string { data := { toList := [] } })], k := .str } := by kernel_rfl
theorem ti10 : tiOf Try.prog 10 = some { size := 1, bytes := 16, zero := [.one (.string { data := { toList := [] } })], k := .str } := by kernel_rfl
theorem ti11 : tiOf Try.prog 11 = some { size := 1, bytes := 16, zero := [.one (.string { data := { toList := [] } })], k := .str } := by kernel_rfl
theorem ti12 : tiOf Try.prog 12 = some { size := 1, bytes := 8, zero := [.one (.int .u64 0)], k := .int .u64 } := by kernel_rfl
theorem ti13 : tiOf Try.prog 13 = some { size := 2, bytes := 24, zero := [.one (.string { data := { toList := [] } }), .one (.int .u64 0)], k := .struct [(0, 9), (1, 12)] } := by kernel_rfl
theorem ti14 : tiOf Try.prog 14 = some { size := 2, bytes := 24, zero := [.one (.string { data := { toList := [] } }), .one (.int .u64 0)], k := .struct [(0, 9), (1, 12)] } := by kernel_rfl
theorem ti15 : tiOf Try.prog 15 = some { size := 1, bytes := 8, zero := [.one (.pointer none)], k := .ptr 204 } := by kernel_rfl
theorem ti16 : tiOf Try.prog 16 = some { size := 1, bytes := 8, zero := [.one (.pointer none)], k := .ptr 207 } := by kernel_rfl
theorem ti17 : tiOf Try.prog 17 = some { size := 1, bytes := 8, zero := [.one (.pointer none)], k := .ptr 216 } := by kernel_rfl
theorem ti18 : tiOf Try.prog 18 = some { size := 1, bytes := 8, zero := [.one (.pointer none)], k := .struct [(0, 17)] } := by kernel_rfl
theorem ti19 : tiOf Try.prog 19 = some { size := 1, bytes := 8, zero := [.one (.pointer none)], k := .struct [(0, 17)] } := by kernel_rfl
theorem ti20 : tiOf Try.prog 20 = some { size := 1, bytes := 16, zero := [.one .nilIface], k := .other } := by kernel_rfl
theorem ti21 : tiOf Try.prog 21 = some { size := 1, bytes := 4, zero := [.one (.int .i32 0)], k := .int .i32 } := by kernel_rfl
theorem ti22 : tiOf Try.prog 22 = some { size := 1, bytes := 24, zero := [.one (.slice none 0 0)], k := .slice 35 } := by kernel_rfl
theorem ti23 : tiOf Try.prog 23 = some { size := 1, bytes := 24, zero := [.one (.slice none 0 0)], k := .slice 37 } := by kernel_rfl
theorem ti24 : tiOf Try.prog 24 = some { size := 2, bytes := 48, zero := [.one (.slice none 0 0), .one (.slice none 0 0)], k := .struct [(0, 22), (1, 23)] } := by kernel_rfl
theorem ti25 : tiOf Try.prog 25 = some { size := 2, bytes := 48, zero := [.one (.slice none 0 0), .one (.slice none 0 0)], k := .struct [(0, 22), (1, 23)] } := by kernel_rfl
theorem ti26 : tiOf Try.prog 26 = some { size := 1, bytes := 8, zero := [.one .nilFunc], k := .func } := by kernel_rfl
theorem ti27 : tiOf Try.prog 27 = some { size := 1, bytes := 8, zero := [.one (.int .u64 0)], k := .int .u64 } := by kernel_rfl
theorem ti28 : tiOf Try.prog 28 = some { size := 4, bytes := 32, zero := [.one (.int .u64 0), .one (.int .u64 0), .one (.int .u64 0), .one (.int .u64 0)], k := .array 4 27 } := by kernel_rfl
theorem ti29 : tiOf Try.prog 29 = some { size := 4, bytes := 32, zero := [.one (.int .u64 0), .one (.int .u64 0), .one (.int .u64 0), .one (.int .u64 0)], k := .array 4 27 } := by kernel_rfl
theorem ti30 : tiOf Try.prog 30 = some { size := 5, bytes := 40, zero := [.one (.int .i64 0), .one (.int .u64 0), .one (.int .u64 0), .one (.int .u64 0), .one (.int .u64 0)], k := .struct [(0, 3), (1, 29)] } := by kernel_rfl
theorem ti31 : tiOf Try.prog 31 = some { size := 5, bytes := 40, zero := [.one (.int .i64 0), .one (.int .u64 0), .one (.int .u64 0), .one (.int .u64 0), .one (.int .u64 0)], k := .struct [(0, 3), (1, 29)] } := by kernel_rfl
theorem ti32 : tiOf Try.prog 32 = some { size := 40, bytes := 320, zero := [.one (.int .i64 0), .one (.int .u64 0), .one (.int .u64 0), .one (.int .u64 0), .one (.int .u64 0), .one (.int .i64 0), .one (.int .u64 0), .one (.int .u64 0), .one (.int .u64 0), .one (.int .u64 0), .one (.int .i64 0), .one (.int .u64 0), .one (.int .u64 0), .one (.int .u64 0), .one (.int .u64 0), .one (.int .i64 0), .one (.int .u64 0), .one (.int .u64 0), .one (.int .u64 0), .one (.int .u64 0), .one (.int .i64 0), .one (.int .u64 0), .one (.int .u64 0), .one (.int .u64 0), .one (.int .u64 0), .one (.int .i64 0), .one (.int .u64 0), .one (.int .u64 0), .one (.int .u64 0), .one (.int .u64 0), .one (.int .i64 0), .one (.int .u64 0), .one (.int .u64 0), .one (.int .u64 0), .one (.int .u64 0), .one (.int .i64 0), .one (.int .u64 0), .one (.int .u64 0), .one (.int .u64 0), .one (.int .u64 0)], k := .array 8 31 } := by kernel_rfl
theorem ti33 : tiOf Try.prog 33 = some { size := 8, bytes := 8, zero := [.one (.bool false), .one (.bool false), .one (.bool false), .one (.bool false), .one (.bool false), .one (.bool false), .one (.bool false), .one (.bool false)], k := .array 8 4 } := by kernel_rfl
theorem ti34 : tiOf Try.prog 34 = some { size := 6, bytes := 48, zero := [.one (.int .i64 0), .one (.int .i64 0), .one (.int .u64 0), .one (.int .u64 0), .one (.int .u64 0), .one (.int .u64 0)], k := .struct [(0, 3), (1, 31)] } := by kernel_rfl
theorem ti35 : tiOf Try.prog 35 = some { size := 6, bytes := 48, zero := [.one (.int .i64 0), .one (.int .i64 0), .one (.int .u64 0), .one (.int .u64 0), .one (.int .u64 0), .one (.int .u64 0)], k := .struct [(0, 3), (1, 31)] } := by kernel_rfl
theorem ti36 : tiOf Try.prog 36 = some { size := 7, bytes := 56, zero := [.one (.int .i64 0), .one (.int .i64 0), .one (.int .i64 0), .one (.int .u64 0), .one (.int .u64 0), .one (.int .u64 0), .one (.int .u64 0)], k := .struct [(0, 3), (1, 35)] } := by kernel_rfl
theorem ti37 : tiOf Try.prog 37 = some { size := 7, bytes := 56, zero := [.one (.int .i64 0), .one (.int .i64 0), .one (.int .i64 0), .one (.int .u64 0), .one (.int .u64 0), .one (.int .u64 0), .one (.int .u64 0)], k := .struct [(0, 3), (1, 35)] } := by kernel_rfl
theorem ti38 : tiOf Try.prog 38 = some { size := 1, bytes := 8, zero := [.one .nilFunc], k := .func } := by kernel_rfl
theorem ti39 : tiOf Try.prog 39 = some { size := 1, bytes := 8, zero := [.one (.int .i64 0)], k := .int .i64 } := by kernel_rfl
theorem ti41 : tiOf Try.prog 41 = some { size := 1, bytes := 8, zero := [.one .nilFunc], k := .func } := by kernel_rfl
theorem ti42 : tiOf Try.prog 42 = some { size := 1, bytes := 8, zero := [.one .nilFunc], k := .func } := by kernel_rfl
theorem ti43 : tiOf Try.prog 43 = some { size := 1, bytes := 8, zero := [.one .nilFunc], k := .func } := by kernel_rfl
theorem ti45 : tiOf Try.prog 45 = some { size := 1, bytes := 8, zero := [.one .nilFunc], k := .func } := by kernel_rfl
theorem ti46 : tiOf Try.prog 46 = some { size := 1, bytes := 8, zero := [.one .nilFunc], k := .func } := by kernel_rfl
theorem ti47 : tiOf Try.prog 47 = some { size := 1, bytes := 8, zero := [.one .nilFunc], k := .func } := by kernel_rfl
theorem ti48 : tiOf Try.prog 48 = some { size := 1, bytes := 8, zero := [.one .nilFunc], k := .func } := by kernel_rfl
theorem ti49 : tiOf Try.prog 49 = some { size := 1, bytes := 8, zero := [.one .nilFunc], k := .func } := by kernel_rfl
theorem ti50 : tiOf Try.prog 50 = some { size := 1, bytes := 8, zero := [.one .nilFunc], k := .func } := by kernel_rfl
theorem ti51 : tiOf Try.prog 51 = some { size := 1, bytes := 8, zero := [.one .nilFunc], k := .func } := by kernel_rfl
theorem ti52 : tiOf Try.prog 52 = some { size := 1, bytes := 8, zero := [.one .nilFunc], k := .func } := by kernel_rfl
theorem ti54 : tiOf Try.prog 54 = some { size := 1, bytes := 8, zero := [.one .nilFunc], k := .func } := by kernel_rfl
theorem ti55 : tiOf Try.prog 55 = some { size := 1, bytes := 24, zero := [.one (.slice none 0 0)], k := .slice 58 } := by kernel_rfl
theorem ti56 : tiOf Try.prog 56 = some { size := 1, bytes := 8, zero := [.one .nilFunc], k := .func } := by kernel_rfl
theorem ti57 : tiOf Try.prog 57 = some { size := 1, bytes := 24, zero := [.one (.slice none 0 0)], k := .slice 3 } := by kernel_rfl
theorem ti58 : tiOf Try.prog 58 = some { size := 1, bytes := 24, zero := [.one (.slice none 0 0)], k := .slice 5 } := by kernel_rfl
theorem ti59 : tiOf Try.prog 59 = some { size := 1, bytes := 8, zero := [.one .nilFunc], k := .func } := by kernel_rfl
theorem ti60 : tiOf Try.prog 60 = some { size := 1, bytes := 8, zero := [.one (.pointer none)], k := .ptr 89 } := by kernel_rfl
theorem ti61 : tiOf Try.prog 61 = some { size := 1, bytes := 8, zero := [.one .nilFunc], k := .func } := by kernel_rfl
theorem ti63 : tiOf Try.prog 63 = some { size := 1, bytes := 8, zero := [.one .nilFunc], k := .func } := by kernel_rfl
theorem ti64 : tiOf Try.prog 64 = some { size := 1, bytes := 8, zero := [.one .nilFunc], k := .func } := by kernel_rfl
theorem ti65 : tiOf Try.prog 65 = some { size := 1, bytes := 8, zero := [.one .nilFunc], k := .func } := by kernel_rfl
theorem ti66 : tiOf Try.prog 66 = some { size := 1, bytes := 8, zero := [.one .nilFunc], k := .func } := by kernel_rfl
theorem ti67 : tiOf Try.prog 67 = some { size := 1, bytes := 8, zero := [.one (.int .u64 0)], k := .int .u64 } := by kernel_rfl
theorem ti68 : tiOf Try.prog 68 = some { size := 1, bytes := 8, zero := [.one .nilFunc], k := .func } := by kernel_rfl
theorem ti69 : tiOf Try.prog 69 = some { size := 1, bytes := 8, zero := [.one .nilFunc], k := .func } := by kernel_rfl
theorem ti70 : tiOf Try.prog 70 = some { size := 1, bytes := 8, zero := [.one .nilFunc], k := .func } := by kernel_rfl
theorem ti71 : tiOf Try.prog 71 = some { size := 1, bytes := 8, zero := [.one .nilFunc], k := .func } := by kernel_rfl
theorem ti72 : tiOf Try.prog 72 = some { size := 1, bytes := 8, zero := [.one .nilFunc], k := .func } := by kernel_rfl
theorem ti73 : tiOf Try.prog 73 = some { size := 1, bytes := 8, zero := [.one .nilFunc], k := .func } := by kernel_rfl
theorem ti74 : tiOf Try.prog 74 = some { size := 1, bytes := 8, zero := [.one .nilFunc], k := .func } := by kernel_rfl
theorem ti75 : tiOf Try.prog 75 = some { size := 1, bytes := 8, zero := [.one .nilFunc], k := .func } := by kernel_rfl
theorem ti77 : tiOf Try.prog 77 = some { size := 1, bytes := 8, zero := [.one .nilFunc], k := .func } := by kernel_rfl
theorem ti78 : tiOf Try.prog 78 = some { size := 1, bytes := 8, zero := [.one .nilFunc], k := .func } := by kernel_rfl
theorem ti79 : tiOf Try.prog 79 = some { size := 1, bytes := 8, zero := [.one .nilFunc], k := .func } := by kernel_rfl
theorem ti81 : tiOf Try.prog 81 = some { size := 1, bytes := 8, zero := [.one .nilFunc], k := .func } := by kernel_rfl
theorem ti83 : tiOf Try.prog 83 = some { size := 1, bytes := 8, zero := [.one .nilFunc], k := .func } := by kernel_rfl
theorem ti84 : tiOf Try.prog 84 = some { size := 1, bytes := 24, zero := [.one (.slice none 0 0)], k := .slice 218 } := by kernel_rfl
theorem ti85 : tiOf Try.prog 85 = some { size := 3, bytes := 72, zero := [.one (.slice none 0 0), .one (.slice none 0 0), .one (.slice none 0 0)], k := .struct [(0, 58), (1, 84), (2, 58)] } := by kernel_rfl
theorem ti86 : tiOf Try.prog 86 = some { size := 3, bytes := 72, zero := [.one (.slice none 0 0), .one (.slice none 0 0), .one (.slice none 0 0)], k := .struct [(0, 58), (1, 84), (2, 58)] } := by kernel_rfl
theorem ti87 : tiOf Try.prog 87 = some { size := 24, bytes := 576, zero := [.one (.slice none 0 0), .one (.slice none 0 0), .one (.slice none 0 0), .one (.slice none 0 0), .one (.slice none 0 0), .one (.slice none 0 0), .one (.slice none 0 0), .one (.slice none 0 0), .one (.slice none 0 0), .one (.slice none 0 0), .one (.slice none 0 0), .one (.slice none 0 0), .one (.slice none 0 0), .one (.slice none 0 0), .one (.slice none 0 0), .one (.slice none 0 0), .one (.slice none 0 0), .one (.slice none 0 0), .one (.slice none 0 0), .one (.slice none 0 0), .one (.slice none 0 0), .one (.slice none 0 0), .one (.slice none 0 0), .one (.slice none 0 0)], k := .array 8 86 } := by kernel_rfl
theorem ti88 : tiOf Try.prog 88 = some { size := 27, bytes := 600, zero := [.one (.slice none 0 0), .one (.slice none 0 0), .one (.slice none 0 0), .one (.slice none 0 0), .one (.slice none 0 0), .one (.slice none 0 0), .one (.slice none 0 0), .one (.slice none 0 0), .one (.slice none 0 0), .one (.slice none 0 0), .one (.slice none 0 0), .one (.slice none 0 0), .one (.slice none 0 0), .one (.slice none 0 0), .one (.slice none 0 0), .one (.slice none 0 0), .one (.slice none 0 0), .one (.slice none 0 0), .one (.slice none 0 0), .one (.slice none 0 0), .one (.slice none 0 0), .one (.slice none 0 0), .one (.slice none 0 0), .one (.slice none 0 0), .one (.bool false), .one (.int .i64 0), .one (.int .i64 0)], k := .struct [(0, 87), (24, 4), (25, 3), (26, 3)] } := by kernel_rfl
theorem ti89 : tiOf Try.prog 89 = some { size := 27, bytes := 600, zero := [.one (.slice none 0 0), .one (.slice none 0 0), .one (.slice none 0 0), .one (.slice none 0 0), .one (.slice none 0 0), .one (.slice none 0 0), .one (.slice none 0 0), .one (.slice none 0 0), .one (.slice none 0 0), .one (.slice none 0 0), .one (.slice none 0 0), .one (.slice none 0 0), .one (.slice none 0 0), .one (.slice none 0 0), .one (.slice none 0 0), .one (.slice none 0 0), .one (.slice none 0 0), .one (.slice none 0 0), .one (.slice none 0 0), .one (.slice none 0 0), .one (.slice none 0 0), .one (.slice none 0 0), .one (.slice none 0 0), .one (.slice none 0 0), .one (.bool false), .one (.int .i64 0), .one (.int .i64 0)], k := .struct [(0, 87), (24, 4), (25, 3), (26, 3)] } := by kernel_rfl
theorem ti90 : tiOf Try.prog 90 = some { size := 1, bytes := 8, zero := [.one .nilFunc], k := .func } := by kernel_rfl
theorem ti91 : tiOf Try.prog 91 = some { size := 6, bytes := 48, zero := [.one (.int .i64 0), .one (.int .u64 0), .one (.int .u64 0), .one (.int .u64 0), .one (.int .u64 0), .one (.int .i64 0)], k := .struct [(0, 3), (1, 29), (5, 3)] } := by kernel_rfl
theorem ti92 : tiOf Try.prog 92 = some { size := 6, bytes := 48, zero := [.one (.int .i64 0), .one (.int .u64 0), .one (.int .u64 0), .one (.int .u64 0), .one (.int .u64 0), .one (.int .i64 0)], k := .struct [(0, 3), (1, 29), (5, 3)] } := by kernel_rfl
theorem ti93 : tiOf Try.prog 93 = some { size := 1, bytes := 24, zero := [.one (.slice none 0 0)], k := .slice 117 } := by kernel_rfl
theorem ti94 : tiOf Try.prog 94 = some { size := 1, bytes := 24, zero := [.one (.slice none 0 0)], k := .slice 111 } := by kernel_rfl
theorem ti95 : tiOf Try.prog 95 = some { size := 1, bytes := 24, zero := [.one (.slice none 0 0)], k := .slice 115 } := by kernel_rfl
theorem ti96 : tiOf Try.prog 96 = some { size := 10, bytes := 128, zero := [.one (.int .i64 0), .one (.int .i64 0), .one (.int .u64 0), .one (.int .u64 0), .one (.int .u64 0), .one (.int .u64 0), .one (.int .i64 0), .one (.slice none 0 0), .one (.slice none 0 0), .one (.slice none 0 0)], k := .struct [(0, 3), (1, 92), (7, 93), (8, 94), (9, 95)] } := by kernel_rfl
theorem ti97 : tiOf Try.prog 97 = some { size := 10, bytes := 128, zero := [.one (.int .i64 0), .one (.int .i64 0), .one (.int .u64 0), .one (.int .u64 0), .one (.int .u64 0), .one (.int .u64 0), .one (.int .i64 0), .one (.slice none 0 0), .one (.slice none 0 0), .one (.slice none 0 0)], k := .struct [(0, 3), (1, 92), (7, 93), (8, 94), (9, 95)] } := by kernel_rfl
theorem ti98 : tiOf Try.prog 98 = some { size := 1, bytes := 8, zero := [.one .nilFunc], k := .func } := by kernel_rfl
theorem ti99 : tiOf Try.prog 99 = some { size := 1, bytes := 8, zero := [.one .nilFunc], k := .func } := by kernel_rfl
theorem ti100 : tiOf Try.prog 100 = some { size := 1, bytes := 8, zero := [.one .nilFunc], k := .func } := by kernel_rfl
theorem ti101 : tiOf Try.prog 101 = some { size := 1, bytes := 8, zero := [.one .nilFunc], k := .func } := by kernel_rfl
theorem ti102 : tiOf Try.prog 102 = some { size := 1, bytes := 8, zero := [.one .nilFunc], k := .func } := by kernel_rfl
theorem ti103 : tiOf Try.prog 103 = some { size := 1, bytes := 8, zero := [.one .nilFunc], k := .func } := by kernel_rfl
theorem ti104 : tiOf Try.prog 104 = some { size := 1, bytes := 8, zero := [.one .nilFunc], k := .func } := by kernel_rfl
theorem ti105 : tiOf Try.prog 105 = some { size := 1, bytes := 8, zero := [.one .nilFunc], k := .func } := by kernel_rfl
theorem ti106 : tiOf Try.prog 106 = some { size := 1, bytes := 8, zero := [.one .nilFunc], k := .func } := by kernel_rfl
theorem ti107 : tiOf Try.prog 107 = some { size := 1, bytes := 8, zero := [.one .nilFunc], k := .func } := by kernel_rfl
theorem ti108 : tiOf Try.prog 108 = some { size := 1, bytes := 24, zero := [.one (.slice none 0 0)], k := .slice 27 } := by kernel_rfl
theorem ti109 : tiOf Try.prog 109 = some { size := 1, bytes := 24, zero := [.one (.slice none 0 0)], k := .slice 9 } := by kernel_rfl
theorem ti110 : tiOf Try.prog 110 = some { size := 21, bytes := 200, zero := [.one (.int .i64 0), .one (.int .i64 0), .one (.int .u64 0), .one (.int .u64 0), .one (.int .u64 0), .one (.int .u64 0), .one (.int .u64 0), .one (.int .u64 0), .one (.int .u64 0), .one (.int .u64 0), .one (.int .u64 0), .one (.int .u64 0), .one (.int .u64 0), .one (.int .u64 0), .one (.int .u64 0), .one (.int .u64 0), .one (.int .u64 0), .one (.int .u64 0), .one (.int .i64 0), .one (.slice none 0 0), .one (.slice none 0 0)], k := .struct [(0, 3), (1, 3), (2, 29), (6, 29), (10, 29), (14, 29), (18, 3), (19, 108), (20, 109)] } := by kernel_rfl
theorem ti111 : tiOf Try.prog 111 = some { size := 21, bytes := 200, zero := [.one (.int .i64 0), .one (.int .i64 0), .one (.int .u64 0), .one (.int .u64 0), .one (.int .u64 0), .one (.int .u64 0), .one (.int .u64 0), .one (.int .u64 0), .one (.int .u64 0), .one (.int .u64 0), .one (.int .u64 0), .one (.int .u64 0), .one (.int .u64 0), .one (.int .u64 0), .one (.int .u64 0), .one (.int .u64 0), .one (.int .u64 0), .one (.int .u64 0), .one (.int .i64 0), .one (.slice none 0 0), .one (.slice none 0 0)], k := .struct [(0, 3), (1, 3), (2, 29), (6, 29), (10, 29), (14, 29), (18, 3), (19, 108), (20, 109)] } := by kernel_rfl
theorem ti113 : tiOf Try.prog 113 = some { size := 1, bytes := 8, zero := [.one .nilFunc], k := .func } := by kernel_rfl
theorem ti114 : tiOf Try.prog 114 = some { size := 22, bytes := 208, zero := [.one (.int .i64 0), .one (.int .i64 0), .one (.int .u64 0), .one (.int .u64 0), .one (.int .u64 0), .one (.int .u64 0), .one (.int .u64 0), .one (.int .u64 0), .one (.int .u64 0), .one (.int .u64 0), .one (.int .u64 0), .one (.int .u64 0), .one (.int .u64 0), .one (.int .u64 0), .one (.int .u64 0), .one (.int .u64 0), .one (.int .u64 0), .one (.int .u64 0), .one (.int .i64 0), .one (.slice none 0 0), .one (.slice none 0 0), .one (.int .i64 0)], k := .struct [(0, 111), (21, 3)] } := by kernel_rfl
theorem ti115 : tiOf Try.prog 115 = some { size := 22, bytes := 208, zero := [.one (.int .i64 0), .one (.int .i64 0), .one (.int .u64 0), .one (.int .u64 0), .one (.int .u64 0), .one (.int .u64 0), .one (.int .u64 0), .one (.int .u64 0), .one (.int .u64 0), .one (.int .u64 0), .one (.int .u64 0), .one (.int .u64 0), .one (.int .u64 0), .one (.int .u64 0), .one (.int .u64 0), .one (.int .u64 0), .one (.int .u64 0), .one (.int .u64 0), .one (.int .i64 0), .one (.slice none 0 0), .one (.slice none 0 0), .one (.int .i64 0)], k := .struct [(0, 111), (21, 3)] } := by kernel_rfl
theorem ti116 : tiOf Try.prog 116 = some { size := 5, bytes := 40, zero := [.one (.int .i64 0), .one (.int .u64 0), .one (.int .u64 0), .one (.int .u64 0), .one (.int .u64 0)], k := .struct [(0, 3), (1, 29)] } := by kernel_rfl
theorem ti117 : tiOf Try.prog 117 = some { size := 5, bytes := 40, zero := [.one (.int .i64 0), .one (.int .u64 0), .one (.int .u64 0), .one (.int .u64 0), .one (.int .u64 0)], k := .struct [(0, 3), (1, 29)] } := by kernel_rfl
theorem ti118 : tiOf Try.prog 118 = some { size := 1, bytes := 8, zero := [.one .nilFunc], k := .func } := by kernel_rfl
theorem ti119 : tiOf Try.prog 119 = some { size := 1, bytes := 8, zero := [.one .nilFunc], k := .func } := by kernel_rfl
theorem ti120 : tiOf Try.prog 120 = some { size := 1, bytes := 8, zero := [.one .nilFunc], k := .func } := by kernel_rfl
theorem ti121 : tiOf Try.prog 121 = some { size := 1, bytes := 8, zero := [.one .nilFunc], k := .func } := by kernel_rfl
theorem ti123 : tiOf Try.prog 123 = some { size := 1, bytes := 8, zero := [.one .nilFunc], k := .func } := by kernel_rfl
theorem ti124 : tiOf Try.prog 124 = some { size := 1, bytes := 8, zero := [.one .nilFunc], k := .func } := by kernel_rfl
theorem ti125 : tiOf Try.prog 125 = some { size := 1, bytes := 8, zero := [.one .nilFunc], k := .func } := by kernel_rfl
theorem ti126 : tiOf Try.prog 126 = some { size := 1, bytes := 8, zero := [.one .nilFunc], k := .func } := by kernel_rfl
theorem ti127 : tiOf Try.prog 127 = some { size := 1, bytes := 8, zero := [.one .nilFunc], k := .func } := by kernel_rfl
theorem ti128 : tiOf Try.prog 128 = some { size := 1, bytes := 8, zero := [.one .nilFunc], k := .func } := by kernel_rfl
theorem ti129 : tiOf Try.prog 129 = some { size := 1, bytes := 8, zero := [.one .nilFunc], k := .func } := by kernel_rfl
theorem ti131 : tiOf Try.prog 131 = some { size := 1, bytes := 8, zero := [.one .nilFunc], k := .func } := by kernel_rfl
theorem ti132 : tiOf Try.prog 132 = some { size := 1, bytes := 8, zero := [.one .nilFunc], k := .func } := by kernel_rfl
theorem ti134 : tiOf Try.prog 134 = some { size := 1, bytes := 8, zero := [.one .nilFunc], k := .func } := by kernel_rfl
theorem ti135 : tiOf Try.prog 135 = some { size := 1, bytes := 8, zero := [.one .nilFunc], k := .func } := by kernel_rfl
theorem ti136 : tiOf Try.prog 136 = some { size := 1, bytes := 8, zero := [.one .nilFunc], k := .func } := by kernel_rfl
theorem ti137 : tiOf Try.prog 137 = some { size := 1, bytes := 8, zero := [.one .nilFunc], k := .func } := by kernel_rfl
theorem ti138 : tiOf Try.prog 138 = some { size := 1, bytes := 24, zero := [.one (.slice none 0 0)], k := .slice 140 } := by kernel_rfl
theorem ti139 : tiOf Try.prog 139 = some { size := 3, bytes := 48, zero := [.one (.bool false), .one (.string { data := { toList := [] } }), .one (.slice none 0 0)], k := .struct [(0, 4), (1, 9), (2, 138)] } := by kernel_rfl
theorem ti140 : tiOf Try.prog 140 = some { size := 3, bytes := 48, zero := [.one (.bool false), .one (.string { data := { toList := [] } }), .one (.slice none 0 0)], k := .struct [(0, 4), (1, 9), (2, 138)] } := by kernel_rfl
theorem ti141 : tiOf Try.prog 141 = some { size := 1, bytes := 8, zero := [.one .nilFunc], k := .func } := by kernel_rfl
theorem ti142 : tiOf Try.prog 142 = some { size := 1, bytes := 8, zero := [.one .nilFunc], k := .func } := by kernel_rfl
theorem ti143 : tiOf Try.prog 143 = some { size := 1, bytes := 8, zero := [.one .nilFunc], k := .func } := by kernel_rfl
theorem ti144 : tiOf Try.prog 144 = some { size := 1, bytes := 8, zero := [.one .nilFunc], k := .func } := by kernel_rfl
theorem ti145 : tiOf Try.prog 145 = some { size := 1, bytes := 8, zero := [.one .nilFunc], k := .func } := by kernel_rfl
theorem ti146 : tiOf Try.prog 146 = some { size := 1, bytes := 8, zero := [.one .nilFunc], k := .func } := by kernel_rfl
theorem ti147 : tiOf Try.prog 147 = some { size := 1, bytes := 8, zero := [.one .nilFunc], k := .func } := by kernel_rfl
theorem ti149 : tiOf Try.prog 149 = some { size := 1, bytes := 8, zero := [.one .nilFunc], k := .func } := by kernel_rfl
theorem ti150 : tiOf Try.prog 150 = some { size := 1, bytes := 8, zero := [.one .nilFunc], k := .func } := by kernel_rfl
theorem ti151 : tiOf Try.prog 151 = some { size := 1, bytes := 8, zero := [.one .nilFunc], k := .func } := by kernel_rfl
theorem ti152 : tiOf Try.prog 152 = some { size := 1, bytes := 8, zero := [.one .nilFunc], k := .func } := by kernel_rfl
theorem ti153 : tiOf Try.prog 153 = some { size := 1, bytes := 8, zero := [.one .nilFunc], k := .func } := by kernel_rfl
theorem ti154 : tiOf Try.prog 154 = some { size := 1, bytes := 8, zero := [.one .nilFunc], k := .func } := by kernel_rfl
theorem ti155 : tiOf Try.prog 155 = some { size := 8, bytes := 8, zero := [.one (.int .u8 0), .one (.int .u8 0), .one (.int .u8 0), .one (.int .u8 0), .one (.int .u8 0), .one (.int .u8 0), .one (.int .u8 0), .one (.int .u8 0)], k := .array 8 5 } := by kernel_rfl
theorem ti156 : tiOf Try.prog 156 = some { size := 1, bytes := 8, zero := [.one .nilFunc], k := .func } := by kernel_rfl
theorem ti157 : tiOf Try.prog 157 = some { size := 1, bytes := 8, zero := [.one .nilFunc], k := .func } := by kernel_rfl
theorem ti158 : tiOf Try.prog 158 = some { size := 1, bytes := 8, zero := [.one .nilFunc], k := .func } := by kernel_rfl
theorem ti159 : tiOf Try.prog 159 = some { size := 1, bytes := 8, zero := [.one .nilFunc], k := .func } := by kernel_rfl
theorem ti160 : tiOf Try.prog 160 = some { size := 1, bytes := 8, zero := [.one .nilFunc], k := .func } := by kernel_rfl
theorem ti161 : tiOf Try.prog 161 = some { size := 1, bytes := 8, zero := [.one .nilFunc], k := .func } := by kernel_rfl
theorem ti162 : tiOf Try.prog 162 = some { size := 1, bytes := 8, zero := [.one .nilFunc], k := .func } := by kernel_rfl
theorem ti163 : tiOf Try.prog 163 = some { size := 1, bytes := 8, zero := [.one (.int .i64 0)], k := .int .i64 } := by kernel_rfl
theorem ti165 : tiOf Try.prog 165 = some { size := 1, bytes := 8, zero := [.one .nilFunc], k := .func } := by kernel_rfl
theorem ti166 : tiOf Try.prog 166 = some { size := 1, bytes := 8, zero := [.one .nilFunc], k := .func } := by kernel_rfl
theorem ti167 : tiOf Try.prog 167 = some { size := 1, bytes := 8, zero := [.one .nilFunc], k := .func } := by kernel_rfl
theorem ti168 : tiOf Try.prog 168 = some { size := 1, bytes := 8, zero := [.one .nilFunc], k := .func } := by kernel_rfl
theorem ti170 : tiOf Try.prog 170 = some { size := 1, bytes := 8, zero := [.one .nilFunc], k := .func } := by kernel_rfl
theorem ti171 : tiOf Try.prog 171 = some { size := 1, bytes := 8, zero := [.one .nilFunc], k := .func } := by kernel_rfl
theorem ti172 : tiOf Try.prog 172 = some { size := 1, bytes := 4, zero := [.one (.int .u32 0)], k := .int .u32 } := by kernel_rfl
theorem ti173 : tiOf Try.prog 173 = some { size := 1, bytes := 8, zero := [.one .nilFunc], k := .func } := by kernel_rfl
theorem ti174 : tiOf Try.prog 174 = some { size := 1, bytes := 8, zero := [.one .nilFunc], k := .func } := by kernel_rfl
theorem ti175 : tiOf Try.prog 175 = some { size := 4, bytes := 32, zero := [.one (.int .i64 0), .one (.int .i64 0), .one (.int .i64 0), .one (.int .i64 0)], k := .array 4 39 } := by kernel_rfl
theorem ti176 : tiOf Try.prog 176 = some { size := 1, bytes := 8, zero := [.one .nilFunc], k := .func } := by kernel_rfl
theorem ti177 : tiOf Try.prog 177 = some { size := 1, bytes := 8, zero := [.one .nilFunc], k := .func } := by kernel_rfl
theorem ti178 : tiOf Try.prog 178 = some { size := 1, bytes := 8, zero := [.one .nilFunc], k := .func } := by kernel_rfl
theorem ti179 : tiOf Try.prog 179 = some { size := 1, bytes := 8, zero := [.one .nilFunc], k := .func } := by kernel_rfl
theorem ti180 : tiOf Try.prog 180 = some { size := 1, bytes := 8, zero := [.one .nilFunc], k := .func } := by kernel_rfl
theorem ti181 : tiOf Try.prog 181 = some { size := 1, bytes := 8, zero := [.one .nilFunc], k := .func } := by kernel_rfl
theorem ti182 : tiOf Try.prog 182 = some { size := 1, bytes := 8, zero := [.one .nilFunc], k := .func } := by kernel_rfl
theorem ti184 : tiOf Try.prog 184 = some { size := 1, bytes := 8, zero := [.one .nilFunc], k := .func } := by kernel_rfl
theorem ti185 : tiOf Try.prog 185 = some { size := 1, bytes := 8, zero := [.one (.int .u64 0)], k := .int .u64 } := by kernel_rfl
theorem ti186 : tiOf Try.prog 186 = some { size := 1, bytes := 8, zero := [.one .nilFunc], k := .func } := by kernel_rfl
theorem ti187 : tiOf Try.prog 187 = some { size := 1, bytes := 8, zero := [.one .nilFunc], k := .func } := by kernel_rfl
theorem ti188 : tiOf Try.prog 188 = some { size := 1, bytes := 8, zero := [.one .nilFunc], k := .func } := by kernel_rfl
theorem ti189 : tiOf Try.prog 189 = some { size := 1, bytes := 8, zero := [.one (.pointer none)], k := .ptr 3 } := by kernel_rfl
theorem ti190 : tiOf Try.prog 190 = some { size := 1, bytes := 8, zero := [.one .nilFunc], k := .func } := by kernel_rfl
theorem ti191 : tiOf Try.prog 191 = some { size := 1, bytes := 8, zero := [.one .nilFunc], k := .func } := by kernel_rfl
theorem ti192 : tiOf Try.prog 192 = some { size := 8, bytes := 64, zero := [.one (.int .u64 0), .one (.int .u64 0), .one (.int .u64 0), .one (.int .u64 0), .one (.int .u64 0), .one (.int .u64 0), .one (.int .u64 0), .one (.int .u64 0)], k := .array 8 27 } := by kernel_rfl
theorem ti193 : tiOf Try.prog 193 = some { size := 1, bytes := 8, zero := [.one .nilFunc], k := .func } := by kernel_rfl
theorem ti194 : tiOf Try.prog 194 = some { size := 1, bytes := 8, zero := [.one .nilFunc], k := .func } := by kernel_rfl
theorem ti195 : tiOf Try.prog 195 = some { size := 1, bytes := 8, zero := [.one .nilFunc], k := .func } := by kernel_rfl
theorem ti196 : tiOf Try.prog 196 = some { size := 1, bytes := 8, zero := [.one .nilFunc], k := .func } := by kernel_rfl
theorem ti197 : tiOf Try.prog 197 = some { size := 1, bytes := 8, zero := [.one .nilFunc], k := .func } := by kernel_rfl
theorem ti198 : tiOf Try.prog 198 = some { size := 1, bytes := 8, zero := [.one (.pointer none)], k := .ptr 185 } := by kernel_rfl
theorem ti200 : tiOf Try.prog 200 = some { size := 1, bytes := 8, zero := [.one .nilFunc], k := .func } := by kernel_rfl
theorem ti201 : tiOf Try.prog 201 = some { size := 1, bytes := 8, zero := [.one .nilFunc], k := .func } := by kernel_rfl
theorem ti202 : tiOf Try.prog 202 = some { size := 1, bytes := 8, zero := [.one .nilFunc], k := .func } := by kernel_rfl
theorem ti203 : tiOf Try.prog 203 = some { size := 4, bytes := 40, zero := [.one (.pointer none), .one (.pointer none), .one (.pointer none), .one (.string { data := { toList := [] } })], k := .struct [(0, 17), (1, 17), (2, 17), (3, 9)] } := by kernel_rfl
theorem ti204 : tiOf Try.prog 204 = some { size := 4, bytes := 40, zero := [.one (.pointer none), .one (.pointer none), .one (.pointer none), .one (.string { data := { toList := [] } })], k := .struct [(0, 17), (1, 17), (2, 17), (3, 9)] } := by kernel_rfl
theorem ti205 : tiOf Try.prog 205 = some { size := 0, bytes := 0, zero := [], k := .array 0 16 } := by kernel_rfl
theorem ti206 : tiOf Try.prog 206 = some { size := 0, bytes := 0, zero := [], k := .struct [(0, 205)] } := by kernel_rfl
theorem ti207 : tiOf Try.prog 207 = some { size := 0, bytes := 0, zero := [], k := .struct [(0, 205)] } := by kernel_rfl
theorem ti208 : tiOf Try.prog 208 = some { size := 1, bytes := 8, zero := [.one .nilFunc], k := .func } := by kernel_rfl
theorem ti209 : tiOf Try.prog 209 = some { size := 1, bytes := 1, zero := [.one (.int .u8 0)], k := .int .u8 } := by kernel_rfl
theorem ti210 : tiOf Try.prog 210 = some { size := 1, bytes := 1, zero := [.one (.int .u8 0)], k := .int .u8 } := by kernel_rfl
theorem ti211 : tiOf Try.prog 211 = some { size := 1, bytes := 8, zero := [.one .nilFunc], k := .func } := by kernel_rfl
theorem ti212 : tiOf Try.prog 212 = some { size := 1, bytes := 8, zero := [.one (.pointer none)], k := .ptr 5 } := by kernel_rfl
theorem ti213 : tiOf Try.prog 213 = some { size := 1, bytes := 4, zero := [.one (.int .i32 0)], k := .int .i32 } := by kernel_rfl
theorem ti214 : tiOf Try.prog 214 = some { size := 1, bytes := 4, zero := [.one (.int .i32 0)], k := .int .i32 } := by kernel_rfl
theorem ti215 : tiOf Try.prog 215 = some { size := 11, bytes := 48, zero := [.one (.int .u64 0), .one (.int .u64 0), .one (.int .u32 0), .one (.int .u8 0), .one (.int .u8 0), .one (.int .u8 0), .one (.int .u8 0), .one .nilFunc, .one (.pointer none), .one (.int .i32 0), .one (.int .i32 0)], k := .struct [(0, 12), (1, 12), (2, 172), (3, 209), (4, 5), (5, 5), (6, 210), (7, 211), (8, 212), (9, 213), (10, 214)] } := by kernel_rfl
theorem ti216 : tiOf Try.prog 216 = some { size := 11, bytes := 48, zero := [.one (.int .u64 0), .one (.int .u64 0), .one (.int .u32 0), .one (.int .u8 0), .one (.int .u8 0), .one (.int .u8 0), .one (.int .u8 0), .one .nilFunc, .one (.pointer none), .one (.int .i32 0), .one (.int .i32 0)], k := .struct [(0, 12), (1, 12), (2, 172), (3, 209), (4, 5), (5, 5), (6, 210), (7, 211), (8, 212), (9, 213), (10, 214)] } := by kernel_rfl
theorem ti217 : tiOf Try.prog 217 = some { size := 3, bytes := 40, zero := [.one (.bool false), .one (.int .i64 0), .one (.slice none 0 0)], k := .struct [(0, 4), (1, 3), (2, 58)] } := by kernel_rfl
theorem ti218 : tiOf Try.prog 218 = some { size := 3, bytes := 40, zero := [.one (.bool false), .one (.int .i64 0), .one (.slice none 0 0)], k := .struct [(0, 4), (1, 3), (2, 58)] } := by kernel_rfl
theorem ti219 : tiOf Try.prog 219 = some { size := 1, bytes := 8, zero := [.one .nilFunc], k := .func } := by kernel_rfl
theorem ti220 : tiOf Try.prog 220 = some { size := 1, bytes := 8, zero := [.one (.pointer none)], k := .other } := by kernel_rfl
attribute [go_sem] ti1 ti2 ti3 ti4 ti5 ti6 ti7 ti8 ti9 ti10 ti11 ti12 ti13 ti14 ti15 ti16 ti17 ti18 ti19 ti20 ti21 ti22 ti23 ti24 ti25 ti26 ti27 ti28 ti29 ti30 ti31 ti32 ti33 ti34 ti35 ti36 ti37 ti38 ti39 ti41 ti42 ti43 ti45 ti46 ti47 ti48 ti49 ti50 ti51 ti52 ti54 ti55 ti56 ti57 ti58 ti59 ti60 ti61 ti63 ti64 ti65 ti66 ti67 ti68 ti69 ti70 ti71 ti72 ti73 ti74 ti75 ti77 ti78 ti79 ti81 ti83 ti84 ti85 ti86 ti87 ti88 ti89 ti90 ti91 ti92 ti93 ti94 ti95 ti96 ti97 ti98 ti99 ti100 ti101 ti102 ti103 ti104 ti105 ti106 ti107 ti108 ti109 ti110 ti111 ti113 ti114 ti115 ti116 ti117 ti118 ti119 ti120 ti121 ti123 ti124 ti125 ti126 ti127 ti128 ti129 ti131 ti132 ti134 ti135 ti136 ti137 ti138 ti139 ti140 ti141 ti142 ti143 ti144 ti145 ti146 ti147 ti149 ti150 ti151 ti152 ti153 ti154 ti155 ti156 ti157 ti158 ti159 ti160 ti161 ti162 ti163 ti165 ti166 ti167 ti168 ti170 ti171 ti172 ti173 ti174 ti175 ti176 ti177 ti178 ti179 ti180 ti181 ti182 ti184 ti185 ti186 ti187 ti188 ti189 ti190 ti191 ti192 ti193 ti194 ti195 ti196 ti197 ti198 ti200 ti201 ti202 ti203 ti204 ti205 ti206 ti207 ti208 ti209 ti210 ti211 ti212 ti213 ti214 ti215 ti216 ti217 ti218 ti219 ti220
end
end Go.Ab.Try
