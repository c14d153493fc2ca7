import Derived.Test.YtmcammamjbfkfaaGreatDoorAiLoop
import Derived.Test.YtmcammamjbfkfaaGreatDoorProg
set_option maxHeartbeats 1000000
set_option linter.unusedVariables false
set_option maxRecDepth 100000
namespace Ai
open Go Go.Proofs

/-- int64 -/
abbrev ti2 : TI := ⟨1, false, 8, [.int .i64 0], .int .i64⟩
theorem tf2 : TFact Tryz.prog 2 ti2 := ⟨⟨Tryz.t2, (match Tryz.t2.zero with | some z => z | none => undef), by kernel_rfl, by kernel_rfl, by kernel_rfl, by kernel_rfl, by kernel_rfl⟩, by kernel_rfl, by kernel_rfl, ⟨Tryz.t2.desc, by kernel_rfl, by kernel_rfl⟩, (by kernel_rfl : Tryz.prog.underlying 2 = some (.int .i64))⟩
/-- int -/
abbrev ti3 : TI := ⟨1, false, 8, [.int .i64 0], .int .i64⟩
theorem tf3 : TFact Tryz.prog 3 ti3 := ⟨⟨Tryz.t3, (match Tryz.t3.zero with | some z => z | none => undef), by kernel_rfl, by kernel_rfl, by kernel_rfl, by kernel_rfl, by kernel_rfl⟩, by kernel_rfl, by kernel_rfl, ⟨Tryz.t3.desc, by kernel_rfl, by kernel_rfl⟩, (by kernel_rfl : Tryz.prog.underlying 3 = some (.int .i64))⟩
/-- bool -/
abbrev ti4 : TI := ⟨1, false, 1, [.bool false], .bool⟩
theorem tf4 : TFact Tryz.prog 4 ti4 := ⟨⟨Tryz.t4, (match Tryz.t4.zero with | some z => z | none => undef), by kernel_rfl, by kernel_rfl, by kernel_rfl, by kernel_rfl, by kernel_rfl⟩, by kernel_rfl, by kernel_rfl, ⟨Tryz.t4.desc, by kernel_rfl, by kernel_rfl⟩, (by kernel_rfl : Tryz.prog.underlying 4 = some (.bool))⟩
/-- uint8 -/
abbrev ti5 : TI := ⟨1, false, 1, [.int .u8 0], .int .u8⟩
theorem tf5 : TFact Tryz.prog 5 ti5 := ⟨⟨Tryz.t5, (match Tryz.t5.zero with | some z => z | none => undef), by kernel_rfl, by kernel_rfl, by kernel_rfl, by kernel_rfl, by kernel_rfl⟩, by kernel_rfl, by kernel_rfl, ⟨Tryz.t5.desc, by kernel_rfl, by kernel_rfl⟩, (by kernel_rfl : Tryz.prog.underlying 5 = some (.int .u8))⟩
/-- abi.BoundsErrorCode -/
abbrev ti6 : TI := ⟨1, false, 1, [.int .u8 0], .int .u8⟩
theorem tf6 : TFact Tryz.prog 6 ti6 := ⟨⟨Tryz.t6, (match Tryz.t6.zero with | some z => z | none => undef), by kernel_rfl, by kernel_rfl, by kernel_rfl, by kernel_rfl, by kernel_rfl⟩, by kernel_rfl, by kernel_rfl, ⟨Tryz.t5.desc, by kernel_rfl, by kernel_rfl⟩, (by kernel_rfl : Tryz.prog.underlying 6 = some (.int .u8))⟩
/-- struct { x int64; y int; signed bool; code abi.BoundsErrorCode } -/
abbrev ti7 : TI := ⟨4, true, 24, [.int .i64 0, .int .i64 0, .bool false, .int .u8 0], .struct [(0, 2), (1, 3), (2, 4), (3, 6)]⟩
theorem tf7 : TFact Tryz.prog 7 ti7 := ⟨⟨Tryz.t7, (match Tryz.t7.zero with | some z => z | none => undef), by kernel_rfl, by kernel_rfl, by kernel_rfl, by kernel_rfl, by kernel_rfl⟩, by kernel_rfl, by kernel_rfl, ⟨Tryz.t7.desc, by kernel_rfl, by kernel_rfl⟩, ⟨(match Tryz.t7.desc with | .struct F => F | _ => #[]), by kernel_rfl, by kernel_rfl⟩⟩
/-- runtime.boundsError -/
abbrev ti8 : TI := ⟨4, true, 24, [.int .i64 0, .int .i64 0, .bool false, .int .u8 0], .struct [(0, 2), (1, 3), (2, 4), (3, 6)]⟩
theorem tf8 : TFact Tryz.prog 8 ti8 := ⟨⟨Tryz.t8, (match Tryz.t8.zero with | some z => z | none => undef), by kernel_rfl, by kernel_rfl, by kernel_rfl, by kernel_rfl, by kernel_rfl⟩, by kernel_rfl, by kernel_rfl, ⟨Tryz.t7.desc, by kernel_rfl, by kernel_rfl⟩, ⟨(match Tryz.t7.desc with | .struct F => F | _ => #[]), by kernel_rfl, by kernel_rfl⟩⟩
/-- string -/
abbrev ti9 : TI := ⟨1, false, 16, [.str []], .str⟩
theorem tf9 : TFact Tryz.prog 9 ti9 := ⟨⟨Tryz.t9, (match Tryz.t9.zero with | some z => z | none => undef), by kernel_rfl, by kernel_rfl, by kernel_rfl, by kernel_rfl, by kernel_rfl⟩, by kernel_rfl, by kernel_rfl, ⟨Tryz.t9.desc, by kernel_rfl, by kernel_rfl⟩, (by kernel_rfl : Tryz.prog.underlying 9 = some (.string))⟩
/-- runtime.errorString -/
abbrev ti10 : TI := ⟨1, false, 16, [.str []], .str⟩
theorem tf10 : TFact Tryz.prog 10 ti10 := ⟨⟨Tryz.t10, (match Tryz.t10.zero with | some z => z | none => undef), by kernel_rfl, by kernel_rfl, by kernel_rfl, by kernel_rfl, by kernel_rfl⟩, by kernel_rfl, by kernel_rfl, ⟨Tryz.t9.desc, by kernel_rfl, by kernel_rfl⟩, (by kernel_rfl : Tryz.prog.underlying 10 = some (.string))⟩
/-- runtime.plainError -/
abbrev ti11 : TI := ⟨1, false, 16, [.str []], .str⟩
theorem tf11 : TFact Tryz.prog 11 ti11 := ⟨⟨Tryz.t11, (match Tryz.t11.zero with | some z => z | none => undef), by kernel_rfl, by kernel_rfl, by kernel_rfl, by kernel_rfl, by kernel_rfl⟩, by kernel_rfl, by kernel_rfl, ⟨Tryz.t9.desc, by kernel_rfl, by kernel_rfl⟩, (by kernel_rfl : Tryz.prog.underlying 11 = some (.string))⟩
/-- uintptr -/
abbrev ti12 : TI := ⟨1, false, 8, [.int .u64 0], .int .u64⟩
theorem tf12 : TFact Tryz.prog 12 ti12 := ⟨⟨Tryz.t12, (match Tryz.t12.zero with | some z => z | none => undef), by kernel_rfl, by kernel_rfl, by kernel_rfl, by kernel_rfl, by kernel_rfl⟩, by kernel_rfl, by kernel_rfl, ⟨Tryz.t12.desc, by kernel_rfl, by kernel_rfl⟩, (by kernel_rfl : Tryz.prog.underlying 12 = some (.int .u64))⟩
/-- struct { msg string; addr uintptr } -/
abbrev ti13 : TI := ⟨2, true, 24, [.str [], .int .u64 0], .struct [(0, 9), (1, 12)]⟩
theorem tf13 : TFact Tryz.prog 13 ti13 := ⟨⟨Tryz.t13, (match Tryz.t13.zero with | some z => z | none => undef), by kernel_rfl, by kernel_rfl, by kernel_rfl, by kernel_rfl, by kernel_rfl⟩, by kernel_rfl, by kernel_rfl, ⟨Tryz.t13.desc, by kernel_rfl, by kernel_rfl⟩, ⟨(match Tryz.t13.desc with | .struct F => F | _ => #[]), by kernel_rfl, by kernel_rfl⟩⟩
/-- runtime.errorAddressString -/
abbrev ti14 : TI := ⟨2, true, 24, [.str [], .int .u64 0], .struct [(0, 9), (1, 12)]⟩
theorem tf14 : TFact Tryz.prog 14 ti14 := ⟨⟨Tryz.t14, (match Tryz.t14.zero with | some z => z | none => undef), by kernel_rfl, by kernel_rfl, by kernel_rfl, by kernel_rfl, by kernel_rfl⟩, by kernel_rfl, by kernel_rfl, ⟨Tryz.t13.desc, by kernel_rfl, by kernel_rfl⟩, ⟨(match Tryz.t13.desc with | .struct F => F | _ => #[]), by kernel_rfl, by kernel_rfl⟩⟩
/-- int32 -/
abbrev ti21 : TI := ⟨1, false, 4, [.int .i32 0], .int .i32⟩
theorem tf21 : TFact Tryz.prog 21 ti21 := ⟨⟨Tryz.t21, (match Tryz.t21.zero with | some z => z | none => undef), by kernel_rfl, by kernel_rfl, by kernel_rfl, by kernel_rfl, by kernel_rfl⟩, by kernel_rfl, by kernel_rfl, ⟨Tryz.t21.desc, by kernel_rfl, by kernel_rfl⟩, (by kernel_rfl : Tryz.prog.underlying 21 = some (.int .i32))⟩
/-- [][]laws.Op -/
abbrev ti22 : TI := ⟨1, false, 24, [.nil], .slice 100⟩
theorem tf22 : TFact Tryz.prog 22 ti22 := ⟨⟨Tryz.t22, (match Tryz.t22.zero with | some z => z | none => undef), by kernel_rfl, by kernel_rfl, by kernel_rfl, by kernel_rfl, by kernel_rfl⟩, by kernel_rfl, by kernel_rfl, ⟨Tryz.t22.desc, by kernel_rfl, by kernel_rfl⟩, (by kernel_rfl : Tryz.prog.underlying 22 = some (.slice 100))⟩
/-- struct { Cells int; Locks int; Conds int; Routines [][]laws.Op } -/
abbrev ti23 : TI := ⟨4, true, 48, [.int .i64 0, .int .i64 0, .int .i64 0, .nil], .struct [(0, 3), (1, 3), (2, 3), (3, 22)]⟩
theorem tf23 : TFact Tryz.prog 23 ti23 := ⟨⟨Tryz.t23, (match Tryz.t23.zero with | some z => z | none => undef), by kernel_rfl, by kernel_rfl, by kernel_rfl, by kernel_rfl, by kernel_rfl⟩, by kernel_rfl, by kernel_rfl, ⟨Tryz.t23.desc, by kernel_rfl, by kernel_rfl⟩, ⟨(match Tryz.t23.desc with | .struct F => F | _ => #[]), by kernel_rfl, by kernel_rfl⟩⟩
/-- laws.Prog -/
abbrev ti24 : TI := ⟨4, true, 48, [.int .i64 0, .int .i64 0, .int .i64 0, .nil], .struct [(0, 3), (1, 3), (2, 3), (3, 22)]⟩
theorem tf24 : TFact Tryz.prog 24 ti24 := ⟨⟨Tryz.t24, (match Tryz.t24.zero with | some z => z | none => undef), by kernel_rfl, by kernel_rfl, by kernel_rfl, by kernel_rfl, by kernel_rfl⟩, by kernel_rfl, by kernel_rfl, ⟨Tryz.t23.desc, by kernel_rfl, by kernel_rfl⟩, ⟨(match Tryz.t23.desc with | .struct F => F | _ => #[]), by kernel_rfl, by kernel_rfl⟩⟩
/-- []laws.Pct -/
abbrev ti25 : TI := ⟨1, false, 24, [.nil], .slice 77⟩
theorem tf25 : TFact Tryz.prog 25 ti25 := ⟨⟨Tryz.t25, (match Tryz.t25.zero with | some z => z | none => undef), by kernel_rfl, by kernel_rfl, by kernel_rfl, by kernel_rfl, by kernel_rfl⟩, by kernel_rfl, by kernel_rfl, ⟨Tryz.t25.desc, by kernel_rfl, by kernel_rfl⟩, (by kernel_rfl : Tryz.prog.underlying 25 = some (.slice 77))⟩
/-- []laws.Pair -/
abbrev ti26 : TI := ⟨1, false, 24, [.nil], .slice 89⟩
theorem tf26 : TFact Tryz.prog 26 ti26 := ⟨⟨Tryz.t26, (match Tryz.t26.zero with | some z => z | none => undef), by kernel_rfl, by kernel_rfl, by kernel_rfl, by kernel_rfl, by kernel_rfl⟩, by kernel_rfl, by kernel_rfl, ⟨Tryz.t26.desc, by kernel_rfl, by kernel_rfl⟩, (by kernel_rfl : Tryz.prog.underlying 26 = some (.slice 89))⟩
/-- []laws.Found -/
abbrev ti27 : TI := ⟨1, false, 24, [.nil], .slice 79⟩
theorem tf27 : TFact Tryz.prog 27 ti27 := ⟨⟨Tryz.t27, (match Tryz.t27.zero with | some z => z | none => undef), by kernel_rfl, by kernel_rfl, by kernel_rfl, by kernel_rfl, by kernel_rfl⟩, by kernel_rfl, by kernel_rfl, ⟨Tryz.t27.desc, by kernel_rfl, by kernel_rfl⟩, (by kernel_rfl : Tryz.prog.underlying 27 = some (.slice 79))⟩
/-- struct { Prog laws.Prog; Kept []laws.Pct; Covered []laws.Pair; Finds []laws.Found; Tried int } -/
abbrev ti28 : TI := ⟨8, true, 128, [.int .i64 0, .int .i64 0, .int .i64 0, .nil, .nil, .nil, .nil, .int .i64 0], .struct [(0, 24), (4, 25), (5, 26), (6, 27), (7, 3)]⟩
theorem tf28 : TFact Tryz.prog 28 ti28 := ⟨⟨Tryz.t28, (match Tryz.t28.zero with | some z => z | none => undef), by kernel_rfl, by kernel_rfl, by kernel_rfl, by kernel_rfl, by kernel_rfl⟩, by kernel_rfl, by kernel_rfl, ⟨Tryz.t28.desc, by kernel_rfl, by kernel_rfl⟩, ⟨(match Tryz.t28.desc with | .struct F => F | _ => #[]), by kernel_rfl, by kernel_rfl⟩⟩
/-- laws.Hunt -/
abbrev ti29 : TI := ⟨8, true, 128, [.int .i64 0, .int .i64 0, .int .i64 0, .nil, .nil, .nil, .nil, .int .i64 0], .struct [(0, 24), (4, 25), (5, 26), (6, 27), (7, 3)]⟩
theorem tf29 : TFact Tryz.prog 29 ti29 := ⟨⟨Tryz.t29, (match Tryz.t29.zero with | some z => z | none => undef), by kernel_rfl, by kernel_rfl, by kernel_rfl, by kernel_rfl, by kernel_rfl⟩, by kernel_rfl, by kernel_rfl, ⟨Tryz.t28.desc, by kernel_rfl, by kernel_rfl⟩, ⟨(match Tryz.t28.desc with | .struct F => F | _ => #[]), by kernel_rfl, by kernel_rfl⟩⟩
/-- [][]impl.Op -/
abbrev ti33 : TI := ⟨1, false, 24, [.nil], .slice 101⟩
theorem tf33 : TFact Tryz.prog 33 ti33 := ⟨⟨Tryz.t33, (match Tryz.t33.zero with | some z => z | none => undef), by kernel_rfl, by kernel_rfl, by kernel_rfl, by kernel_rfl, by kernel_rfl⟩, by kernel_rfl, by kernel_rfl, ⟨Tryz.t33.desc, by kernel_rfl, by kernel_rfl⟩, (by kernel_rfl : Tryz.prog.underlying 33 = some (.slice 101))⟩
/-- struct { Cells int; Locks int; Conds int; Routines [][]impl.Op } -/
abbrev ti34 : TI := ⟨4, true, 48, [.int .i64 0, .int .i64 0, .int .i64 0, .nil], .struct [(0, 3), (1, 3), (2, 3), (3, 33)]⟩
theorem tf34 : TFact Tryz.prog 34 ti34 := ⟨⟨Tryz.t34, (match Tryz.t34.zero with | some z => z | none => undef), by kernel_rfl, by kernel_rfl, by kernel_rfl, by kernel_rfl, by kernel_rfl⟩, by kernel_rfl, by kernel_rfl, ⟨Tryz.t34.desc, by kernel_rfl, by kernel_rfl⟩, ⟨(match Tryz.t34.desc with | .struct F => F | _ => #[]), by kernel_rfl, by kernel_rfl⟩⟩
/-- impl.Prog -/
abbrev ti35 : TI := ⟨4, true, 48, [.int .i64 0, .int .i64 0, .int .i64 0, .nil], .struct [(0, 3), (1, 3), (2, 3), (3, 33)]⟩
theorem tf35 : TFact Tryz.prog 35 ti35 := ⟨⟨Tryz.t35, (match Tryz.t35.zero with | some z => z | none => undef), by kernel_rfl, by kernel_rfl, by kernel_rfl, by kernel_rfl, by kernel_rfl⟩, by kernel_rfl, by kernel_rfl, ⟨Tryz.t34.desc, by kernel_rfl, by kernel_rfl⟩, ⟨(match Tryz.t34.desc with | .struct F => F | _ => #[]), by kernel_rfl, by kernel_rfl⟩⟩
/-- []impl.Pct -/
abbrev ti36 : TI := ⟨1, false, 24, [.nil], .slice 80⟩
theorem tf36 : TFact Tryz.prog 36 ti36 := ⟨⟨Tryz.t36, (match Tryz.t36.zero with | some z => z | none => undef), by kernel_rfl, by kernel_rfl, by kernel_rfl, by kernel_rfl, by kernel_rfl⟩, by kernel_rfl, by kernel_rfl, ⟨Tryz.t36.desc, by kernel_rfl, by kernel_rfl⟩, (by kernel_rfl : Tryz.prog.underlying 36 = some (.slice 80))⟩
/-- []impl.Pair -/
abbrev ti37 : TI := ⟨1, false, 24, [.nil], .slice 87⟩
theorem tf37 : TFact Tryz.prog 37 ti37 := ⟨⟨Tryz.t37, (match Tryz.t37.zero with | some z => z | none => undef), by kernel_rfl, by kernel_rfl, by kernel_rfl, by kernel_rfl, by kernel_rfl⟩, by kernel_rfl, by kernel_rfl, ⟨Tryz.t37.desc, by kernel_rfl, by kernel_rfl⟩, (by kernel_rfl : Tryz.prog.underlying 37 = some (.slice 87))⟩
/-- []impl.Found -/
abbrev ti38 : TI := ⟨1, false, 24, [.nil], .slice 63⟩
theorem tf38 : TFact Tryz.prog 38 ti38 := ⟨⟨Tryz.t38, (match Tryz.t38.zero with | some z => z | none => undef), by kernel_rfl, by kernel_rfl, by kernel_rfl, by kernel_rfl, by kernel_rfl⟩, by kernel_rfl, by kernel_rfl, ⟨Tryz.t38.desc, by kernel_rfl, by kernel_rfl⟩, (by kernel_rfl : Tryz.prog.underlying 38 = some (.slice 63))⟩
/-- struct { Prog impl.Prog; Kept []impl.Pct; Covered []impl.Pair; Finds []impl.Found; Tried int } -/
abbrev ti39 : TI := ⟨8, true, 128, [.int .i64 0, .int .i64 0, .int .i64 0, .nil, .nil, .nil, .nil, .int .i64 0], .struct [(0, 35), (4, 36), (5, 37), (6, 38), (7, 3)]⟩
theorem tf39 : TFact Tryz.prog 39 ti39 := ⟨⟨Tryz.t39, (match Tryz.t39.zero with | some z => z | none => undef), by kernel_rfl, by kernel_rfl, by kernel_rfl, by kernel_rfl, by kernel_rfl⟩, by kernel_rfl, by kernel_rfl, ⟨Tryz.t39.desc, by kernel_rfl, by kernel_rfl⟩, ⟨(match Tryz.t39.desc with | .struct F => F | _ => #[]), by kernel_rfl, by kernel_rfl⟩⟩
/-- impl.Hunt -/
abbrev ti40 : TI := ⟨8, true, 128, [.int .i64 0, .int .i64 0, .int .i64 0, .nil, .nil, .nil, .nil, .int .i64 0], .struct [(0, 35), (4, 36), (5, 37), (6, 38), (7, 3)]⟩
theorem tf40 : TFact Tryz.prog 40 ti40 := ⟨⟨Tryz.t40, (match Tryz.t40.zero with | some z => z | none => undef), by kernel_rfl, by kernel_rfl, by kernel_rfl, by kernel_rfl, by kernel_rfl⟩, by kernel_rfl, by kernel_rfl, ⟨Tryz.t39.desc, by kernel_rfl, by kernel_rfl⟩, ⟨(match Tryz.t39.desc with | .struct F => F | _ => #[]), by kernel_rfl, by kernel_rfl⟩⟩
/-- []int -/
abbrev ti44 : TI := ⟨1, false, 24, [.nil], .slice 3⟩
theorem tf44 : TFact Tryz.prog 44 ti44 := ⟨⟨Tryz.t44, (match Tryz.t44.zero with | some z => z | none => undef), by kernel_rfl, by kernel_rfl, by kernel_rfl, by kernel_rfl, by kernel_rfl⟩, by kernel_rfl, by kernel_rfl, ⟨Tryz.t44.desc, by kernel_rfl, by kernel_rfl⟩, (by kernel_rfl : Tryz.prog.underlying 44 = some (.slice 3))⟩
/-- struct { Sign string; Picks []int } -/
abbrev ti62 : TI := ⟨2, true, 40, [.str [], .nil], .struct [(0, 9), (1, 44)]⟩
theorem tf62 : TFact Tryz.prog 62 ti62 := ⟨⟨Tryz.t62, (match Tryz.t62.zero with | some z => z | none => undef), by kernel_rfl, by kernel_rfl, by kernel_rfl, by kernel_rfl, by kernel_rfl⟩, by kernel_rfl, by kernel_rfl, ⟨Tryz.t62.desc, by kernel_rfl, by kernel_rfl⟩, ⟨(match Tryz.t62.desc with | .struct F => F | _ => #[]), by kernel_rfl, by kernel_rfl⟩⟩
/-- impl.Found -/
abbrev ti63 : TI := ⟨2, true, 40, [.str [], .nil], .struct [(0, 9), (1, 44)]⟩
theorem tf63 : TFact Tryz.prog 63 ti63 := ⟨⟨Tryz.t63, (match Tryz.t63.zero with | some z => z | none => undef), by kernel_rfl, by kernel_rfl, by kernel_rfl, by kernel_rfl, by kernel_rfl⟩, by kernel_rfl, by kernel_rfl, ⟨Tryz.t62.desc, by kernel_rfl, by kernel_rfl⟩, ⟨(match Tryz.t62.desc with | .struct F => F | _ => #[]), by kernel_rfl, by kernel_rfl⟩⟩
/-- struct { Ranks []int; Changes []int } -/
abbrev ti76 : TI := ⟨2, true, 48, [.nil, .nil], .struct [(0, 44), (1, 44)]⟩
theorem tf76 : TFact Tryz.prog 76 ti76 := ⟨⟨Tryz.t76, (match Tryz.t76.zero with | some z => z | none => undef), by kernel_rfl, by kernel_rfl, by kernel_rfl, by kernel_rfl, by kernel_rfl⟩, by kernel_rfl, by kernel_rfl, ⟨Tryz.t76.desc, by kernel_rfl, by kernel_rfl⟩, ⟨(match Tryz.t76.desc with | .struct F => F | _ => #[]), by kernel_rfl, by kernel_rfl⟩⟩
/-- laws.Pct -/
abbrev ti77 : TI := ⟨2, true, 48, [.nil, .nil], .struct [(0, 44), (1, 44)]⟩
theorem tf77 : TFact Tryz.prog 77 ti77 := ⟨⟨Tryz.t77, (match Tryz.t77.zero with | some z => z | none => undef), by kernel_rfl, by kernel_rfl, by kernel_rfl, by kernel_rfl, by kernel_rfl⟩, by kernel_rfl, by kernel_rfl, ⟨Tryz.t76.desc, by kernel_rfl, by kernel_rfl⟩, ⟨(match Tryz.t76.desc with | .struct F => F | _ => #[]), by kernel_rfl, by kernel_rfl⟩⟩
/-- laws.Found -/
abbrev ti79 : TI := ⟨2, true, 40, [.str [], .nil], .struct [(0, 9), (1, 44)]⟩
theorem tf79 : TFact Tryz.prog 79 ti79 := ⟨⟨Tryz.t79, (match Tryz.t79.zero with | some z => z | none => undef), by kernel_rfl, by kernel_rfl, by kernel_rfl, by kernel_rfl, by kernel_rfl⟩, by kernel_rfl, by kernel_rfl, ⟨Tryz.t62.desc, by kernel_rfl, by kernel_rfl⟩, ⟨(match Tryz.t62.desc with | .struct F => F | _ => #[]), by kernel_rfl, by kernel_rfl⟩⟩
/-- impl.Pct -/
abbrev ti80 : TI := ⟨2, true, 48, [.nil, .nil], .struct [(0, 44), (1, 44)]⟩
theorem tf80 : TFact Tryz.prog 80 ti80 := ⟨⟨Tryz.t80, (match Tryz.t80.zero with | some z => z | none => undef), by kernel_rfl, by kernel_rfl, by kernel_rfl, by kernel_rfl, by kernel_rfl⟩, by kernel_rfl, by kernel_rfl, ⟨Tryz.t76.desc, by kernel_rfl, by kernel_rfl⟩, ⟨(match Tryz.t76.desc with | .struct F => F | _ => #[]), by kernel_rfl, by kernel_rfl⟩⟩
/-- struct { Cell int; One int; Two int } -/
abbrev ti86 : TI := ⟨3, true, 24, [.int .i64 0, .int .i64 0, .int .i64 0], .struct [(0, 3), (1, 3), (2, 3)]⟩
theorem tf86 : TFact Tryz.prog 86 ti86 := ⟨⟨Tryz.t86, (match Tryz.t86.zero with | some z => z | none => undef), by kernel_rfl, by kernel_rfl, by kernel_rfl, by kernel_rfl, by kernel_rfl⟩, by kernel_rfl, by kernel_rfl, ⟨Tryz.t86.desc, by kernel_rfl, by kernel_rfl⟩, ⟨(match Tryz.t86.desc with | .struct F => F | _ => #[]), by kernel_rfl, by kernel_rfl⟩⟩
/-- impl.Pair -/
abbrev ti87 : TI := ⟨3, true, 24, [.int .i64 0, .int .i64 0, .int .i64 0], .struct [(0, 3), (1, 3), (2, 3)]⟩
theorem tf87 : TFact Tryz.prog 87 ti87 := ⟨⟨Tryz.t87, (match Tryz.t87.zero with | some z => z | none => undef), by kernel_rfl, by kernel_rfl, by kernel_rfl, by kernel_rfl, by kernel_rfl⟩, by kernel_rfl, by kernel_rfl, ⟨Tryz.t86.desc, by kernel_rfl, by kernel_rfl⟩, ⟨(match Tryz.t86.desc with | .struct F => F | _ => #[]), by kernel_rfl, by kernel_rfl⟩⟩
/-- laws.Pair -/
abbrev ti89 : TI := ⟨3, true, 24, [.int .i64 0, .int .i64 0, .int .i64 0], .struct [(0, 3), (1, 3), (2, 3)]⟩
theorem tf89 : TFact Tryz.prog 89 ti89 := ⟨⟨Tryz.t89, (match Tryz.t89.zero with | some z => z | none => undef), by kernel_rfl, by kernel_rfl, by kernel_rfl, by kernel_rfl, by kernel_rfl⟩, by kernel_rfl, by kernel_rfl, ⟨Tryz.t86.desc, by kernel_rfl, by kernel_rfl⟩, ⟨(match Tryz.t86.desc with | .struct F => F | _ => #[]), by kernel_rfl, by kernel_rfl⟩⟩
/-- []string -/
abbrev ti94 : TI := ⟨1, false, 24, [.nil], .slice 9⟩
theorem tf94 : TFact Tryz.prog 94 ti94 := ⟨⟨Tryz.t94, (match Tryz.t94.zero with | some z => z | none => undef), by kernel_rfl, by kernel_rfl, by kernel_rfl, by kernel_rfl, by kernel_rfl⟩, by kernel_rfl, by kernel_rfl, ⟨Tryz.t94.desc, by kernel_rfl, by kernel_rfl⟩, (by kernel_rfl : Tryz.prog.underlying 94 = some (.slice 9))⟩
/-- []laws.Op -/
abbrev ti100 : TI := ⟨1, false, 24, [.nil], .slice 152⟩
theorem tf100 : TFact Tryz.prog 100 ti100 := ⟨⟨Tryz.t100, (match Tryz.t100.zero with | some z => z | none => undef), by kernel_rfl, by kernel_rfl, by kernel_rfl, by kernel_rfl, by kernel_rfl⟩, by kernel_rfl, by kernel_rfl, ⟨Tryz.t100.desc, by kernel_rfl, by kernel_rfl⟩, (by kernel_rfl : Tryz.prog.underlying 100 = some (.slice 152))⟩
/-- []impl.Op -/
abbrev ti101 : TI := ⟨1, false, 24, [.nil], .slice 104⟩
theorem tf101 : TFact Tryz.prog 101 ti101 := ⟨⟨Tryz.t101, (match Tryz.t101.zero with | some z => z | none => undef), by kernel_rfl, by kernel_rfl, by kernel_rfl, by kernel_rfl, by kernel_rfl⟩, by kernel_rfl, by kernel_rfl, ⟨Tryz.t101.desc, by kernel_rfl, by kernel_rfl⟩, (by kernel_rfl : Tryz.prog.underlying 101 = some (.slice 104))⟩
/-- float64 -/
abbrev ti102 : TI := ⟨1, false, 8, [.flt 0], .flt⟩
theorem tf102 : TFact Tryz.prog 102 ti102 := ⟨⟨Tryz.t102, (match Tryz.t102.zero with | some z => z | none => undef), by kernel_rfl, by kernel_rfl, by kernel_rfl, by kernel_rfl, by kernel_rfl⟩, by kernel_rfl, by kernel_rfl, ⟨Tryz.t102.desc, by kernel_rfl, by kernel_rfl⟩, (by kernel_rfl : Tryz.prog.underlying 102 = some (.float .f64))⟩
/-- struct { Code int; A int; B int; V float64 } -/
abbrev ti103 : TI := ⟨4, true, 32, [.int .i64 0, .int .i64 0, .int .i64 0, .flt 0], .struct [(0, 3), (1, 3), (2, 3), (3, 102)]⟩
theorem tf103 : TFact Tryz.prog 103 ti103 := ⟨⟨Tryz.t103, (match Tryz.t103.zero with | some z => z | none => undef), by kernel_rfl, by kernel_rfl, by kernel_rfl, by kernel_rfl, by kernel_rfl⟩, by kernel_rfl, by kernel_rfl, ⟨Tryz.t103.desc, by kernel_rfl, by kernel_rfl⟩, ⟨(match Tryz.t103.desc with | .struct F => F | _ => #[]), by kernel_rfl, by kernel_rfl⟩⟩
/-- impl.Op -/
abbrev ti104 : TI := ⟨4, true, 32, [.int .i64 0, .int .i64 0, .int .i64 0, .flt 0], .struct [(0, 3), (1, 3), (2, 3), (3, 102)]⟩
theorem tf104 : TFact Tryz.prog 104 ti104 := ⟨⟨Tryz.t104, (match Tryz.t104.zero with | some z => z | none => undef), by kernel_rfl, by kernel_rfl, by kernel_rfl, by kernel_rfl, by kernel_rfl⟩, by kernel_rfl, by kernel_rfl, ⟨Tryz.t103.desc, by kernel_rfl, by kernel_rfl⟩, ⟨(match Tryz.t103.desc with | .struct F => F | _ => #[]), by kernel_rfl, by kernel_rfl⟩⟩
/-- []impl.Event -/
abbrev ti108 : TI := ⟨1, false, 24, [.nil], .slice 142⟩
theorem tf108 : TFact Tryz.prog 108 ti108 := ⟨⟨Tryz.t108, (match Tryz.t108.zero with | some z => z | none => undef), by kernel_rfl, by kernel_rfl, by kernel_rfl, by kernel_rfl, by kernel_rfl⟩, by kernel_rfl, by kernel_rfl, ⟨Tryz.t108.desc, by kernel_rfl, by kernel_rfl⟩, (by kernel_rfl : Tryz.prog.underlying 108 = some (.slice 142))⟩
/-- []impl.Thread -/
abbrev ti109 : TI := ⟨1, false, 24, [.nil], .slice 144⟩
theorem tf109 : TFact Tryz.prog 109 ti109 := ⟨⟨Tryz.t109, (match Tryz.t109.zero with | some z => z | none => undef), by kernel_rfl, by kernel_rfl, by kernel_rfl, by kernel_rfl, by kernel_rfl⟩, by kernel_rfl, by kernel_rfl, ⟨Tryz.t109.desc, by kernel_rfl, by kernel_rfl⟩, (by kernel_rfl : Tryz.prog.underlying 109 = some (.slice 144))⟩
/-- []float64 -/
abbrev ti110 : TI := ⟨1, false, 24, [.nil], .slice 102⟩
theorem tf110 : TFact Tryz.prog 110 ti110 := ⟨⟨Tryz.t110, (match Tryz.t110.zero with | some z => z | none => undef), by kernel_rfl, by kernel_rfl, by kernel_rfl, by kernel_rfl, by kernel_rfl⟩, by kernel_rfl, by kernel_rfl, ⟨Tryz.t110.desc, by kernel_rfl, by kernel_rfl⟩, (by kernel_rfl : Tryz.prog.underlying 110 = some (.slice 102))⟩
/-- struct { Threads []impl.Thread; Cells []float64; Owner []int; Fault int } -/
abbrev ti111 : TI := ⟨4, true, 80, [.nil, .nil, .nil, .int .i64 0], .struct [(0, 109), (1, 110), (2, 44), (3, 3)]⟩
theorem tf111 : TFact Tryz.prog 111 ti111 := ⟨⟨Tryz.t111, (match Tryz.t111.zero with | some z => z | none => undef), by kernel_rfl, by kernel_rfl, by kernel_rfl, by kernel_rfl, by kernel_rfl⟩, by kernel_rfl, by kernel_rfl, ⟨Tryz.t111.desc, by kernel_rfl, by kernel_rfl⟩, ⟨(match Tryz.t111.desc with | .struct F => F | _ => #[]), by kernel_rfl, by kernel_rfl⟩⟩
/-- impl.State -/
abbrev ti112 : TI := ⟨4, true, 80, [.nil, .nil, .nil, .int .i64 0], .struct [(0, 109), (1, 110), (2, 44), (3, 3)]⟩
theorem tf112 : TFact Tryz.prog 112 ti112 := ⟨⟨Tryz.t112, (match Tryz.t112.zero with | some z => z | none => undef), by kernel_rfl, by kernel_rfl, by kernel_rfl, by kernel_rfl, by kernel_rfl⟩, by kernel_rfl, by kernel_rfl, ⟨Tryz.t111.desc, by kernel_rfl, by kernel_rfl⟩, ⟨(match Tryz.t111.desc with | .struct F => F | _ => #[]), by kernel_rfl, by kernel_rfl⟩⟩
/-- struct { Code int; Trace []impl.Event; Picks []int; End impl.State } -/
abbrev ti113 : TI := ⟨7, true, 136, [.int .i64 0, .nil, .nil, .nil, .nil, .nil, .int .i64 0], .struct [(0, 3), (1, 108), (2, 44), (3, 112)]⟩
theorem tf113 : TFact Tryz.prog 113 ti113 := ⟨⟨Tryz.t113, (match Tryz.t113.zero with | some z => z | none => undef), by kernel_rfl, by kernel_rfl, by kernel_rfl, by kernel_rfl, by kernel_rfl⟩, by kernel_rfl, by kernel_rfl, ⟨Tryz.t113.desc, by kernel_rfl, by kernel_rfl⟩, ⟨(match Tryz.t113.desc with | .struct F => F | _ => #[]), by kernel_rfl, by kernel_rfl⟩⟩
/-- impl.Run -/
abbrev ti114 : TI := ⟨7, true, 136, [.int .i64 0, .nil, .nil, .nil, .nil, .nil, .int .i64 0], .struct [(0, 3), (1, 108), (2, 44), (3, 112)]⟩
theorem tf114 : TFact Tryz.prog 114 ti114 := ⟨⟨Tryz.t114, (match Tryz.t114.zero with | some z => z | none => undef), by kernel_rfl, by kernel_rfl, by kernel_rfl, by kernel_rfl, by kernel_rfl⟩, by kernel_rfl, by kernel_rfl, ⟨Tryz.t113.desc, by kernel_rfl, by kernel_rfl⟩, ⟨(match Tryz.t113.desc with | .struct F => F | _ => #[]), by kernel_rfl, by kernel_rfl⟩⟩
/-- []uint8 -/
abbrev ti124 : TI := ⟨1, false, 24, [.nil], .slice 5⟩
theorem tf124 : TFact Tryz.prog 124 ti124 := ⟨⟨Tryz.t124, (match Tryz.t124.zero with | some z => z | none => undef), by kernel_rfl, by kernel_rfl, by kernel_rfl, by kernel_rfl, by kernel_rfl⟩, by kernel_rfl, by kernel_rfl, ⟨Tryz.t124.desc, by kernel_rfl, by kernel_rfl⟩, (by kernel_rfl : Tryz.prog.underlying 124 = some (.slice 5))⟩
/-- struct { Thread int; Kind int; Obj int; Lock int; Pc int } -/
abbrev ti141 : TI := ⟨5, true, 40, [.int .i64 0, .int .i64 0, .int .i64 0, .int .i64 0, .int .i64 0], .struct [(0, 3), (1, 3), (2, 3), (3, 3), (4, 3)]⟩
theorem tf141 : TFact Tryz.prog 141 ti141 := ⟨⟨Tryz.t141, (match Tryz.t141.zero with | some z => z | none => undef), by kernel_rfl, by kernel_rfl, by kernel_rfl, by kernel_rfl, by kernel_rfl⟩, by kernel_rfl, by kernel_rfl, ⟨Tryz.t141.desc, by kernel_rfl, by kernel_rfl⟩, ⟨(match Tryz.t141.desc with | .struct F => F | _ => #[]), by kernel_rfl, by kernel_rfl⟩⟩
/-- impl.Event -/
abbrev ti142 : TI := ⟨5, true, 40, [.int .i64 0, .int .i64 0, .int .i64 0, .int .i64 0, .int .i64 0], .struct [(0, 3), (1, 3), (2, 3), (3, 3), (4, 3)]⟩
theorem tf142 : TFact Tryz.prog 142 ti142 := ⟨⟨Tryz.t142, (match Tryz.t142.zero with | some z => z | none => undef), by kernel_rfl, by kernel_rfl, by kernel_rfl, by kernel_rfl, by kernel_rfl⟩, by kernel_rfl, by kernel_rfl, ⟨Tryz.t141.desc, by kernel_rfl, by kernel_rfl⟩, ⟨(match Tryz.t141.desc with | .struct F => F | _ => #[]), by kernel_rfl, by kernel_rfl⟩⟩
/-- struct { Routine int; Pc int; State int; Cond int; Lock int; Stack []float64 } -/
abbrev ti143 : TI := ⟨6, true, 64, [.int .i64 0, .int .i64 0, .int .i64 0, .int .i64 0, .int .i64 0, .nil], .struct [(0, 3), (1, 3), (2, 3), (3, 3), (4, 3), (5, 110)]⟩
theorem tf143 : TFact Tryz.prog 143 ti143 := ⟨⟨Tryz.t143, (match Tryz.t143.zero with | some z => z | none => undef), by kernel_rfl, by kernel_rfl, by kernel_rfl, by kernel_rfl, by kernel_rfl⟩, by kernel_rfl, by kernel_rfl, ⟨Tryz.t143.desc, by kernel_rfl, by kernel_rfl⟩, ⟨(match Tryz.t143.desc with | .struct F => F | _ => #[]), by kernel_rfl, by kernel_rfl⟩⟩
/-- impl.Thread -/
abbrev ti144 : TI := ⟨6, true, 64, [.int .i64 0, .int .i64 0, .int .i64 0, .int .i64 0, .int .i64 0, .nil], .struct [(0, 3), (1, 3), (2, 3), (3, 3), (4, 3), (5, 110)]⟩
theorem tf144 : TFact Tryz.prog 144 ti144 := ⟨⟨Tryz.t144, (match Tryz.t144.zero with | some z => z | none => undef), by kernel_rfl, by kernel_rfl, by kernel_rfl, by kernel_rfl, by kernel_rfl⟩, by kernel_rfl, by kernel_rfl, ⟨Tryz.t143.desc, by kernel_rfl, by kernel_rfl⟩, ⟨(match Tryz.t143.desc with | .struct F => F | _ => #[]), by kernel_rfl, by kernel_rfl⟩⟩
/-- laws.Op -/
abbrev ti152 : TI := ⟨4, true, 32, [.int .i64 0, .int .i64 0, .int .i64 0, .flt 0], .struct [(0, 3), (1, 3), (2, 3), (3, 102)]⟩
theorem tf152 : TFact Tryz.prog 152 ti152 := ⟨⟨Tryz.t152, (match Tryz.t152.zero with | some z => z | none => undef), by kernel_rfl, by kernel_rfl, by kernel_rfl, by kernel_rfl, by kernel_rfl⟩, by kernel_rfl, by kernel_rfl, ⟨Tryz.t103.desc, by kernel_rfl, by kernel_rfl⟩, ⟨(match Tryz.t103.desc with | .struct F => F | _ => #[]), by kernel_rfl, by kernel_rfl⟩⟩
/-- [][]int -/
abbrev ti156 : TI := ⟨1, false, 24, [.nil], .slice 44⟩
theorem tf156 : TFact Tryz.prog 156 ti156 := ⟨⟨Tryz.t156, (match Tryz.t156.zero with | some z => z | none => undef), by kernel_rfl, by kernel_rfl, by kernel_rfl, by kernel_rfl, by kernel_rfl⟩, by kernel_rfl, by kernel_rfl, ⟨Tryz.t156.desc, by kernel_rfl, by kernel_rfl⟩, (by kernel_rfl : Tryz.prog.underlying 156 = some (.slice 44))⟩
/-- uint64 -/
abbrev ti167 : TI := ⟨1, false, 8, [.int .u64 0], .int .u64⟩
theorem tf167 : TFact Tryz.prog 167 ti167 := ⟨⟨Tryz.t167, (match Tryz.t167.zero with | some z => z | none => undef), by kernel_rfl, by kernel_rfl, by kernel_rfl, by kernel_rfl, by kernel_rfl⟩, by kernel_rfl, by kernel_rfl, ⟨Tryz.t167.desc, by kernel_rfl, by kernel_rfl⟩, (by kernel_rfl : Tryz.prog.underlying 167 = some (.int .u64))⟩
/-- uint -/
abbrev ti197 : TI := ⟨1, false, 8, [.int .u64 0], .int .u64⟩
theorem tf197 : TFact Tryz.prog 197 ti197 := ⟨⟨Tryz.t197, (match Tryz.t197.zero with | some z => z | none => undef), by kernel_rfl, by kernel_rfl, by kernel_rfl, by kernel_rfl, by kernel_rfl⟩, by kernel_rfl, by kernel_rfl, ⟨Tryz.t197.desc, by kernel_rfl, by kernel_rfl⟩, (by kernel_rfl : Tryz.prog.underlying 197 = some (.int .u64))⟩
/-- uint32 -/
abbrev ti201 : TI := ⟨1, false, 4, [.int .u32 0], .int .u32⟩
theorem tf201 : TFact Tryz.prog 201 ti201 := ⟨⟨Tryz.t201, (match Tryz.t201.zero with | some z => z | none => undef), by kernel_rfl, by kernel_rfl, by kernel_rfl, by kernel_rfl, by kernel_rfl⟩, by kernel_rfl, by kernel_rfl, ⟨Tryz.t201.desc, by kernel_rfl, by kernel_rfl⟩, (by kernel_rfl : Tryz.prog.underlying 201 = some (.int .u32))⟩
/-- slices.sortedHint -/
abbrev ti225 : TI := ⟨1, false, 8, [.int .i64 0], .int .i64⟩
theorem tf225 : TFact Tryz.prog 225 ti225 := ⟨⟨Tryz.t225, (match Tryz.t225.zero with | some z => z | none => undef), by kernel_rfl, by kernel_rfl, by kernel_rfl, by kernel_rfl, by kernel_rfl⟩, by kernel_rfl, by kernel_rfl, ⟨Tryz.t3.desc, by kernel_rfl, by kernel_rfl⟩, (by kernel_rfl : Tryz.prog.underlying 225 = some (.int .i64))⟩
/-- slices.xorshift -/
abbrev ti236 : TI := ⟨1, false, 8, [.int .u64 0], .int .u64⟩
theorem tf236 : TFact Tryz.prog 236 ti236 := ⟨⟨Tryz.t236, (match Tryz.t236.zero with | some z => z | none => undef), by kernel_rfl, by kernel_rfl, by kernel_rfl, by kernel_rfl, by kernel_rfl⟩, by kernel_rfl, by kernel_rfl, ⟨Tryz.t167.desc, by kernel_rfl, by kernel_rfl⟩, (by kernel_rfl : Tryz.prog.underlying 236 = some (.int .u64))⟩
/-- [0]*runtime.PanicNilError -/
abbrev ti254 : TI := ⟨0, true, 0, [], .array 0 16⟩
theorem tf254 : TFact Tryz.prog 254 ti254 := ⟨⟨Tryz.t254, (match Tryz.t254.zero with | some z => z | none => undef), by kernel_rfl, by kernel_rfl, by kernel_rfl, by kernel_rfl, by kernel_rfl⟩, by kernel_rfl, by kernel_rfl, ⟨Tryz.t254.desc, by kernel_rfl, by kernel_rfl⟩, (by kernel_rfl : Tryz.prog.underlying 254 = some (.array 0 16))⟩
/-- struct { _ [0]*runtime.PanicNilError } -/
abbrev ti255 : TI := ⟨0, true, 0, [], .struct [(0, 254)]⟩
theorem tf255 : TFact Tryz.prog 255 ti255 := ⟨⟨Tryz.t255, (match Tryz.t255.zero with | some z => z | none => undef), by kernel_rfl, by kernel_rfl, by kernel_rfl, by kernel_rfl, by kernel_rfl⟩, by kernel_rfl, by kernel_rfl, ⟨Tryz.t255.desc, by kernel_rfl, by kernel_rfl⟩, ⟨(match Tryz.t255.desc with | .struct F => F | _ => #[]), by kernel_rfl, by kernel_rfl⟩⟩
/-- runtime.PanicNilError -/
abbrev ti256 : TI := ⟨0, true, 0, [], .struct [(0, 254)]⟩
theorem tf256 : TFact Tryz.prog 256 ti256 := ⟨⟨Tryz.t256, (match Tryz.t256.zero with | some z => z | none => undef), by kernel_rfl, by kernel_rfl, by kernel_rfl, by kernel_rfl, by kernel_rfl⟩, by kernel_rfl, by kernel_rfl, ⟨Tryz.t255.desc, by kernel_rfl, by kernel_rfl⟩, ⟨(match Tryz.t255.desc with | .struct F => F | _ => #[]), by kernel_rfl, by kernel_rfl⟩⟩
/-- abi.TFlag -/
abbrev ti257 : TI := ⟨1, false, 1, [.int .u8 0], .int .u8⟩
theorem tf257 : TFact Tryz.prog 257 ti257 := ⟨⟨Tryz.t257, (match Tryz.t257.zero with | some z => z | none => undef), by kernel_rfl, by kernel_rfl, by kernel_rfl, by kernel_rfl, by kernel_rfl⟩, by kernel_rfl, by kernel_rfl, ⟨Tryz.t5.desc, by kernel_rfl, by kernel_rfl⟩, (by kernel_rfl : Tryz.prog.underlying 257 = some (.int .u8))⟩
/-- abi.Kind -/
abbrev ti258 : TI := ⟨1, false, 1, [.int .u8 0], .int .u8⟩
theorem tf258 : TFact Tryz.prog 258 ti258 := ⟨⟨Tryz.t258, (match Tryz.t258.zero with | some z => z | none => undef), by kernel_rfl, by kernel_rfl, by kernel_rfl, by kernel_rfl, by kernel_rfl⟩, by kernel_rfl, by kernel_rfl, ⟨Tryz.t5.desc, by kernel_rfl, by kernel_rfl⟩, (by kernel_rfl : Tryz.prog.underlying 258 = some (.int .u8))⟩
/-- abi.NameOff -/
abbrev ti260 : TI := ⟨1, false, 4, [.int .i32 0], .int .i32⟩
theorem tf260 : TFact Tryz.prog 260 ti260 := ⟨⟨Tryz.t260, (match Tryz.t260.zero with | some z => z | none => undef), by kernel_rfl, by kernel_rfl, by kernel_rfl, by kernel_rfl, by kernel_rfl⟩, by kernel_rfl, by kernel_rfl, ⟨Tryz.t21.desc, by kernel_rfl, by kernel_rfl⟩, (by kernel_rfl : Tryz.prog.underlying 260 = some (.int .i32))⟩
/-- abi.TypeOff -/
abbrev ti261 : TI := ⟨1, false, 4, [.int .i32 0], .int .i32⟩
theorem tf261 : TFact Tryz.prog 261 ti261 := ⟨⟨Tryz.t261, (match Tryz.t261.zero with | some z => z | none => undef), by kernel_rfl, by kernel_rfl, by kernel_rfl, by kernel_rfl, by kernel_rfl⟩, by kernel_rfl, by kernel_rfl, ⟨Tryz.t21.desc, by kernel_rfl, by kernel_rfl⟩, (by kernel_rfl : Tryz.prog.underlying 261 = some (.int .i32))⟩
inductive TT where | leaf | node (k : Nat) (v : TI) (l r : TT)
def TT.get (t : Nat) : TT → Option TI
  | .leaf => none
  | .node k v l r => bif Nat.beq t k then some v else bif Nat.blt t k then l.get t else r.get t
inductive TT.All (p : Nat → TI → Prop) : TT → Prop where
  | leaf : TT.All p .leaf
  | node (k v l r) (h : p k v) (hl : TT.All p l) (hr : TT.All p r) : TT.All p (.node k v l r)
theorem TT.get_all {p : Nat → TI → Prop} {t : Nat} {v : TI} {T : TT} (h : TT.All p T) : T.get t = some v → p t v := by
  induction h with
  | leaf => intro h; cases h
  | node k w l r h hl hr ihl ihr =>
    intro hg
    simp only [TT.get] at hg
    cases hb : Nat.beq t k with
    | true => rw [hb] at hg; simp only [cond_true, Option.some.injEq] at hg; subst hg; rw [Nat.eq_of_beq_eq_true hb]; exact h
    | false =>
      rw [hb] at hg
      simp only [cond_false] at hg
      cases hc : Nat.blt t k with
      | true => rw [hc] at hg; exact ihl hg
      | false => rw [hc] at hg; exact ihr hg
def tyT : TT := (.node 80 ti80 (.node 26 ti26 (.node 11 ti11 (.node 6 ti6 (.node 4 ti4 (.node 3 ti3 (.node 2 ti2 .leaf .leaf) .leaf) (.node 5 ti5 .leaf .leaf)) (.node 9 ti9 (.node 8 ti8 (.node 7 ti7 .leaf .leaf) .leaf) (.node 10 ti10 .leaf .leaf))) (.node 22 ti22 (.node 14 ti14 (.node 13 ti13 (.node 12 ti12 .leaf .leaf) .leaf) (.node 21 ti21 .leaf .leaf)) (.node 24 ti24 (.node 23 ti23 .leaf .leaf) (.node 25 ti25 .leaf .leaf)))) (.node 38 ti38 (.node 34 ti34 (.node 29 ti29 (.node 28 ti28 (.node 27 ti27 .leaf .leaf) .leaf) (.node 33 ti33 .leaf .leaf)) (.node 36 ti36 (.node 35 ti35 .leaf .leaf) (.node 37 ti37 .leaf .leaf))) (.node 63 ti63 (.node 44 ti44 (.node 40 ti40 (.node 39 ti39 .leaf .leaf) .leaf) (.node 62 ti62 .leaf .leaf)) (.node 77 ti77 (.node 76 ti76 .leaf .leaf) (.node 79 ti79 .leaf .leaf))))) (.node 141 ti141 (.node 104 ti104 (.node 100 ti100 (.node 89 ti89 (.node 87 ti87 (.node 86 ti86 .leaf .leaf) .leaf) (.node 94 ti94 .leaf .leaf)) (.node 102 ti102 (.node 101 ti101 .leaf .leaf) (.node 103 ti103 .leaf .leaf))) (.node 112 ti112 (.node 110 ti110 (.node 109 ti109 (.node 108 ti108 .leaf .leaf) .leaf) (.node 111 ti111 .leaf .leaf)) (.node 114 ti114 (.node 113 ti113 .leaf .leaf) (.node 124 ti124 .leaf .leaf)))) (.node 225 ti225 (.node 156 ti156 (.node 144 ti144 (.node 143 ti143 (.node 142 ti142 .leaf .leaf) .leaf) (.node 152 ti152 .leaf .leaf)) (.node 197 ti197 (.node 167 ti167 .leaf .leaf) (.node 201 ti201 .leaf .leaf))) (.node 257 ti257 (.node 255 ti255 (.node 254 ti254 (.node 236 ti236 .leaf .leaf) .leaf) (.node 256 ti256 .leaf .leaf)) (.node 260 ti260 (.node 258 ti258 .leaf .leaf) (.node 261 ti261 .leaf .leaf))))))
def tyF (t : TypeId) : Option TI := tyT.get t
theorem tyF_ok (t : TypeId) (ti : TI) (h : tyF t = some ti) : TFact Tryz.prog t ti := TT.get_all (p := TFact Tryz.prog) (T := tyT) (.node _ _ _ _ tf80 (.node _ _ _ _ tf26 (.node _ _ _ _ tf11 (.node _ _ _ _ tf6 (.node _ _ _ _ tf4 (.node _ _ _ _ tf3 (.node _ _ _ _ tf2 .leaf .leaf) .leaf) (.node _ _ _ _ tf5 .leaf .leaf)) (.node _ _ _ _ tf9 (.node _ _ _ _ tf8 (.node _ _ _ _ tf7 .leaf .leaf) .leaf) (.node _ _ _ _ tf10 .leaf .leaf))) (.node _ _ _ _ tf22 (.node _ _ _ _ tf14 (.node _ _ _ _ tf13 (.node _ _ _ _ tf12 .leaf .leaf) .leaf) (.node _ _ _ _ tf21 .leaf .leaf)) (.node _ _ _ _ tf24 (.node _ _ _ _ tf23 .leaf .leaf) (.node _ _ _ _ tf25 .leaf .leaf)))) (.node _ _ _ _ tf38 (.node _ _ _ _ tf34 (.node _ _ _ _ tf29 (.node _ _ _ _ tf28 (.node _ _ _ _ tf27 .leaf .leaf) .leaf) (.node _ _ _ _ tf33 .leaf .leaf)) (.node _ _ _ _ tf36 (.node _ _ _ _ tf35 .leaf .leaf) (.node _ _ _ _ tf37 .leaf .leaf))) (.node _ _ _ _ tf63 (.node _ _ _ _ tf44 (.node _ _ _ _ tf40 (.node _ _ _ _ tf39 .leaf .leaf) .leaf) (.node _ _ _ _ tf62 .leaf .leaf)) (.node _ _ _ _ tf77 (.node _ _ _ _ tf76 .leaf .leaf) (.node _ _ _ _ tf79 .leaf .leaf))))) (.node _ _ _ _ tf141 (.node _ _ _ _ tf104 (.node _ _ _ _ tf100 (.node _ _ _ _ tf89 (.node _ _ _ _ tf87 (.node _ _ _ _ tf86 .leaf .leaf) .leaf) (.node _ _ _ _ tf94 .leaf .leaf)) (.node _ _ _ _ tf102 (.node _ _ _ _ tf101 .leaf .leaf) (.node _ _ _ _ tf103 .leaf .leaf))) (.node _ _ _ _ tf112 (.node _ _ _ _ tf110 (.node _ _ _ _ tf109 (.node _ _ _ _ tf108 .leaf .leaf) .leaf) (.node _ _ _ _ tf111 .leaf .leaf)) (.node _ _ _ _ tf114 (.node _ _ _ _ tf113 .leaf .leaf) (.node _ _ _ _ tf124 .leaf .leaf)))) (.node _ _ _ _ tf225 (.node _ _ _ _ tf156 (.node _ _ _ _ tf144 (.node _ _ _ _ tf143 (.node _ _ _ _ tf142 .leaf .leaf) .leaf) (.node _ _ _ _ tf152 .leaf .leaf)) (.node _ _ _ _ tf197 (.node _ _ _ _ tf167 .leaf .leaf) (.node _ _ _ _ tf201 .leaf .leaf))) (.node _ _ _ _ tf257 (.node _ _ _ _ tf255 (.node _ _ _ _ tf254 (.node _ _ _ _ tf236 .leaf .leaf) .leaf) (.node _ _ _ _ tf256 .leaf .leaf)) (.node _ _ _ _ tf260 (.node _ _ _ _ tf258 .leaf .leaf) (.node _ _ _ _ tf261 .leaf .leaf)))))) h
end Ai
