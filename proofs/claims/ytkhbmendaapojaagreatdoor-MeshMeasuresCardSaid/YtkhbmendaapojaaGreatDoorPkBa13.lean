/- The types of this seat's program, its environment. Printed by a program. A value that says more serves for one that says less: rows by what they hold, nil for an empty row. Numbers by their digits: places, sums, differences. Numbers by their digits: comparing, products, quotients by one digit. Decimal texts. The environment of this seat's walks: which functions are walked through where they are called. Points: minus, cross, dot, far. -/
import Derived.Test.YtkhbmendaapojaaGreatDoorPkBa11
import Derived.Test.YtkhbmendaapojaaGreatDoorRows
import Derived.Test.YtkhbmendaapojaaGreatDoorPkBa12
set_option linter.unusedSimpArgs false
set_option linter.unusedVariables false
/- The types of this seat's program, its environment. Printed by a program. -/
namespace Go.Proofs.YtkhbmendaapojaaGreatDoor
open Go Go.Vx
set_option maxRecDepth 100000
def Tryz.tabL : List TyI := [
  ⟨.other, 0, 0, [], false⟩,
  ⟨.func, 1, 8, [.nilFunc], false⟩,
  ⟨.int .i64, 1, 8, [.int .i64 0], false⟩,
  ⟨.int .i64, 1, 8, [.int .i64 0], false⟩,
  ⟨.bool, 1, 1, [.bool false], false⟩,
  ⟨.int .u8, 1, 1, [.int .u8 0], false⟩,
  ⟨.int .u8, 1, 1, [.int .u8 0], false⟩,
  ⟨.struct [(0, 2), (1, 3), (2, 4), (3, 6)], 4, 24, [.int .i64 0, .int .i64 0, .bool false, .int .u8 0], false⟩,
  ⟨.struct [(0, 2), (1, 3), (2, 4), (3, 6)], 4, 24, [.int .i64 0, .int .i64 0, .bool false, .int .u8 0], false⟩,
  ⟨.str, 1, 16, [.str []], false⟩,
  ⟨.str, 1, 16, [.str []], false⟩,
  ⟨.str, 1, 16, [.str []], false⟩,
  ⟨.int .u64, 1, 8, [.int .u64 0], false⟩,
  ⟨.struct [(0, 9), (1, 12)], 2, 24, [.str [], .int .u64 0], false⟩,
  ⟨.struct [(0, 9), (1, 12)], 2, 24, [.str [], .int .u64 0], false⟩,
  ⟨.ptr 200, 1, 8, [.nilPtr], false⟩,
  ⟨.ptr 203, 1, 8, [.nilPtr], false⟩,
  ⟨.ptr 210, 1, 8, [.nilPtr], false⟩,
  ⟨.struct [(0, 17)], 1, 8, [.nilPtr], false⟩,
  ⟨.struct [(0, 17)], 1, 8, [.nilPtr], false⟩,
  ⟨.iface, 1, 16, [.nilIface], false⟩,
  ⟨.int .i32, 1, 4, [.int .i32 0], false⟩,
  ⟨.slice 41, 1, 24, [.nilSl], false⟩,
  ⟨.struct [(0, 22), (1, 22)], 2, 48, [.nilSl, .nilSl], false⟩,
  ⟨.struct [(0, 22), (1, 22)], 2, 48, [.nilSl, .nilSl], false⟩,
  ⟨.int .i16, 1, 2, [.int .i16 0], false⟩,
  ⟨.array 3 25, 3, 6, [.int .i16 0, .int .i16 0, .int .i16 0], true⟩,
  ⟨.slice 94, 1, 24, [.nilSl], false⟩,
  ⟨.struct [(0, 5), (1, 5), (2, 26), (5, 27), (6, 4)], 7, 40, [.int .u8 0, .int .u8 0, .int .i16 0, .int .i16 0, .int .i16 0, .nilSl, .bool false], false⟩,
  ⟨.struct [(0, 5), (1, 5), (2, 26), (5, 27), (6, 4)], 7, 40, [.int .u8 0, .int .u8 0, .int .i16 0, .int .i16 0, .int .i16 0, .nilSl, .bool false], false⟩,
  ⟨.struct [(0, 5), (1, 5), (2, 5), (3, 3)], 4, 16, [.int .u8 0, .int .u8 0, .int .u8 0, .int .i64 0], true⟩,
  ⟨.struct [(0, 5), (1, 5), (2, 5), (3, 3)], 4, 16, [.int .u8 0, .int .u8 0, .int .u8 0, .int .i64 0], true⟩,
  ⟨.array 2 31, 8, 32, [.int .u8 0, .int .u8 0, .int .u8 0, .int .i64 0, .int .u8 0, .int .u8 0, .int .u8 0, .int .i64 0], true⟩,
  ⟨.array 4 24, 8, 192, [.nilSl, .nilSl, .nilSl, .nilSl, .nilSl, .nilSl, .nilSl, .nilSl], false⟩,
  ⟨.func, 1, 8, [.nilFunc], false⟩,
  ⟨.str, 1, 16, [.str []], false⟩,
  ⟨.int .i64, 1, 8, [.int .i64 0], false⟩,
  ⟨.other, 0, 0, [], false⟩,
  ⟨.func, 1, 8, [.nilFunc], false⟩,
  ⟨.other, 0, 0, [], false⟩,
  ⟨.func, 1, 8, [.nilFunc], false⟩,
  ⟨.array 3 3, 3, 24, [.int .i64 0, .int .i64 0, .int .i64 0], true⟩,
  ⟨.other, 0, 0, [], false⟩,
  ⟨.func, 1, 8, [.nilFunc], false⟩,
  ⟨.func, 1, 8, [.nilFunc], false⟩,
  ⟨.func, 1, 8, [.nilFunc], false⟩,
  ⟨.other, 0, 0, [], false⟩,
  ⟨.func, 1, 8, [.nilFunc], false⟩,
  ⟨.func, 1, 8, [.nilFunc], false⟩,
  ⟨.array 2 41, 6, 48, [.int .i64 0, .int .i64 0, .int .i64 0, .int .i64 0, .int .i64 0, .int .i64 0], true⟩,
  ⟨.func, 1, 8, [.nilFunc], false⟩,
  ⟨.func, 1, 8, [.nilFunc], false⟩,
  ⟨.func, 1, 8, [.nilFunc], false⟩,
  ⟨.map 54 3, 1, 8, [.nilMap], false⟩,
  ⟨.array 2 3, 2, 16, [.int .i64 0, .int .i64 0], true⟩,
  ⟨.func, 1, 8, [.nilFunc], false⟩,
  ⟨.func, 1, 8, [.nilFunc], false⟩,
  ⟨.func, 1, 8, [.nilFunc], false⟩,
  ⟨.array 3 21, 3, 12, [.int .i32 0, .int .i32 0, .int .i32 0], true⟩,
  ⟨.array 4 58, 12, 48, [.int .i32 0, .int .i32 0, .int .i32 0, .int .i32 0, .int .i32 0, .int .i32 0, .int .i32 0, .int .i32 0, .int .i32 0, .int .i32 0, .int .i32 0, .int .i32 0], true⟩,
  ⟨.func, 1, 8, [.nilFunc], false⟩,
  ⟨.func, 1, 8, [.nilFunc], false⟩,
  ⟨.func, 1, 8, [.nilFunc], false⟩,
  ⟨.func, 1, 8, [.nilFunc], false⟩,
  ⟨.other, 0, 0, [], false⟩,
  ⟨.func, 1, 8, [.nilFunc], false⟩,
  ⟨.func, 1, 8, [.nilFunc], false⟩,
  ⟨.iface, 1, 16, [.nilIface], false⟩,
  ⟨.iface, 1, 16, [.nilIface], false⟩,
  ⟨.other, 0, 0, [], false⟩,
  ⟨.func, 1, 8, [.nilFunc], false⟩,
  ⟨.func, 1, 8, [.nilFunc], false⟩,
  ⟨.ptr 74, 1, 8, [.nilPtr], false⟩,
  ⟨.struct [(0, 24), (2, 53)], 3, 56, [.nilSl, .nilSl, .nilMap], false⟩,
  ⟨.struct [(0, 24), (2, 53)], 3, 56, [.nilSl, .nilSl, .nilMap], false⟩,
  ⟨.func, 1, 8, [.nilFunc], false⟩,
  ⟨.func, 1, 8, [.nilFunc], false⟩,
  ⟨.func, 1, 8, [.nilFunc], false⟩,
  ⟨.func, 1, 8, [.nilFunc], false⟩,
  ⟨.array 3 3, 3, 24, [.int .i64 0, .int .i64 0, .int .i64 0], true⟩,
  ⟨.other, 0, 0, [], false⟩,
  ⟨.func, 1, 8, [.nilFunc], false⟩,
  ⟨.func, 1, 8, [.nilFunc], false⟩,
  ⟨.func, 1, 8, [.nilFunc], false⟩,
  ⟨.func, 1, 8, [.nilFunc], false⟩,
  ⟨.func, 1, 8, [.nilFunc], false⟩,
  ⟨.ptr 41, 1, 8, [.nilPtr], false⟩,
  ⟨.func, 1, 8, [.nilFunc], false⟩,
  ⟨.func, 1, 8, [.nilFunc], false⟩,
  ⟨.slice 3, 1, 24, [.nilSl], false⟩,
  ⟨.func, 1, 8, [.nilFunc], false⟩,
  ⟨.func, 1, 8, [.nilFunc], false⟩,
  ⟨.other, 0, 0, [], false⟩,
  ⟨.func, 1, 8, [.nilFunc], false⟩,
  ⟨.int .i8, 1, 1, [.int .i8 0], false⟩,
  ⟨.func, 1, 8, [.nilFunc], false⟩,
  ⟨.slice 4, 1, 24, [.nilSl], false⟩,
  ⟨.func, 1, 8, [.nilFunc], false⟩,
  ⟨.func, 1, 8, [.nilFunc], false⟩,
  ⟨.func, 1, 8, [.nilFunc], false⟩,
  ⟨.func, 1, 8, [.nilFunc], false⟩,
  ⟨.other, 0, 0, [], false⟩,
  ⟨.func, 1, 8, [.nilFunc], false⟩,
  ⟨.slice 133, 1, 24, [.nilSl], false⟩,
  ⟨.slice 133, 1, 24, [.nilSl], false⟩,
  ⟨.struct [(0, 4), (1, 104)], 2, 32, [.bool false, .nilSl], false⟩,
  ⟨.struct [(0, 4), (1, 104)], 2, 32, [.bool false, .nilSl], false⟩,
  ⟨.func, 1, 8, [.nilFunc], false⟩,
  ⟨.func, 1, 8, [.nilFunc], false⟩,
  ⟨.func, 1, 8, [.nilFunc], false⟩,
  ⟨.func, 1, 8, [.nilFunc], false⟩,
  ⟨.struct [(0, 110)], 1, 8, [.nilFunc], false⟩,
  ⟨.struct [(0, 110)], 1, 8, [.nilFunc], false⟩,
  ⟨.array 3 112, 3, 24, [.nilFunc, .nilFunc, .nilFunc], false⟩,
  ⟨.func, 1, 8, [.nilFunc], false⟩,
  ⟨.func, 1, 8, [.nilFunc], false⟩,
  ⟨.struct [(0, 4), (1, 89)], 2, 32, [.bool false, .nilSl], false⟩,
  ⟨.struct [(0, 4), (1, 89)], 2, 32, [.bool false, .nilSl], false⟩,
  ⟨.func, 1, 8, [.nilFunc], false⟩,
  ⟨.func, 1, 8, [.nilFunc], false⟩,
  ⟨.func, 1, 8, [.nilFunc], false⟩,
  ⟨.func, 1, 8, [.nilFunc], false⟩,
  ⟨.func, 1, 8, [.nilFunc], false⟩,
  ⟨.func, 1, 8, [.nilFunc], false⟩,
  ⟨.func, 1, 8, [.nilFunc], false⟩,
  ⟨.int .i64, 1, 8, [.int .i64 0], false⟩,
  ⟨.slice 5, 1, 24, [.nilSl], false⟩,
  ⟨.other, 0, 0, [], false⟩,
  ⟨.func, 1, 8, [.nilFunc], false⟩,
  ⟨.ptr 161, 1, 8, [.nilPtr], false⟩,
  ⟨.func, 1, 8, [.nilFunc], false⟩,
  ⟨.func, 1, 8, [.nilFunc], false⟩,
  ⟨.func, 1, 8, [.nilFunc], false⟩,
  ⟨.int .u64, 1, 8, [.int .u64 0], false⟩,
  ⟨.func, 1, 8, [.nilFunc], false⟩,
  ⟨.func, 1, 8, [.nilFunc], false⟩,
  ⟨.ptr 138, 1, 8, [.nilPtr], false⟩,
  ⟨.struct [(0, 136), (1, 126)], 2, 32, [.nilPtr, .nilSl], false⟩,
  ⟨.struct [(0, 136), (1, 126)], 2, 32, [.nilPtr, .nilSl], false⟩,
  ⟨.func, 1, 8, [.nilFunc], false⟩,
  ⟨.func, 1, 8, [.nilFunc], false⟩,
  ⟨.func, 1, 8, [.nilFunc], false⟩,
  ⟨.func, 1, 8, [.nilFunc], false⟩,
  ⟨.func, 1, 8, [.nilFunc], false⟩,
  ⟨.func, 1, 8, [.nilFunc], false⟩,
  ⟨.func, 1, 8, [.nilFunc], false⟩,
  ⟨.func, 1, 8, [.nilFunc], false⟩,
  ⟨.func, 1, 8, [.nilFunc], false⟩,
  ⟨.func, 1, 8, [.nilFunc], false⟩,
  ⟨.func, 1, 8, [.nilFunc], false⟩,
  ⟨.func, 1, 8, [.nilFunc], false⟩,
  ⟨.array 24 5, 24, 24, [.int .u8 0, .int .u8 0, .int .u8 0, .int .u8 0, .int .u8 0, .int .u8 0, .int .u8 0, .int .u8 0, .int .u8 0, .int .u8 0, .int .u8 0, .int .u8 0, .int .u8 0, .int .u8 0, .int .u8 0, .int .u8 0, .int .u8 0, .int .u8 0, .int .u8 0, .int .u8 0, .int .u8 0, .int .u8 0, .int .u8 0, .int .u8 0], true⟩,
  ⟨.func, 1, 8, [.nilFunc], false⟩,
  ⟨.func, 1, 8, [.nilFunc], false⟩,
  ⟨.other, 0, 0, [], false⟩,
  ⟨.func, 1, 8, [.nilFunc], false⟩,
  ⟨.other, 0, 0, [], false⟩,
  ⟨.func, 1, 8, [.nilFunc], false⟩,
  ⟨.int .u64, 1, 8, [.int .u64 0], false⟩,
  ⟨.func, 1, 8, [.nilFunc], false⟩,
  ⟨.struct [(0, 9), (1, 9), (2, 68)], 3, 48, [.str [], .str [], .nilIface], false⟩,
  ⟨.struct [(0, 9), (1, 9), (2, 68)], 3, 48, [.str [], .str [], .nilIface], false⟩,
  ⟨.func, 1, 8, [.nilFunc], false⟩,
  ⟨.other, 0, 0, [], false⟩,
  ⟨.func, 1, 8, [.nilFunc], false⟩,
  ⟨.func, 1, 8, [.nilFunc], false⟩,
  ⟨.func, 1, 8, [.nilFunc], false⟩,
  ⟨.ptr 5, 1, 8, [.nilPtr], false⟩,
  ⟨.func, 1, 8, [.nilFunc], false⟩,
  ⟨.func, 1, 8, [.nilFunc], false⟩,
  ⟨.func, 1, 8, [.nilFunc], false⟩,
  ⟨.func, 1, 8, [.nilFunc], false⟩,
  ⟨.func, 1, 8, [.nilFunc], false⟩,
  ⟨.func, 1, 8, [.nilFunc], false⟩,
  ⟨.func, 1, 8, [.nilFunc], false⟩,
  ⟨.func, 1, 8, [.nilFunc], false⟩,
  ⟨.func, 1, 8, [.nilFunc], false⟩,
  ⟨.array 20 133, 20, 160, [.int .u64 0, .int .u64 0, .int .u64 0, .int .u64 0, .int .u64 0, .int .u64 0, .int .u64 0, .int .u64 0, .int .u64 0, .int .u64 0, .int .u64 0, .int .u64 0, .int .u64 0, .int .u64 0, .int .u64 0, .int .u64 0, .int .u64 0, .int .u64 0, .int .u64 0, .int .u64 0], true⟩,
  ⟨.int .u32, 1, 4, [.int .u32 0], false⟩,
  ⟨.array 65 5, 65, 65, [.int .u8 0, .int .u8 0, .int .u8 0, .int .u8 0, .int .u8 0, .int .u8 0, .int .u8 0, .int .u8 0, .int .u8 0, .int .u8 0, .int .u8 0, .int .u8 0, .int .u8 0, .int .u8 0, .int .u8 0, .int .u8 0, .int .u8 0, .int .u8 0, .int .u8 0, .int .u8 0, .int .u8 0, .int .u8 0, .int .u8 0, .int .u8 0, .int .u8 0, .int .u8 0, .int .u8 0, .int .u8 0, .int .u8 0, .int .u8 0, .int .u8 0, .int .u8 0, .int .u8 0, .int .u8 0, .int .u8 0, .int .u8 0, .int .u8 0, .int .u8 0, .int .u8 0, .int .u8 0, .int .u8 0, .int .u8 0, .int .u8 0, .int .u8 0, .int .u8 0, .int .u8 0, .int .u8 0, .int .u8 0, .int .u8 0, .int .u8 0, .int .u8 0, .int .u8 0, .int .u8 0, .int .u8 0, .int .u8 0, .int .u8 0, .int .u8 0, .int .u8 0, .int .u8 0, .int .u8 0, .int .u8 0, .int .u8 0, .int .u8 0, .int .u8 0, .int .u8 0], true⟩,
  ⟨.func, 1, 8, [.nilFunc], false⟩,
  ⟨.func, 1, 8, [.nilFunc], false⟩,
  ⟨.func, 1, 8, [.nilFunc], false⟩,
  ⟨.ptr 185, 1, 8, [.nilPtr], false⟩,
  ⟨.struct [(0, 9)], 1, 16, [.str []], true⟩,
  ⟨.struct [(0, 9)], 1, 16, [.str []], true⟩,
  ⟨.other, 0, 0, [], false⟩,
  ⟨.func, 1, 8, [.nilFunc], false⟩,
  ⟨.other, 0, 0, [], false⟩,
  ⟨.func, 1, 8, [.nilFunc], false⟩,
  ⟨.other, 0, 0, [], false⟩,
  ⟨.func, 1, 8, [.nilFunc], false⟩,
  ⟨.func, 1, 8, [.nilFunc], false⟩,
  ⟨.func, 1, 8, [.nilFunc], false⟩,
  ⟨.func, 1, 8, [.nilFunc], false⟩,
  ⟨.func, 1, 8, [.nilFunc], false⟩,
  ⟨.func, 1, 8, [.nilFunc], false⟩,
  ⟨.array 32 5, 32, 32, [.int .u8 0, .int .u8 0, .int .u8 0, .int .u8 0, .int .u8 0, .int .u8 0, .int .u8 0, .int .u8 0, .int .u8 0, .int .u8 0, .int .u8 0, .int .u8 0, .int .u8 0, .int .u8 0, .int .u8 0, .int .u8 0, .int .u8 0, .int .u8 0, .int .u8 0, .int .u8 0, .int .u8 0, .int .u8 0, .int .u8 0, .int .u8 0, .int .u8 0, .int .u8 0, .int .u8 0, .int .u8 0, .int .u8 0, .int .u8 0, .int .u8 0, .int .u8 0], true⟩,
  ⟨.array 64 5, 64, 64, [.int .u8 0, .int .u8 0, .int .u8 0, .int .u8 0, .int .u8 0, .int .u8 0, .int .u8 0, .int .u8 0, .int .u8 0, .int .u8 0, .int .u8 0, .int .u8 0, .int .u8 0, .int .u8 0, .int .u8 0, .int .u8 0, .int .u8 0, .int .u8 0, .int .u8 0, .int .u8 0, .int .u8 0, .int .u8 0, .int .u8 0, .int .u8 0, .int .u8 0, .int .u8 0, .int .u8 0, .int .u8 0, .int .u8 0, .int .u8 0, .int .u8 0, .int .u8 0, .int .u8 0, .int .u8 0, .int .u8 0, .int .u8 0, .int .u8 0, .int .u8 0, .int .u8 0, .int .u8 0, .int .u8 0, .int .u8 0, .int .u8 0, .int .u8 0, .int .u8 0, .int .u8 0, .int .u8 0, .int .u8 0, .int .u8 0, .int .u8 0, .int .u8 0, .int .u8 0, .int .u8 0, .int .u8 0, .int .u8 0, .int .u8 0, .int .u8 0, .int .u8 0, .int .u8 0, .int .u8 0, .int .u8 0, .int .u8 0, .int .u8 0, .int .u8 0], true⟩,
  ⟨.struct [(0, 17), (1, 17), (2, 17), (3, 9)], 4, 40, [.nilPtr, .nilPtr, .nilPtr, .str []], false⟩,
  ⟨.struct [(0, 17), (1, 17), (2, 17), (3, 9)], 4, 40, [.nilPtr, .nilPtr, .nilPtr, .str []], false⟩,
  ⟨.array 0 16, 0, 0, [], false⟩,
  ⟨.struct [(0, 201)], 0, 0, [], false⟩,
  ⟨.struct [(0, 201)], 0, 0, [], false⟩,
  ⟨.int .u8, 1, 1, [.int .u8 0], false⟩,
  ⟨.int .u8, 1, 1, [.int .u8 0], false⟩,
  ⟨.func, 1, 8, [.nilFunc], false⟩,
  ⟨.int .i32, 1, 4, [.int .i32 0], false⟩,
  ⟨.int .i32, 1, 4, [.int .i32 0], false⟩,
  ⟨.struct [(0, 12), (1, 12), (2, 178), (3, 204), (4, 5), (5, 5), (6, 205), (7, 206), (8, 167), (9, 207), (10, 208)], 11, 48, [.int .u64 0, .int .u64 0, .int .u32 0, .int .u8 0, .int .u8 0, .int .u8 0, .int .u8 0, .nilFunc, .nilPtr, .int .i32 0, .int .i32 0], false⟩,
  ⟨.struct [(0, 12), (1, 12), (2, 178), (3, 204), (4, 5), (5, 5), (6, 205), (7, 206), (8, 167), (9, 207), (10, 208)], 11, 48, [.int .u64 0, .int .u64 0, .int .u32 0, .int .u8 0, .int .u8 0, .int .u8 0, .int .u8 0, .nilFunc, .nilPtr, .int .i32 0, .int .i32 0], false⟩]
def Tryz.tab : Tab := fun t => match nth Tryz.tabL t with
  | some i => i
  | none => ⟨.other, 0, 0, [], false⟩
theorem Tryz.tok : TOk Tryz.prog Tryz.tab := tok_of_check _ _ 211 (by kernel_rfl) (fun t ht => by show (match nth Tryz.tabL t with | some i => i | none => _).ty = _; rw [nth_eq, List.getElem?_eq_none (by show 211 ≤ t; exact ht)])
def Tryz.okF (g : Nat) : Bool := !(inNats [0, 1, 135, 143, 147, 150, 151, 152, 153, 154, 155, 156, 157, 158, 159, 160, 161, 162, 163, 164, 165, 166, 167, 168, 169, 170, 171, 172, 173, 174, 175, 176] g) && Nat.ble g 177
noncomputable def Tryz.envOf (l : List (Nat × Func)) (fr : List Nat) : Env := { P := Tryz.prog, T := Tryz.tab, inl := lookF l, ok := Tryz.okF, fr := fun g => inNats fr g && Tryz.okF g, ext := fun _ => none }
theorem Tryz.envOk (l : List (Nat × Func)) (fr : List Nat) (hl : AllF Tryz.prog l) : EnvOk (Tryz.envOf l fr) where
  fr g hg := by
    have h : (inNats fr g && Tryz.okF g) = true := hg
    rw [Bool.and_eq_true] at h; exact h.2
  T := Tryz.tok
  ok g hg args w := by
    have h : ((List.range 178).all fun g => !Tryz.okF g || okFn Tryz.prog g) = true := by kernel_rfl
    have hg' : Tryz.okF g = true := hg
    have hlt : g < 178 := by
      have h2 := hg'
      simp only [Tryz.okF, Bool.and_eq_true] at h2
      have := Nat.le_of_ble_eq_true h2.2; omega
    have := List.all_eq_true.1 h g (List.mem_range.2 hlt)
    rw [hg'] at this
    have h3 : okFn Tryz.prog g = true := by simpa using this
    exact okFn_ok h3 args w
  inl g fn h := lookF_ok hl h
  ext g h he := by cases he
  mixed := by kernel_rfl
end Go.Proofs.YtkhbmendaapojaaGreatDoor
/- A value that says more serves for one that says less: rows by what they hold, nil for an empty row. -/
namespace Go.Vx
open Go Go.RowKit
def SubV (u v : V) : Prop := ∀ I x, Rel [] I u x → Rel [] I v x
def SubL (us vs : List V) : Prop := ∀ I xs, Rels [] I us xs → Rels [] I vs xs
theorem SubV.refl (v : V) : SubV v v := fun _ _ h => h
theorem SubV.of_eq {u v : V} (h : u = v) : SubV u v := h ▸ SubV.refl u
theorem SubV.nil (sz : Nat) (f : Nat → List V) : SubV .nilSl (.ro sz 0 f) := fun I x h => by cases h; exact .roNil _ _
theorem SubV.ro {sz len : Nat} {f g : Nat → List V} (h : ∀ i, i < len → f i = g i) : SubV (.ro sz len f) (.ro sz len g) := fun I x hr => by
  cases hr with
  | roNil => exact .roNil _ _
  | ro _ _ _ b off cap arr el fz hI hc hs hr => exact .ro _ _ _ b off cap arr el fz hI hc (fun i hi => h i hi ▸ hs i hi) (fun i hi => h i hi ▸ hr i hi)
theorem SubL.nil : SubL [] [] := fun _ _ h => h
theorem SubL.cons {u v : V} {us vs : List V} (h : SubV u v) (hs : SubL us vs) : SubL (u :: us) (v :: vs) := fun I xs hr => by
  cases hr with | cons _ _ x xs h1 h2 => exact .cons _ _ _ _ (h I x h1) (hs I xs h2)
theorem SubL.refl (l : List V) : SubL l l := fun _ _ h => h
theorem SubV.agg {us vs : List V} (h : SubL us vs) : SubV (.agg us) (.agg vs) := fun I x hr => by
  cases hr with | agg _ xs h1 => exact .agg _ _ (h I _ h1)
theorem SubV.tup {us vs : List V} (h : SubL us vs) : SubV (.tup us) (.tup vs) := fun I x hr => by
  cases hr with | tup _ xs h1 => exact .tup _ _ (h I _ h1)
/-- A result that says at least v. -/
structure RetSub (v : V) (o : Out) : Prop where
  ex : ∃ u, o = .ret u ∧ SubV u v
theorem RetSub.of {u v : V} (h : SubV u v) : RetSub v (.ret u) := ⟨u, rfl, h⟩
theorem RetSub.eq {u v : V} (h : u = v) : RetSub v (.ret u) := ⟨u, rfl, SubV.of_eq h⟩
theorem Pure.retSub {P : Program} {f : Nat} {Vs : List V} {v : V} (h : Pure P f Vs (RetSub v)) : Pure P f Vs (fun o => o = .ret v) := fun I w xs h0 h1 h2 =>
  (h I w xs h0 h1 h2).mono fun e w' ⟨o, I', ⟨u, ho, hs⟩, hO, hk⟩ => by
    subst ho
    refine ⟨.ret v, I', rfl, ?_, hk⟩
    cases e <;> first | exact hs _ _ hO | exact hO.elim
theorem Pure.args {P : Program} {f : Nat} {Vs Us : List V} {R : Out → Prop} (h : Pure P f Vs R) (hs : SubL Us Vs) : Pure P f Us R := fun I w xs h0 h1 h2 => h I w xs h0 h1 (hs _ _ h2)
end Go.Vx
/- Numbers by their digits: places, sums, differences. -/
namespace Go.Num
/-- The digit at place i to the base b. -/
def dg (b n i : Nat) : Nat := n / b ^ i % b
def nlF (b : Nat) : Nat → Nat → Nat
  | 0, _ => 0
  | f + 1, n => if n = 0 then 0 else nlF b f (n / b) + 1
/-- How many digits. -/
def nl (b n : Nat) : Nat := nlF b n n
theorem nlF_le {b : Nat} (hb : 2 ≤ b) : ∀ (f n k : Nat), n ≤ f → (nlF b f n ≤ k ↔ n < b ^ k)
  | 0, n, k, h => by
    have : n = 0 := by omega
    subst this
    simp [nlF, Nat.pow_pos (show 0 < b by omega)]
  | f + 1, n, k, h => by
    by_cases h0 : n = 0
    · subst h0; simp [nlF, Nat.pow_pos (show 0 < b by omega)]
    · simp only [nlF, if_neg h0]
      cases k with
      | zero => simp; omega
      | succ k =>
        have hlt : n / b < n := Nat.div_lt_self (by omega) (by omega)
        rw [Nat.add_le_add_iff_right, nlF_le hb f (n / b) k (by omega), Nat.div_lt_iff_lt_mul (by omega), Nat.pow_succ]
theorem nl_le {b : Nat} (hb : 2 ≤ b) {n k : Nat} : nl b n ≤ k ↔ n < b ^ k := nlF_le hb n n k (Nat.le_refl _)
theorem nl_lt {b : Nat} (hb : 2 ≤ b) {n k : Nat} : k < nl b n ↔ b ^ k ≤ n := by
  have := nl_le hb (n := n) (k := k); omega
theorem lt_pow_nl {b : Nat} (hb : 2 ≤ b) (n : Nat) : n < b ^ nl b n := (nl_le hb).1 (Nat.le_refl _)
theorem nl_zero (b : Nat) : nl b 0 = 0 := rfl
theorem nl_pos {b : Nat} (hb : 2 ≤ b) {n : Nat} (h : n ≠ 0) : 0 < nl b n := (nl_lt hb).2 (by simp; omega)
theorem nl_eq_zero {b : Nat} (hb : 2 ≤ b) {n : Nat} : nl b n = 0 ↔ n = 0 := by
  constructor
  · intro h
    apply Classical.byContradiction; intro hn
    have := nl_pos hb hn; omega
  · rintro rfl; rfl
theorem nl_mono {b : Nat} (hb : 2 ≤ b) {m n : Nat} (h : m ≤ n) : nl b m ≤ nl b n := (nl_le hb).2 (Nat.lt_of_le_of_lt h (lt_pow_nl hb n))
theorem dg_lt {b : Nat} (hb : 0 < b) (n i : Nat) : dg b n i < b := Nat.mod_lt _ hb
theorem dg_big {b n i : Nat} (h : n < b ^ i) : dg b n i = 0 := by unfold dg; rw [Nat.div_eq_of_lt h]; exact Nat.zero_mod _
theorem dg_ge {b : Nat} (hb : 2 ≤ b) {n i : Nat} (h : nl b n ≤ i) : dg b n i = 0 := dg_big ((nl_le hb).1 h)
theorem dg_top {b : Nat} (hb : 2 ≤ b) {n : Nat} (h : n ≠ 0) : dg b n (nl b n - 1) ≠ 0 := by
  have hp := nl_pos hb h
  have h1 : b ^ (nl b n - 1) ≤ n := (nl_lt hb).1 (by omega)
  have h2 : n < b ^ (nl b n - 1) * b := by rw [← Nat.pow_succ, show (nl b n - 1).succ = nl b n by omega]; exact lt_pow_nl hb n
  have h3 : 0 < b ^ (nl b n - 1) := Nat.pow_pos (by omega)
  unfold dg
  have h4 : n / b ^ (nl b n - 1) < b := by rw [Nat.div_lt_iff_lt_mul h3, Nat.mul_comm]; exact h2
  rw [Nat.mod_eq_of_lt h4]
  have : 1 ≤ n / b ^ (nl b n - 1) := (Nat.le_div_iff_mul_le h3).2 (by omega)
  omega
/-- The value of the first k digits. -/
def vl (b : Nat) (f : Nat → Nat) : Nat → Nat
  | 0 => 0
  | k + 1 => vl b f k + f k * b ^ k
theorem vl_dg (b n : Nat) : ∀ k, vl b (dg b n) k = n % b ^ k
  | 0 => by simp [vl, Nat.mod_one]
  | k + 1 => by rw [vl, vl_dg b n k, Nat.mod_pow_succ, dg, Nat.mul_comm]
theorem vl_lt {b : Nat} {f : Nat → Nat} : ∀ {k : Nat}, (∀ i, i < k → f i < b) → vl b f k < b ^ k
  | 0, _ => by simp [vl]
  | k + 1, h => by
    have h1 := vl_lt (b := b) (f := f) (k := k) (fun i hi => h i (by omega))
    have h2 := h k (by omega)
    rw [vl, Nat.pow_succ]
    have h3 : (f k + 1) * b ^ k ≤ b * b ^ k := Nat.mul_le_mul_right _ h2
    rw [Nat.add_mul, Nat.one_mul] at h3
    rw [Nat.mul_comm (b ^ k) b]; omega
theorem vl_congr {b : Nat} {f g : Nat → Nat} : ∀ {k : Nat}, (∀ i, i < k → f i = g i) → vl b f k = vl b g k
  | 0, _ => rfl
  | k + 1, h => by rw [vl, vl, vl_congr (fun i hi => h i (by omega)), h k (by omega)]
theorem dg_add {b : Nat} (hb : 0 < b) {x m i k : Nat} (h : i < k) : dg b (x + m * b ^ k) i = dg b x i := by
  obtain ⟨j, rfl⟩ : ∃ j, k = i + 1 + j := ⟨k - (i + 1), by omega⟩
  unfold dg
  have h0 : 0 < b ^ i := Nat.pow_pos hb
  rw [show m * b ^ (i + 1 + j) = b ^ i * (b * (m * b ^ j)) by rw [Nat.pow_add, Nat.pow_succ]; simp [Nat.mul_assoc, Nat.mul_comm, Nat.mul_left_comm], Nat.add_mul_div_left _ _ h0, Nat.add_mul_mod_self_left]
theorem dg_mod {b : Nat} (hb : 0 < b) {x i k : Nat} (h : i < k) : dg b (x % b ^ k) i = dg b x i := by
  have := dg_add hb (x := x % b ^ k) (m := x / b ^ k) h
  rw [← this, Nat.mul_comm, Nat.mod_add_div]
theorem dg_vl {b : Nat} (hb : 0 < b) {f : Nat → Nat} : ∀ {k : Nat}, (∀ i, i < k → f i < b) → ∀ i, i < k → dg b (vl b f k) i = f i
  | 0, _, i, hi => by omega
  | k + 1, h, i, hi => by
    rw [vl]
    by_cases hik : i < k
    · rw [dg_add hb hik]; exact dg_vl hb (fun i hi => h i (by omega)) i hik
    · have : i = k := by omega
      subst this
      have h1 := vl_lt (b := b) (f := f) (k := i) (fun j hj => h j (by omega))
      unfold dg
      rw [Nat.add_mul_div_right _ _ (Nat.pow_pos hb), Nat.div_eq_of_lt h1, Nat.zero_add, Nat.mod_eq_of_lt (h i (by omega))]
theorem dg_vl_ge {b : Nat} {f : Nat → Nat} {k : Nat} (h : ∀ i, i < k → f i < b) {i : Nat} (hb : 0 < b) (hi : k ≤ i) : dg b (vl b f k) i = 0 :=
  dg_big (Nat.lt_of_lt_of_le (vl_lt h) (Nat.pow_le_pow_right hb hi))
theorem dg_ext {b : Nat} (hb : 2 ≤ b) {x y : Nat} (h : ∀ i, dg b x i = dg b y i) : x = y := by
  have h1 := vl_dg b x (max (nl b x) (nl b y))
  have h2 := vl_dg b y (max (nl b x) (nl b y))
  have e : vl b (dg b x) (max (nl b x) (nl b y)) = vl b (dg b y) (max (nl b x) (nl b y)) := vl_congr fun i _ => h i
  rw [Nat.mod_eq_of_lt (Nat.lt_of_lt_of_le (lt_pow_nl hb x) (Nat.pow_le_pow_right (by omega) (by omega)))] at h1
  rw [Nat.mod_eq_of_lt (Nat.lt_of_lt_of_le (lt_pow_nl hb y) (Nat.pow_le_pow_right (by omega) (by omega)))] at h2
  omega
/-- Without the digits 0 at the end. -/
def trimN (g : Nat → Int) : Nat → Nat
  | 0 => 0
  | k + 1 => if g k = 0 then trimN g k else k + 1
theorem trimN_dg {b : Nat} (hb : 2 ≤ b) {g : Nat → Int} {n : Nat} : ∀ {k : Nat}, (∀ i, i < k → g i = (dg b n i : Int)) → n < b ^ k → trimN g k = nl b n
  | 0, _, h => by have : n = 0 := by simpa using h
                  subst this; rfl
  | k + 1, hg, h => by
    rw [trimN, hg k (by omega)]
    by_cases hd : dg b n k = 0
    · rw [if_pos (by omega)]
      have hk : n < b ^ k := by
        have h1 : n / b ^ k < b := by rw [Nat.div_lt_iff_lt_mul (Nat.pow_pos (by omega)), Nat.mul_comm, ← Nat.pow_succ]; exact h
        unfold dg at hd
        rw [Nat.mod_eq_of_lt h1] at hd
        exact (Nat.div_eq_zero_iff.1 hd).resolve_left (by have : 0 < b ^ k := Nat.pow_pos (by omega)
                                                          omega)
      exact trimN_dg hb (fun i hi => hg i (by omega)) hk
    · rw [if_neg (by omega)]
      have h1 : nl b n ≤ k + 1 := (nl_le hb).2 h
      have h2 : k < nl b n := by
        apply Classical.byContradiction; intro hc
        exact hd (dg_ge hb (by omega))
      omega

/-! ### Sums -/
def carry (b x y i : Nat) : Nat := (x % b ^ i + y % b ^ i) / b ^ i
theorem carry_zero (b x y : Nat) : carry b x y 0 = 0 := by simp [carry, Nat.mod_one]
theorem carry_le {b : Nat} (hb : 0 < b) (x y i : Nat) : carry b x y i ≤ 1 := by
  have h0 : 0 < b ^ i := Nat.pow_pos hb
  have h1 := Nat.mod_lt x h0
  have h2 := Nat.mod_lt y h0
  unfold carry
  have : (x % b ^ i + y % b ^ i) / b ^ i < 2 := by rw [Nat.div_lt_iff_lt_mul h0]; omega
  omega
theorem div_sum {b : Nat} (hb : 0 < b) (x y i : Nat) : (x + y) / b ^ i = x / b ^ i + y / b ^ i + carry b x y i := by
  have h0 : 0 < b ^ i := Nat.pow_pos hb
  have hx := Nat.mod_add_div x (b ^ i)
  have hy := Nat.mod_add_div y (b ^ i)
  unfold carry
  conv => lhs; rw [← hx, ← hy]
  rw [show x % b ^ i + b ^ i * (x / b ^ i) + (y % b ^ i + b ^ i * (y / b ^ i)) = x % b ^ i + y % b ^ i + b ^ i * (x / b ^ i + y / b ^ i) by rw [Nat.mul_add]; omega, Nat.add_mul_div_left _ _ h0]
  omega
theorem div_dg {b : Nat} (x i : Nat) : x / b ^ i = dg b x i + b * (x / b ^ (i + 1)) := by
  unfold dg
  rw [Nat.pow_succ, ← Nat.div_div_eq_div_mul, Nat.mod_add_div]
theorem sum_step {b : Nat} (hb : 0 < b) (x y i : Nat) : dg b x i + dg b y i + carry b x y i = dg b (x + y) i + b * carry b x y (i + 1) := by
  have h1 := div_sum hb x y i
  have h2 := div_sum hb x y (i + 1)
  have h3 := div_dg (b := b) x i
  have h4 := div_dg (b := b) y i
  have h5 := div_dg (b := b) (x + y) i
  rw [h2, Nat.mul_add, Nat.mul_add] at h5
  omega
theorem sum_dg {b : Nat} (hb : 0 < b) (x y i : Nat) : dg b (x + y) i = (dg b x i + dg b y i + carry b x y i) % b := by
  rw [sum_step hb, Nat.add_mul_mod_self_left, Nat.mod_eq_of_lt (dg_lt hb _ _)]
theorem sum_carry {b : Nat} (hb : 0 < b) (x y i : Nat) : carry b x y (i + 1) = (dg b x i + dg b y i + carry b x y i) / b := by
  rw [sum_step hb, Nat.add_mul_div_left _ _ hb, Nat.div_eq_of_lt (dg_lt hb _ _), Nat.zero_add]
theorem carry_end {b : Nat} {x y i : Nat} (hx : x < b ^ i) (hy : y < b ^ i) : (x + y) / b ^ i = carry b x y i := by
  unfold carry; rw [Nat.mod_eq_of_lt hx, Nat.mod_eq_of_lt hy]

/-! ### Differences -/
def bor (b x y i : Nat) : Nat := if x % b ^ i < y % b ^ i then 1 else 0
theorem bor_zero (b x y : Nat) : bor b x y 0 = 0 := by simp [bor, Nat.mod_one]
theorem bor_le (b x y i : Nat) : bor b x y i ≤ 1 := by unfold bor; split <;> omega
theorem div_dif {b : Nat} (hb : 0 < b) {x y : Nat} (h : y ≤ x) (i : Nat) : (x - y) / b ^ i + y / b ^ i + bor b x y i = x / b ^ i := by
  have h0 : 0 < b ^ i := Nat.pow_pos hb
  have h1 := div_sum hb (x - y) y i
  rw [Nat.sub_add_cancel h] at h1
  have : carry b (x - y) y i = bor b x y i := by
    have m1 := Nat.mod_lt (x - y) h0
    have m2 := Nat.mod_lt y h0
    have m3 : x % b ^ i = ((x - y) % b ^ i + y % b ^ i) % b ^ i := by rw [← Nat.add_mod, Nat.sub_add_cancel h]
    have m4 := Nat.mod_add_div ((x - y) % b ^ i + y % b ^ i) (b ^ i)
    have m6 := Nat.mod_lt ((x - y) % b ^ i + y % b ^ i) h0
    have m5 := carry_le hb (x - y) y i
    unfold bor
    rw [m3]
    unfold carry at m5 ⊢
    generalize ((x - y) % b ^ i + y % b ^ i) / b ^ i = c at m4 m5
    generalize ((x - y) % b ^ i + y % b ^ i) % b ^ i = r at m4 m6 ⊢
    generalize (x - y) % b ^ i = p at m1 m4 ⊢
    generalize y % b ^ i = q at m2 m4 ⊢
    have : c = 0 ∨ c = 1 := by omega
    rcases this with rfl | rfl
    · rw [Nat.mul_zero] at m4; rw [if_neg (by omega)]
    · rw [if_pos (by rw [Nat.mul_one] at m4; omega)]
  rw [← this]; omega
theorem dif_step {b : Nat} (hb : 0 < b) {x y : Nat} (h : y ≤ x) (i : Nat) : dg b x i + b * bor b x y (i + 1) = dg b (x - y) i + dg b y i + bor b x y i := by
  have h1 := div_dif hb h i
  have h2 := div_dif hb h (i + 1)
  have h3 := div_dg (b := b) x i
  have h4 := div_dg (b := b) y i
  have h5 := div_dg (b := b) (x - y) i
  rw [← h2, Nat.mul_add, Nat.mul_add] at h3
  omega
end Go.Num
/- Numbers by their digits: comparing, products, quotients by one digit. -/
namespace Go.Num
/-! ### Comparing -/
theorem lt_of_nl {b : Nat} (hb : 2 ≤ b) {x y : Nat} (h : nl b x < nl b y) : x < y :=
  Nat.lt_of_lt_of_le (lt_pow_nl hb x) ((nl_lt hb).1 h)
theorem div_eq_iff_dg {b : Nat} {x y i : Nat} (h : x / b ^ (i + 1) = y / b ^ (i + 1)) : x / b ^ i = y / b ^ i ↔ dg b x i = dg b y i := by
  rw [div_dg x i, div_dg y i, h]; omega
theorem lt_of_dg {b : Nat} (hb : 0 < b) {x y i : Nat} (h : x / b ^ (i + 1) = y / b ^ (i + 1)) (hd : dg b x i < dg b y i) : x < y := by
  have h1 : x / b ^ i < y / b ^ i := by rw [div_dg x i, div_dg y i, h]; omega
  have h0 : 0 < b ^ i := Nat.pow_pos hb
  have h2 : x < (x / b ^ i + 1) * b ^ i := by
    have := Nat.mod_add_div x (b ^ i)
    have := Nat.mod_lt x h0
    rw [Nat.add_mul, Nat.one_mul, Nat.mul_comm]; omega
  have h3 : (x / b ^ i + 1) * b ^ i ≤ y / b ^ i * b ^ i := Nat.mul_le_mul_right _ h1
  have h4 : y / b ^ i * b ^ i ≤ y := Nat.div_mul_le_self y _
  omega

/-! ### Products: row i, place j -/
def pr (b x y i j : Nat) : Nat := (x % b ^ i) * y + dg b x i * (y % b ^ j) * b ^ i
theorem pr_zero (b x y i : Nat) : pr b x y i 0 = (x % b ^ i) * y := by simp [pr, Nat.mod_one]
theorem mod_succ (b x i : Nat) : x % b ^ (i + 1) = x % b ^ i + dg b x i * b ^ i := by rw [Nat.mod_pow_succ, dg, Nat.mul_comm (b ^ i)]
theorem pr_end {b x y i j : Nat} (h : y < b ^ j) : pr b x y i j = (x % b ^ (i + 1)) * y := by
  rw [pr, Nat.mod_eq_of_lt h, mod_succ, Nat.add_mul]
  congr 1
  rw [Nat.mul_assoc, Nat.mul_assoc, Nat.mul_comm y]
theorem pr_succ (b x y i j : Nat) : pr b x y i (j + 1) = pr b x y i j + dg b x i * dg b y j * b ^ (i + j) := by
  rw [pr, pr, mod_succ, Nat.mul_add, Nat.add_mul, ← Nat.add_assoc]
  congr 1
  rw [Nat.pow_add]
  simp [Nat.mul_assoc, Nat.mul_comm, Nat.mul_left_comm]
/-- What goes on to the next place. -/
def pcar (b x y i j : Nat) : Nat := pr b x y i j / b ^ (i + j) - (x % b ^ i) * y / b ^ (i + j)
theorem pr_ge (b x y i j : Nat) : (x % b ^ i) * y ≤ pr b x y i j := by unfold pr; omega
theorem pcar_eq {b : Nat} (x y i j : Nat) : pr b x y i j / b ^ (i + j) = (x % b ^ i) * y / b ^ (i + j) + pcar b x y i j := by
  unfold pcar
  have := Nat.div_le_div_right (c := b ^ (i + j)) (pr_ge b x y i j)
  omega
theorem pcar_zero (b x y i : Nat) : pcar b x y i 0 = 0 := by unfold pcar; rw [pr_zero]; omega
theorem prod_step {b : Nat} (hb : 0 < b) (x y i j : Nat) :
    dg b x i * dg b y j + pcar b x y i j + dg b ((x % b ^ i) * y) (i + j) = dg b (pr b x y i (j + 1)) (i + j) + b * pcar b x y i (j + 1) := by
  have h0 : 0 < b ^ (i + j) := Nat.pow_pos hb
  have h1 : pr b x y i (j + 1) / b ^ (i + j) = pr b x y i j / b ^ (i + j) + dg b x i * dg b y j := by rw [pr_succ, Nat.add_mul_div_right _ _ h0]
  have h2 := div_dg (b := b) (pr b x y i (j + 1)) (i + j)
  have h3 := div_dg (b := b) ((x % b ^ i) * y) (i + j)
  have h4 := pcar_eq (b := b) x y i j
  have h5 := pcar_eq (b := b) x y i (j + 1)
  rw [← Nat.add_assoc] at h5
  rw [h5, Nat.mul_add] at h2
  omega
theorem pcar_lt {b : Nat} (hb : 0 < b) (x y i : Nat) : ∀ j, pcar b x y i j < b
  | 0 => by rw [pcar_zero]; exact hb
  | j + 1 => by
    have h1 := prod_step hb x y i j
    have h2 := pcar_lt hb x y i j
    have h3 := dg_lt hb x i
    have h4 := dg_lt hb y j
    have h5 := dg_lt hb ((x % b ^ i) * y) (i + j)
    have h6 : dg b x i * dg b y j ≤ (b - 1) * (b - 1) := Nat.mul_le_mul (by omega) (by omega)
    obtain ⟨c, rfl⟩ : ∃ c, b = c + 1 := ⟨b - 1, by omega⟩
    simp only [Nat.add_sub_cancel] at h6
    apply Classical.byContradiction; intro hc
    have h7 : (c + 1) * (c + 1) ≤ (c + 1) * pcar (c + 1) x y i (j + 1) := Nat.mul_le_mul_left _ (by omega)
    rw [Nat.mul_add, Nat.add_mul] at h7
    omega
theorem prod_dg {b : Nat} (hb : 0 < b) (x y i j : Nat) :
    dg b (pr b x y i (j + 1)) (i + j) = (dg b x i * dg b y j + pcar b x y i j + dg b ((x % b ^ i) * y) (i + j)) % b := by
  rw [prod_step hb, Nat.add_mul_mod_self_left, Nat.mod_eq_of_lt (dg_lt hb _ _)]
theorem prod_car {b : Nat} (hb : 0 < b) (x y i j : Nat) :
    pcar b x y i (j + 1) = (dg b x i * dg b y j + pcar b x y i j + dg b ((x % b ^ i) * y) (i + j)) / b := by
  rw [prod_step hb, Nat.add_mul_div_left _ _ hb, Nat.div_eq_of_lt (dg_lt hb _ _), Nat.zero_add]
/-- The places of a row that is under way. -/
theorem pr_low {b : Nat} (hb : 0 < b) (x y i j k : Nat) (h : k < i + j) : dg b (pr b x y i (j + 1)) k = dg b (pr b x y i j) k := by
  rw [pr_succ]; exact dg_add hb h
/-- The product's places, while row i has come to place j: those before are done, those behind are of the rows before. -/
def prF (b x y i j k : Nat) : Nat := if k < i + j then dg b (pr b x y i j) k else dg b ((x % b ^ i) * y) k
theorem prF_zero {b : Nat} (x y i : Nat) : prF b x y i 0 = dg b ((x % b ^ i) * y) := by
  funext k; unfold prF; rw [pr_zero]; split <;> rfl
theorem prF_succ {b : Nat} (hb : 0 < b) (x y i j : Nat) :
    prF b x y i (j + 1) = fun k => if k = i + j then (dg b x i * dg b y j + pcar b x y i j + dg b ((x % b ^ i) * y) (i + j)) % b else prF b x y i j k := by
  funext k
  unfold prF
  by_cases h1 : k = i + j
  · subst h1; rw [if_pos (by omega), if_pos rfl, prod_dg hb]
  · rw [if_neg h1]
    by_cases h2 : k < i + j
    · rw [if_pos (by omega), if_pos h2, pr_low hb _ _ _ _ _ h2]
    · rw [if_neg (by omega), if_neg h2]
theorem prF_at {b : Nat} (x y i j : Nat) : prF b x y i j (i + j) = dg b ((x % b ^ i) * y) (i + j) := by unfold prF; rw [if_neg (by omega)]
/-- A row's end. -/
theorem prF_end {b : Nat} (hb : 0 < b) {x y i j : Nat} (hy : y < b ^ j) :
    (fun k => if k = i + j then pcar b x y i j else prF b x y i j k) = prF b x y (i + 1) 0 := by
  rw [prF_zero]
  have hP : (x % b ^ i) * y < b ^ (i + j) := by
    rw [Nat.pow_add]
    have h1 := Nat.mod_lt x (show 0 < b ^ i from Nat.pow_pos hb)
    exact Nat.mul_lt_mul'' h1 hy
  have hQ : (x % b ^ (i + 1)) * y < b ^ (i + j + 1) := by
    rw [show i + j + 1 = (i + 1) + j by omega, Nat.pow_add b (i + 1) j]
    have h1 := Nat.mod_lt x (show 0 < b ^ (i + 1) from Nat.pow_pos hb)
    exact Nat.mul_lt_mul'' h1 hy
  funext k
  rw [← pr_end hy (x := x) (i := i)] at hQ ⊢
  by_cases h1 : k = i + j
  · subst h1
    rw [if_pos rfl]
    have := pcar_eq (b := b) x y i j
    rw [Nat.div_eq_of_lt hP, Nat.zero_add] at this
    unfold dg
    rw [this, Nat.mod_eq_of_lt (pcar_lt hb _ _ _ _)]
  · rw [if_neg h1]
    unfold prF
    by_cases h2 : k < i + j
    · rw [if_pos h2]
    · rw [if_neg h2, dg_big (Nat.lt_of_lt_of_le hP (Nat.pow_le_pow_right hb (by omega))), dg_big (Nat.lt_of_lt_of_le hQ (Nat.pow_le_pow_right hb (by omega)))]

/-! ### By one digit: from the top -/
theorem by_step {b d : Nat} (n i : Nat) :
    (n / b ^ (i + 1) % d) * b + dg b n i = b * (n / b ^ (i + 1) % d) + dg b n i ∧ ((n / b ^ (i + 1) % d) * b + dg b n i) % d = n / b ^ i % d := by
  refine ⟨by rw [Nat.mul_comm], ?_⟩
  rw [div_dg n i, Nat.add_comm (dg b n i), Nat.add_mod, Nat.mul_mod, Nat.add_mod (b * _), Nat.mul_mod b]
  simp [Nat.mul_comm]
theorem by_digit {b : Nat} (hb : 0 < b) {d : Nat} (hd : 0 < d) (n i : Nat) : ((n / b ^ (i + 1) % d) * b + dg b n i) / d = dg b (n / d) i := by
  have h1 : n / d / b ^ i = n / b ^ i / d := by rw [Nat.div_div_eq_div_mul, Nat.div_div_eq_div_mul, Nat.mul_comm]
  show _ = n / d / b ^ i % b
  rw [h1]
  have h2 := div_dg (b := b) n i
  have h3 := Nat.mod_add_div (n / b ^ (i + 1)) d
  have key : n / b ^ i = d * (b * (n / b ^ (i + 1) / d)) + ((n / b ^ (i + 1) % d) * b + dg b n i) := by
    rw [h2]
    conv => lhs; rw [← h3]
    rw [Nat.mul_add, Nat.mul_comm b (n / b ^ (i + 1) % d), Nat.mul_left_comm b d]; omega
  have h4 := Nat.mod_lt (n / b ^ (i + 1)) hd
  have h5 := dg_lt hb n i
  have h6 : (n / b ^ (i + 1) % d) * b + b ≤ d * b := by rw [← Nat.succ_mul]; exact Nat.mul_le_mul_right _ h4
  have h7 : (n / b ^ (i + 1) % d) * b + dg b n i < d * b := by omega
  rw [key]
  generalize (n / b ^ (i + 1) % d) * b + dg b n i = T at *
  rw [Nat.mul_add_div hd, Nat.mul_add_mod]
  refine (Nat.mod_eq_of_lt ?_).symm
  rw [Nat.div_lt_iff_lt_mul hd, Nat.mul_comm b d]
  exact h7
end Go.Num
/- Decimal texts. -/
namespace Go.Num
/-- The byte of a digit. -/
def dch (d : Nat) : UInt8 := UInt8.ofNat (48 + d)
theorem dch_toNat {d : Nat} (h : d < 10) : (dch d).toNat = 48 + d := by
  unfold dch; rw [UInt8.toNat_ofNat']; omega
/-- The k lowest decimal digits, the highest first. -/
def decD (n : Nat) : Nat → List UInt8
  | 0 => []
  | k + 1 => dch (dg 10 n k) :: decD n k
def decN (n : Nat) : List UInt8 := if n = 0 then [48] else decD n (nl 10 n)
def decZ (z : Int) : List UInt8 := if z < 0 then 45 :: decN z.natAbs else decN z.natAbs
@[simp] theorem decD_length (n : Nat) : ∀ k, (decD n k).length = k
  | 0 => rfl
  | k + 1 => by rw [decD, List.length_cons, decD_length n k]
theorem decD_congr {n m : Nat} : ∀ {k : Nat}, (∀ i, i < k → dg 10 n i = dg 10 m i) → decD n k = decD m k
  | 0, _ => rfl
  | k + 1, h => by rw [decD, decD, h k (by omega), decD_congr (fun i hi => h i (by omega))]
theorem decD_mod (n k : Nat) : decD (n % 10 ^ k) k = decD n k := decD_congr fun _ hi => dg_mod (by omega) hi
theorem dg_div {b n k i : Nat} : dg b (n / b ^ k) i = dg b n (k + i) := by
  unfold dg; rw [Nat.div_div_eq_div_mul, ← Nat.pow_add]
theorem decD_add (n k : Nat) : ∀ j, decD n (j + k) = decD (n / 10 ^ k) j ++ decD n k
  | 0 => by simp [decD]
  | j + 1 => by rw [show j + 1 + k = (j + k) + 1 by omega, decD, decD, List.cons_append, decD_add n k j, dg_div, Nat.add_comm k j]
theorem decD_take (n : Nat) {k j : Nat} (h : k ≤ j) : (decD n j).take (j - k) = decD (n / 10 ^ k) (j - k) := by
  conv => lhs; rw [show j = (j - k) + k by omega, decD_add]
  rw [List.take_append_of_le_length (by simp), List.take_of_length_le (by simp)]
theorem decD_drop (n : Nat) {k j : Nat} (h : k ≤ j) : (decD n j).drop (j - k) = decD n k := by
  conv => lhs; rw [show j = (j - k) + k by omega, decD_add]
  rw [List.drop_append_of_le_length (by simp), List.drop_of_length_le (by simp), List.nil_append]
theorem decD_pad (n : Nat) {j k : Nat} (hn : n < 10 ^ k) : decD n (j + k) = List.replicate j 48 ++ decD n k := by
  rw [decD_add, Nat.div_eq_of_lt hn]
  congr 1
  induction j with
  | zero => rfl
  | succ j ih => rw [decD, ih, List.replicate_succ]; congr 1; unfold dg; simp; rfl
theorem decD_get (n : Nat) : ∀ {k i : Nat}, i < k → (decD n k)[i]? = some (dch (dg 10 n (k - 1 - i)))
  | 0, i, h => by omega
  | k + 1, 0, _ => by simp [decD]
  | k + 1, i + 1, h => by
    rw [decD, List.getElem?_cons_succ, decD_get n (by omega)]
    congr 3; omega
/-- The number that bytes of digits say. -/
def valD (l : List UInt8) : Nat := l.foldl (fun a c => a * 10 + (c.toNat - 48)) 0
theorem valD_fold (l : List UInt8) : ∀ a : Nat, l.foldl (fun a c => a * 10 + (c.toNat - 48)) a = a * 10 ^ l.length + valD l := by
  induction l with
  | nil => intro a; simp [valD]
  | cons c l ih =>
    intro a
    simp only [List.foldl_cons, valD, List.length_cons]
    rw [ih, ih (0 * 10 + (c.toNat - 48)), Nat.pow_succ, Nat.add_mul, Nat.zero_mul, Nat.zero_add]
    simp [Nat.mul_assoc, Nat.mul_comm, Nat.mul_left_comm, Nat.add_assoc]
theorem valD_cons (c : UInt8) (l : List UInt8) : valD (c :: l) = (c.toNat - 48) * 10 ^ l.length + valD l := by
  show (c :: l).foldl _ 0 = _
  rw [List.foldl_cons, valD_fold]; simp
theorem valD_snoc (l : List UInt8) (c : UInt8) : valD (l ++ [c]) = valD l * 10 + (c.toNat - 48) := by simp [valD, List.foldl_append]
theorem valD_decD (n : Nat) : ∀ k, valD (decD n k) = n % 10 ^ k
  | 0 => by simp [valD, decD, Nat.mod_one]
  | k + 1 => by
    rw [decD, valD_cons, dch_toNat (dg_lt (by omega) _ _), decD_length, valD_decD n k, Nat.mod_pow_succ, dg]
    simp [Nat.mul_comm, Nat.add_comm]
def isD (c : UInt8) : Bool := decide (48 ≤ c.toNat) && decide (c.toNat ≤ 57)
theorem isD_dch {d : Nat} (h : d < 10) : isD (dch d) = true := by unfold isD; rw [dch_toNat h]; simp; omega
theorem decD_isD (n : Nat) : ∀ k, ∀ c ∈ decD n k, isD c = true
  | 0, c, h => by simp [decD] at h
  | k + 1, c, h => by
    rw [decD] at h
    rcases List.mem_cons.1 h with rfl | h
    · exact isD_dch (dg_lt (by omega) _ _)
    · exact decD_isD n k c h
/-- Digits are the decimal text of what they say, with zeros ahead. -/
theorem decD_valD : ∀ {l : List UInt8}, (∀ c ∈ l, isD c = true) → decD (valD l) l.length = l ∧ valD l < 10 ^ l.length
  | [], _ => by simp [valD, decD]
  | c :: l, h => by
    obtain ⟨h1, h2⟩ := decD_valD (l := l) (fun x hx => h x (List.mem_cons_of_mem _ hx))
    have hc := h c (List.mem_cons_self)
    simp only [isD, Bool.and_eq_true, decide_eq_true_eq] at hc
    have hv := valD_cons c l
    rw [List.length_cons, decD]
    constructor
    · congr 1
      · have hd : dg 10 (valD (c :: l)) l.length = c.toNat - 48 := by
          rw [hv]; unfold dg
          rw [Nat.add_comm, Nat.add_mul_div_right _ _ (Nat.pow_pos (by omega)), Nat.div_eq_of_lt h2, Nat.zero_add, Nat.mod_eq_of_lt (by omega)]
        rw [hd]; unfold dch
        apply UInt8.toNat_inj.1
        rw [UInt8.toNat_ofNat']; omega
      · rw [← decD_mod (valD (c :: l)), hv, Nat.add_comm, Nat.add_mul_mod_self_right, Nat.mod_eq_of_lt h2, h1]
    · rw [hv, Nat.pow_succ]
      have : (c.toNat - 48 + 1) * 10 ^ l.length ≤ 10 * 10 ^ l.length := Nat.mul_le_mul_right _ (by omega)
      rw [Nat.add_mul, Nat.one_mul] at this
      omega
theorem decN_length (n : Nat) : (decN n).length = if n = 0 then 1 else nl 10 n := by unfold decN; split <;> simp
theorem decN_isD (n : Nat) : ∀ c ∈ decN n, isD c = true := by
  unfold decN; split
  · intro c hc; simp at hc; subst hc; rfl
  · exact decD_isD n _
theorem valD_decN (n : Nat) : valD (decN n) = n := by
  unfold decN; split
  · rename_i h; subst h; rfl
  · rw [valD_decD, Nat.mod_eq_of_lt (lt_pow_nl (by omega) n)]
theorem decN_eq_decD (n : Nat) : decN n = decD n (decN n).length := by
  have := (decD_valD (decN_isD n)).1
  rw [valD_decN] at this; exact this.symm
theorem decN_ne (n : Nat) : decN n ≠ [] := by
  intro h
  have := decN_length n
  rw [h] at this
  split at this
  · simp at this
  · rename_i h0; have := nl_pos (b := 10) (by omega) h0; simp at *; omega
/-- A decimal text without zeros ahead. -/
theorem decN_of {l : List UInt8} (h : ∀ c ∈ l, isD c = true) (hne : l ≠ []) (h0 : l.head? = some 48 → l.length = 1) : l = decN (valD l) := by
  obtain ⟨h1, h2⟩ := decD_valD h
  cases l with
  | nil => exact absurd rfl hne
  | cons c t =>
    by_cases hv : valD (c :: t) = 0
    · have hc : c.toNat - 48 = 0 := by
        have e := valD_cons c t
        rw [hv] at e
        have := Nat.pow_pos (n := t.length) (show 0 < 10 by omega)
        have h3 : (c.toNat - 48) * 10 ^ t.length = 0 := by omega
        rcases Nat.mul_eq_zero.1 h3 with h | h
        · exact h
        · omega
      have hcd := h c (List.mem_cons_self)
      simp only [isD, Bool.and_eq_true, decide_eq_true_eq] at hcd
      have hc48 : c = 48 := by apply UInt8.toNat_inj.1; show c.toNat = 48; omega
      subst hc48
      have := h0 rfl
      simp at this
      subst this
      rfl
    · unfold decN
      rw [if_neg hv]
      have hlen : nl 10 (valD (c :: t)) = (c :: t).length := by
        have a1 : nl 10 (valD (c :: t)) ≤ (c :: t).length := (nl_le (by omega)).2 h2
        have a2 : t.length < nl 10 (valD (c :: t)) := by
          rw [nl_lt (by omega), valD_cons]
          have hcd := h c (List.mem_cons_self)
          simp only [isD, Bool.and_eq_true, decide_eq_true_eq] at hcd
          have hc48 : c.toNat ≠ 48 := by
            intro hc
            have : c = 48 := by apply UInt8.toNat_inj.1; exact hc
            subst this
            have := h0 rfl
            simp at this
            subst this
            exact hv rfl
          have : 1 * 10 ^ t.length ≤ (c.toNat - 48) * 10 ^ t.length := Nat.mul_le_mul_right _ (by omega)
          omega
        simp at a1 ⊢; omega
      rw [hlen]; exact h1.symm
end Go.Num
/- The environment of this seat's walks: which functions are walked through where they are called. -/
namespace Go.Proofs.YtkhbmendaapojaaGreatDoor
open Go Go.Vx
set_option maxRecDepth 100000
noncomputable def Tryz.inlL : List (Nat × Func) :=
  (51, Tryz.f51) ::
  (74, Tryz.f74) ::
  (42, Tryz.f42) ::
  (63, Tryz.f63) ::
  (84, Tryz.f84) ::
  (40, Tryz.f40) ::
  (87, Tryz.f87) ::
  (89, Tryz.f89) ::
  (91, Tryz.f91) ::
  (92, Tryz.f92) ::
  (68, Tryz.f68) ::
  (142, Tryz.f142) ::
  (49, Tryz.f49) ::
  (27, Tryz.f27) ::
  (105, Tryz.f105) ::
  (140, Tryz.f140) ::
  (114, Tryz.f114) ::
  (138, Tryz.f138) ::
  (119, Tryz.f119) ::
  (141, Tryz.f141) ::
  (133, Tryz.f133) ::
  []
/-- Functions that hand out a row of their own, for a call in a region that draws its order. -/
def Tryz.frL : List Nat :=
  49 ::
  []
noncomputable def Tryz.E : Env := Tryz.envOf Tryz.inlL Tryz.frL
theorem Tryz.eok : EnvOk Tryz.E := Tryz.envOk Tryz.inlL Tryz.frL <|
  And.intro Tryz.func51 <|
  And.intro Tryz.func74 <|
  And.intro Tryz.func42 <|
  And.intro Tryz.func63 <|
  And.intro Tryz.func84 <|
  And.intro Tryz.func40 <|
  And.intro Tryz.func87 <|
  And.intro Tryz.func89 <|
  And.intro Tryz.func91 <|
  And.intro Tryz.func92 <|
  And.intro Tryz.func68 <|
  And.intro Tryz.func142 <|
  And.intro Tryz.func49 <|
  And.intro Tryz.func27 <|
  And.intro Tryz.func105 <|
  And.intro Tryz.func140 <|
  And.intro Tryz.func114 <|
  And.intro Tryz.func138 <|
  And.intro Tryz.func119 <|
  And.intro Tryz.func141 <|
  And.intro Tryz.func133 <|
  trivial
theorem pure_of {f : Nat} {fn : Func} {c : Code} (hf : Tryz.prog.funcs[f]? = some fn) (hb : fn.body = some c) {Vs : List V} {R : Out → Prop} (n : Nat)
    (h : vc Tryz.E none n c (padTo Vs fn.ntmps) [] [] (finK Tryz.tab fn (fun o L => R (sealO L o)))) : Pure Tryz.prog f Vs R :=
  Pure.of_callS (callS_of_code (E := Tryz.E) Tryz.tok hf hb ((good Tryz.eok n).2.2.1 none c _ _ _ _ h))
abbrev w64 (n : Int) : Int := IntKind.i64.wrap n
abbrev i64 (n : Int) : V := .int .i64 n
abbrev u64 (n : Int) : V := .int .u64 n
/-- A row of one integer a place. -/
abbrev rowU (n : Nat) (g : Nat → Int) : V := .ro 1 n (fun i => [.int .u64 (g i)])
abbrev rowI (n : Nat) (g : Nat → Int) : V := .ro 1 n (fun i => [.int .i64 (g i)])
theorem guardI {a : Int} {n : Nat} (h : 0 ≤ a ∧ a < n) : (decide (0 ≤ a) && decide (a < (n : Int))) = true := by simp [h.1, h.2]
end Go.Proofs.YtkhbmendaapojaaGreatDoor
/- Points: minus, cross, dot, far. -/
namespace Go.Proofs.YtkhbmendaapojaaGreatDoor
open Go Go.Vx
set_option maxRecDepth 100000
attribute [local irreducible] CallV LoopV CodeV
abbrev pt (a b c : Int) : V := .agg [.int .i64 a, .int .i64 b, .int .i64 c]
theorem pminus_pure (a0 a1 a2 b0 b1 b2 : Int) : Pure Tryz.prog 83 [pt a0 a1 a2, pt b0 b1 b2] (fun o => o = .ret (pt (w64 (a0 - b0)) (w64 (a1 - b1)) (w64 (a2 - b2)))) := by
  refine pure_of Tryz.func83 rfl 100 ?_
  conv => whnf
  rfl
theorem rminus_pure (a0 a1 a2 b0 b1 b2 : Int) : Pure Tryz.prog 107 [pt a0 a1 a2, pt b0 b1 b2] (fun o => o = .ret (pt (w64 (a0 - b0)) (w64 (a1 - b1)) (w64 (a2 - b2)))) := by
  refine pure_of Tryz.func107 rfl 100 ?_
  conv => whnf
  rfl
theorem lminus_pure (a0 a1 a2 b0 b1 b2 : Int) : Pure Tryz.prog 25 [pt a0 a1 a2, pt b0 b1 b2] (fun o => o = .ret (pt (w64 (a0 - b0)) (w64 (a1 - b1)) (w64 (a2 - b2)))) := by
  refine pure_of Tryz.func25 rfl 100 ?_
  conv => whnf
  rfl
def crossC (a b c d : Int) : Int := w64 (w64 (a * b) - w64 (c * d))
theorem cross_pure (a0 a1 a2 b0 b1 b2 : Int) : Pure Tryz.prog 44 [pt a0 a1 a2, pt b0 b1 b2] (fun o => o = .ret (pt (crossC a1 b2 a2 b1) (crossC a2 b0 a0 b2) (crossC a0 b1 a1 b0))) := by
  refine pure_of Tryz.func44 rfl 100 ?_
  conv => whnf
  rfl
theorem rcross_pure (a0 a1 a2 b0 b1 b2 : Int) : Pure Tryz.prog 47 [pt a0 a1 a2, pt b0 b1 b2] (fun o => o = .ret (pt (crossC a1 b2 a2 b1) (crossC a2 b0 a0 b2) (crossC a0 b1 a1 b0))) := by
  refine pure_of Tryz.func47 rfl 100 ?_
  conv => whnf
  rfl
theorem lcross_pure (a0 a1 a2 b0 b1 b2 : Int) : Pure Tryz.prog 24 [pt a0 a1 a2, pt b0 b1 b2] (fun o => o = .ret (pt (crossC a1 b2 a2 b1) (crossC a2 b0 a0 b2) (crossC a0 b1 a1 b0))) := by
  refine pure_of Tryz.func24 rfl 100 ?_
  conv => whnf
  rfl
def dotC (a0 a1 a2 b0 b1 b2 : Int) : Int := w64 (w64 (w64 (a0 * b0) + w64 (a1 * b1)) + w64 (a2 * b2))
theorem dot_pure (a0 a1 a2 b0 b1 b2 : Int) : Pure Tryz.prog 43 [pt a0 a1 a2, pt b0 b1 b2] (fun o => o = .ret (i64 (dotC a0 a1 a2 b0 b1 b2))) := by
  refine pure_of Tryz.func43 rfl 100 ?_
  conv => whnf
  rfl
theorem rdot_pure (a0 a1 a2 b0 b1 b2 : Int) : Pure Tryz.prog 46 [pt a0 a1 a2, pt b0 b1 b2] (fun o => o = .ret (i64 (dotC a0 a1 a2 b0 b1 b2))) := by
  refine pure_of Tryz.func46 rfl 100 ?_
  conv => whnf
  rfl
def farB (n : Int) : Bool := decide (n < -200000) || decide (200000 < n)
def far3 (a b c : Int) : Bool := farB a || farB b || farB c
theorem far1_pure (a : Int) : Pure Tryz.prog 75 [i64 a] (fun o => o = .ret (.bool (farB a))) := by
  refine pure_of Tryz.func75 rfl 100 ?_
  conv => whnf
  refine branchI (fun h1 => ?_) (fun h1 => ?_)
  · conv => whnf
    exact retB (by simp [farB, h1])
  · conv => whnf
    exact retB (by simp [farB, h1])
theorem far_pure (a0 a1 a2 : Int) : Pure Tryz.prog 53 [pt a0 a1 a2] (fun o => o = .ret (.bool (far3 a0 a1 a2))) := by
  refine pure_of Tryz.func53 rfl 200 ?_
  conv => whnf
  refine loop_unroll Tryz.eok 100 5 ?_
  conv => whnf
  refine callF1 (far1_pure _) rfl rfl ?_
  conv => whnf
  refine branchI (fun h1 => ?_) (fun h1 => ?_)
  · conv => whnf
    exact retB (by simp [far3, h1])
  conv => whnf
  refine callF1 (far1_pure _) rfl rfl ?_
  conv => whnf
  refine branchI (fun h2 => ?_) (fun h2 => ?_)
  · conv => whnf
    exact retB (by simp [far3, h2]; decide)
  conv => whnf
  refine callF1 (far1_pure _) rfl rfl ?_
  conv => whnf
  refine branchI (fun h3 => ?_) (fun h3 => ?_)
  · conv => whnf
    exact retB (by simp [far3, h3]; decide)
  conv => whnf
  exact retB (by simp [far3, h1, h2, h3])
end Go.Proofs.YtkhbmendaapojaaGreatDoor
