/- The types of the seat's program, as the abstract state looks at them. Printed by gen_tab.py. -/
import Derived.Test.YtocfhkmdkdjinaaDoorProg
import Derived.Test.YtocfhkmdkdjinaaDoorZk
namespace Go.Proofs.YtocfhkmdkdjinaaDoor
open Go
set_option linter.unusedVariables false
set_option maxRecDepth 100000

def tabL : List TI := [
  ⟨.none, 1, 0, .bot, false⟩,
  ⟨.none, 1, 8, .nilF, false⟩,
  ⟨.int .i64, 1, 8, .int .i64 0, false⟩,
  ⟨.int .i64, 1, 8, .int .i64 0, false⟩,
  ⟨.bool, 1, 1, .bool false, false⟩,
  ⟨.int .u8, 1, 1, .u8 0, false⟩,
  ⟨.int .u8, 1, 1, .u8 0, false⟩,
  ⟨.struct [(0, 2), (1, 3), (2, 4), (3, 6)], 4, 24, .agg [.int .i64 0, .int .i64 0, .bool false, .u8 0], false⟩,
  ⟨.struct [(0, 2), (1, 3), (2, 4), (3, 6)], 4, 24, .agg [.int .i64 0, .int .i64 0, .bool false, .u8 0], false⟩,
  ⟨.str, 1, 16, .str [], false⟩,
  ⟨.str, 1, 16, .str [], false⟩,
  ⟨.str, 1, 16, .str [], false⟩,
  ⟨.int .u64, 1, 8, .int .u64 0, false⟩,
  ⟨.struct [(0, 9), (1, 12)], 2, 24, .agg [.str [], .int .u64 0], false⟩,
  ⟨.struct [(0, 9), (1, 12)], 2, 24, .agg [.str [], .int .u64 0], false⟩,
  ⟨.ptr 189, 1, 8, .nilP, false⟩,
  ⟨.ptr 192, 1, 8, .nilP, false⟩,
  ⟨.ptr 200, 1, 8, .nilP, false⟩,
  ⟨.struct [(0, 17)], 1, 8, .agg [.nilP], false⟩,
  ⟨.struct [(0, 17)], 1, 8, .agg [.nilP], false⟩,
  ⟨.none, 1, 16, .bot, false⟩,
  ⟨.int .i32, 1, 4, .int .i32 0, false⟩,
  ⟨.arr 32 5, 32, 32, .aggb (List.replicate 32 0), false⟩,
  ⟨.arr 2 22, 64, 64, .aggb (List.replicate 64 0), false⟩,
  ⟨.arr 16 5, 16, 16, .aggb (List.replicate 16 0), false⟩,
  ⟨.slice 5, 1, 24, .nilS, false⟩,
  ⟨.int .i64, 1, 8, .int .i64 0, false⟩,
  ⟨.none, 1, 0, .bot, false⟩,
  ⟨.none, 1, 8, .nilF, false⟩,
  ⟨.arr 2 5, 2, 2, .aggb [0, 0], false⟩,
  ⟨.none, 1, 8, .nilF, false⟩,
  ⟨.struct [(0, 3), (1, 25)], 2, 32, .agg [.int .i64 0, .nilS], false⟩,
  ⟨.struct [(0, 3), (1, 25)], 2, 32, .agg [.int .i64 0, .nilS], false⟩,
  ⟨.slice 32, 1, 24, .nilS, false⟩,
  ⟨.struct [(0, 3), (1, 3), (2, 24), (18, 33)], 19, 56, .agg [.int .i64 0, .int .i64 0, .u8 0, .u8 0, .u8 0, .u8 0, .u8 0, .u8 0, .u8 0, .u8 0, .u8 0, .u8 0, .u8 0, .u8 0, .u8 0, .u8 0, .u8 0, .u8 0, .nilS], false⟩,
  ⟨.struct [(0, 3), (1, 3), (2, 24), (18, 33)], 19, 56, .agg [.int .i64 0, .int .i64 0, .u8 0, .u8 0, .u8 0, .u8 0, .u8 0, .u8 0, .u8 0, .u8 0, .u8 0, .u8 0, .u8 0, .u8 0, .u8 0, .u8 0, .u8 0, .u8 0, .nilS], false⟩,
  ⟨.none, 1, 0, .bot, false⟩,
  ⟨.none, 1, 8, .nilF, false⟩,
  ⟨.none, 1, 8, .nilF, false⟩,
  ⟨.none, 1, 0, .bot, false⟩,
  ⟨.none, 1, 8, .nilF, false⟩,
  ⟨.none, 1, 8, .nilF, false⟩,
  ⟨.struct [(0, 3), (1, 25), (2, 29), (4, 24), (20, 25)], 21, 80, .agg [.int .i64 0, .nilS, .u8 0, .u8 0, .u8 0, .u8 0, .u8 0, .u8 0, .u8 0, .u8 0, .u8 0, .u8 0, .u8 0, .u8 0, .u8 0, .u8 0, .u8 0, .u8 0, .u8 0, .u8 0, .nilS], false⟩,
  ⟨.struct [(0, 3), (1, 25), (2, 29), (4, 24), (20, 25)], 21, 80, .agg [.int .i64 0, .nilS, .u8 0, .u8 0, .u8 0, .u8 0, .u8 0, .u8 0, .u8 0, .u8 0, .u8 0, .u8 0, .u8 0, .u8 0, .u8 0, .u8 0, .u8 0, .u8 0, .u8 0, .u8 0, .nilS], false⟩,
  ⟨.none, 1, 8, .nilF, false⟩,
  ⟨.none, 1, 0, .bot, false⟩,
  ⟨.none, 1, 8, .nilF, false⟩,
  ⟨.none, 1, 8, .nilF, false⟩,
  ⟨.none, 1, 0, .bot, false⟩,
  ⟨.none, 1, 8, .nilF, false⟩,
  ⟨.none, 1, 8, .nilF, false⟩,
  ⟨.int .u64, 1, 8, .int .u64 0, false⟩,
  ⟨.none, 1, 8, .nilF, false⟩,
  ⟨.none, 1, 8, .nilF, false⟩,
  ⟨.none, 1, 8, .nilF, false⟩,
  ⟨.slice 83, 1, 24, .nilS, false⟩,
  ⟨.struct [(0, 3), (1, 3), (2, 24), (18, 55)], 19, 56, .agg [.int .i64 0, .int .i64 0, .u8 0, .u8 0, .u8 0, .u8 0, .u8 0, .u8 0, .u8 0, .u8 0, .u8 0, .u8 0, .u8 0, .u8 0, .u8 0, .u8 0, .u8 0, .u8 0, .nilS], false⟩,
  ⟨.struct [(0, 3), (1, 3), (2, 24), (18, 55)], 19, 56, .agg [.int .i64 0, .int .i64 0, .u8 0, .u8 0, .u8 0, .u8 0, .u8 0, .u8 0, .u8 0, .u8 0, .u8 0, .u8 0, .u8 0, .u8 0, .u8 0, .u8 0, .u8 0, .u8 0, .nilS], false⟩,
  ⟨.none, 1, 8, .nilF, false⟩,
  ⟨.none, 1, 8, .nilF, false⟩,
  ⟨.none, 1, 8, .nilF, false⟩,
  ⟨.none, 1, 8, .nilF, false⟩,
  ⟨.none, 1, 8, .nilF, false⟩,
  ⟨.none, 1, 8, .nilF, false⟩,
  ⟨.none, 1, 8, .nilF, false⟩,
  ⟨.none, 1, 0, .bot, false⟩,
  ⟨.none, 1, 8, .nilF, false⟩,
  ⟨.none, 1, 8, .nilF, false⟩,
  ⟨.none, 1, 8, .nilF, false⟩,
  ⟨.none, 1, 8, .nilF, false⟩,
  ⟨.none, 1, 8, .nilF, false⟩,
  ⟨.none, 1, 8, .nilF, false⟩,
  ⟨.none, 1, 8, .nilF, false⟩,
  ⟨.none, 1, 8, .nilF, false⟩,
  ⟨.none, 1, 8, .nilF, false⟩,
  ⟨.none, 1, 8, .nilF, false⟩,
  ⟨.none, 1, 8, .nilF, false⟩,
  ⟨.none, 1, 8, .nilF, false⟩,
  ⟨.none, 1, 8, .nilF, false⟩,
  ⟨.none, 1, 0, .bot, false⟩,
  ⟨.none, 1, 8, .nilF, false⟩,
  ⟨.none, 1, 8, .nilF, false⟩,
  ⟨.struct [(0, 3), (1, 9)], 2, 24, .agg [.int .i64 0, .str []], false⟩,
  ⟨.struct [(0, 3), (1, 9)], 2, 24, .agg [.int .i64 0, .str []], false⟩,
  ⟨.none, 1, 8, .nilF, false⟩,
  ⟨.none, 1, 8, .nilF, false⟩,
  ⟨.none, 1, 8, .nilF, false⟩,
  ⟨.none, 1, 8, .nilF, false⟩,
  ⟨.ptr 142, 1, 8, .nilP, false⟩,
  ⟨.none, 1, 0, .bot, false⟩,
  ⟨.none, 1, 8, .nilF, false⟩,
  ⟨.struct [(0, 25), (1, 22), (33, 3), (34, 3)], 35, 72, .agg [.nilS, .u8 0, .u8 0, .u8 0, .u8 0, .u8 0, .u8 0, .u8 0, .u8 0, .u8 0, .u8 0, .u8 0, .u8 0, .u8 0, .u8 0, .u8 0, .u8 0, .u8 0, .u8 0, .u8 0, .u8 0, .u8 0, .u8 0, .u8 0, .u8 0, .u8 0, .u8 0, .u8 0, .u8 0, .u8 0, .u8 0, .u8 0, .u8 0, .int .i64 0, .int .i64 0], false⟩,
  ⟨.struct [(0, 25), (1, 22), (33, 3), (34, 3)], 35, 72, .agg [.nilS, .u8 0, .u8 0, .u8 0, .u8 0, .u8 0, .u8 0, .u8 0, .u8 0, .u8 0, .u8 0, .u8 0, .u8 0, .u8 0, .u8 0, .u8 0, .u8 0, .u8 0, .u8 0, .u8 0, .u8 0, .u8 0, .u8 0, .u8 0, .u8 0, .u8 0, .u8 0, .u8 0, .u8 0, .u8 0, .u8 0, .u8 0, .u8 0, .int .i64 0, .int .i64 0], false⟩,
  ⟨.none, 1, 8, .nilF, false⟩,
  ⟨.none, 1, 0, .bot, false⟩,
  ⟨.none, 1, 8, .nilF, false⟩,
  ⟨.int .i64, 1, 8, .int .i64 0, false⟩,
  ⟨.none, 1, 8, .nilF, false⟩,
  ⟨.none, 1, 8, .nilF, false⟩,
  ⟨.none, 1, 8, .nilF, false⟩,
  ⟨.none, 1, 8, .nilF, false⟩,
  ⟨.none, 1, 8, .nilF, false⟩,
  ⟨.none, 1, 8, .nilF, false⟩,
  ⟨.none, 1, 8, .nilF, false⟩,
  ⟨.arr 64 5, 64, 64, .aggb (List.replicate 64 0), false⟩,
  ⟨.none, 1, 0, .bot, false⟩,
  ⟨.none, 1, 8, .nilF, false⟩,
  ⟨.none, 1, 8, .nilF, false⟩,
  ⟨.slice 25, 1, 24, .nilS, false⟩,
  ⟨.none, 1, 0, .bot, false⟩,
  ⟨.none, 1, 8, .nilF, false⟩,
  ⟨.ptr 152, 1, 8, .nilP, false⟩,
  ⟨.none, 1, 8, .nilF, false⟩,
  ⟨.none, 1, 8, .nilF, false⟩,
  ⟨.struct [(0, 3), (1, 3), (2, 3), (3, 25)], 4, 48, .agg [.int .i64 0, .int .i64 0, .int .i64 0, .nilS], false⟩,
  ⟨.struct [(0, 3), (1, 3), (2, 3), (3, 25)], 4, 48, .agg [.int .i64 0, .int .i64 0, .int .i64 0, .nilS], false⟩,
  ⟨.none, 1, 0, .bot, false⟩,
  ⟨.none, 1, 8, .nilF, false⟩,
  ⟨.none, 1, 0, .bot, false⟩,
  ⟨.none, 1, 8, .nilF, false⟩,
  ⟨.none, 1, 8, .nilF, false⟩,
  ⟨.none, 1, 8, .nilF, false⟩,
  ⟨.none, 1, 8, .nilF, false⟩,
  ⟨.none, 1, 8, .nilF, false⟩,
  ⟨.none, 1, 8, .nilF, false⟩,
  ⟨.none, 1, 8, .nilF, false⟩,
  ⟨.none, 1, 8, .nilF, false⟩,
  ⟨.none, 1, 8, .nilF, false⟩,
  ⟨.none, 1, 8, .nilF, false⟩,
  ⟨.none, 1, 8, .nilF, false⟩,
  ⟨.none, 1, 8, .nilF, false⟩,
  ⟨.none, 1, 8, .nilF, false⟩,
  ⟨.int .u64, 1, 8, .int .u64 0, false⟩,
  ⟨.none, 1, 8, .nilF, false⟩,
  ⟨.none, 1, 8, .nilF, false⟩,
  ⟨.none, 1, 8, .nilF, false⟩,
  ⟨.none, 1, 0, .bot, false⟩,
  ⟨.none, 1, 8, .nilF, false⟩,
  ⟨.none, 1, 8, .nilF, false⟩,
  ⟨.none, 1, 8, .nilF, false⟩,
  ⟨.none, 1, 8, .nilF, false⟩,
  ⟨.struct [(0, 92), (35, 96), (36, 3), (37, 3), (38, 24), (54, 25), (55, 25), (56, 4), (57, 25), (58, 3), (59, 3), (60, 104)], 124, 272, .agg [.nilS, .u8 0, .u8 0, .u8 0, .u8 0, .u8 0, .u8 0, .u8 0, .u8 0, .u8 0, .u8 0, .u8 0, .u8 0, .u8 0, .u8 0, .u8 0, .u8 0, .u8 0, .u8 0, .u8 0, .u8 0, .u8 0, .u8 0, .u8 0, .u8 0, .u8 0, .u8 0, .u8 0, .u8 0, .u8 0, .u8 0, .u8 0, .u8 0, .int .i64 0, .int .i64 0, .int .i64 0, .int .i64 0, .int .i64 0, .u8 0, .u8 0, .u8 0, .u8 0, .u8 0, .u8 0, .u8 0, .u8 0, .u8 0, .u8 0, .u8 0, .u8 0, .u8 0, .u8 0, .u8 0, .u8 0, .nilS, .nilS, .bool false, .nilS, .int .i64 0, .int .i64 0, .u8 0, .u8 0, .u8 0, .u8 0, .u8 0, .u8 0, .u8 0, .u8 0, .u8 0, .u8 0, .u8 0, .u8 0, .u8 0, .u8 0, .u8 0, .u8 0, .u8 0, .u8 0, .u8 0, .u8 0, .u8 0, .u8 0, .u8 0, .u8 0, .u8 0, .u8 0, .u8 0, .u8 0, .u8 0, .u8 0, .u8 0, .u8 0, .u8 0, .u8 0, .u8 0, .u8 0, .u8 0, .u8 0, .u8 0, .u8 0, .u8 0, .u8 0, .u8 0, .u8 0, .u8 0, .u8 0, .u8 0, .u8 0, .u8 0, .u8 0, .u8 0, .u8 0, .u8 0, .u8 0, .u8 0, .u8 0, .u8 0, .u8 0, .u8 0, .u8 0, .u8 0, .u8 0, .u8 0, .u8 0], false⟩,
  ⟨.struct [(0, 92), (35, 96), (36, 3), (37, 3), (38, 24), (54, 25), (55, 25), (56, 4), (57, 25), (58, 3), (59, 3), (60, 104)], 124, 272, .agg [.nilS, .u8 0, .u8 0, .u8 0, .u8 0, .u8 0, .u8 0, .u8 0, .u8 0, .u8 0, .u8 0, .u8 0, .u8 0, .u8 0, .u8 0, .u8 0, .u8 0, .u8 0, .u8 0, .u8 0, .u8 0, .u8 0, .u8 0, .u8 0, .u8 0, .u8 0, .u8 0, .u8 0, .u8 0, .u8 0, .u8 0, .u8 0, .u8 0, .int .i64 0, .int .i64 0, .int .i64 0, .int .i64 0, .int .i64 0, .u8 0, .u8 0, .u8 0, .u8 0, .u8 0, .u8 0, .u8 0, .u8 0, .u8 0, .u8 0, .u8 0, .u8 0, .u8 0, .u8 0, .u8 0, .u8 0, .nilS, .nilS, .bool false, .nilS, .int .i64 0, .int .i64 0, .u8 0, .u8 0, .u8 0, .u8 0, .u8 0, .u8 0, .u8 0, .u8 0, .u8 0, .u8 0, .u8 0, .u8 0, .u8 0, .u8 0, .u8 0, .u8 0, .u8 0, .u8 0, .u8 0, .u8 0, .u8 0, .u8 0, .u8 0, .u8 0, .u8 0, .u8 0, .u8 0, .u8 0, .u8 0, .u8 0, .u8 0, .u8 0, .u8 0, .u8 0, .u8 0, .u8 0, .u8 0, .u8 0, .u8 0, .u8 0, .u8 0, .u8 0, .u8 0, .u8 0, .u8 0, .u8 0, .u8 0, .u8 0, .u8 0, .u8 0, .u8 0, .u8 0, .u8 0, .u8 0, .u8 0, .u8 0, .u8 0, .u8 0, .u8 0, .u8 0, .u8 0, .u8 0, .u8 0, .u8 0], false⟩,
  ⟨.none, 1, 8, .nilF, false⟩,
  ⟨.none, 1, 8, .nilF, false⟩,
  ⟨.none, 1, 8, .nilF, false⟩,
  ⟨.ptr 174, 1, 8, .nilP, false⟩,
  ⟨.none, 1, 8, .nilF, false⟩,
  ⟨.none, 1, 8, .nilF, false⟩,
  ⟨.none, 1, 8, .nilF, false⟩,
  ⟨.none, 1, 8, .nilF, false⟩,
  ⟨.struct [(0, 4), (1, 3), (2, 25)], 3, 40, .agg [.bool false, .int .i64 0, .nilS], false⟩,
  ⟨.struct [(0, 4), (1, 3), (2, 25)], 3, 40, .agg [.bool false, .int .i64 0, .nilS], false⟩,
  ⟨.none, 1, 0, .bot, false⟩,
  ⟨.none, 1, 8, .nilF, false⟩,
  ⟨.none, 1, 8, .nilF, false⟩,
  ⟨.none, 1, 8, .nilF, false⟩,
  ⟨.none, 1, 8, .nilF, false⟩,
  ⟨.none, 1, 8, .nilF, false⟩,
  ⟨.none, 1, 8, .nilF, false⟩,
  ⟨.int .u32, 1, 4, .u32 0, false⟩,
  ⟨.arr 4 160, 4, 16, .agg [.u32 0, .u32 0, .u32 0, .u32 0], false⟩,
  ⟨.none, 1, 8, .nilF, false⟩,
  ⟨.none, 1, 8, .nilF, false⟩,
  ⟨.none, 1, 8, .nilF, false⟩,
  ⟨.none, 1, 8, .nilF, false⟩,
  ⟨.none, 1, 8, .nilF, false⟩,
  ⟨.arr 64 160, 64, 256, .agg [.u32 0, .u32 0, .u32 0, .u32 0, .u32 0, .u32 0, .u32 0, .u32 0, .u32 0, .u32 0, .u32 0, .u32 0, .u32 0, .u32 0, .u32 0, .u32 0, .u32 0, .u32 0, .u32 0, .u32 0, .u32 0, .u32 0, .u32 0, .u32 0, .u32 0, .u32 0, .u32 0, .u32 0, .u32 0, .u32 0, .u32 0, .u32 0, .u32 0, .u32 0, .u32 0, .u32 0, .u32 0, .u32 0, .u32 0, .u32 0, .u32 0, .u32 0, .u32 0, .u32 0, .u32 0, .u32 0, .u32 0, .u32 0, .u32 0, .u32 0, .u32 0, .u32 0, .u32 0, .u32 0, .u32 0, .u32 0, .u32 0, .u32 0, .u32 0, .u32 0, .u32 0, .u32 0, .u32 0, .u32 0], false⟩,
  ⟨.none, 1, 8, .nilF, false⟩,
  ⟨.none, 1, 8, .nilF, false⟩,
  ⟨.none, 1, 8, .nilF, false⟩,
  ⟨.arr 2 4, 2, 2, .agg [.bool false, .bool false], false⟩,
  ⟨.arr 8 160, 8, 32, .agg [.u32 0, .u32 0, .u32 0, .u32 0, .u32 0, .u32 0, .u32 0, .u32 0], false⟩,
  ⟨.struct [(0, 172), (8, 25), (9, 3)], 10, 64, .agg [.u32 0, .u32 0, .u32 0, .u32 0, .u32 0, .u32 0, .u32 0, .u32 0, .nilS, .int .i64 0], false⟩,
  ⟨.struct [(0, 172), (8, 25), (9, 3)], 10, 64, .agg [.u32 0, .u32 0, .u32 0, .u32 0, .u32 0, .u32 0, .u32 0, .u32 0, .nilS, .int .i64 0], false⟩,
  ⟨.none, 1, 8, .nilF, false⟩,
  ⟨.none, 1, 8, .nilF, false⟩,
  ⟨.none, 1, 8, .nilF, false⟩,
  ⟨.arr 16 3, 16, 128, .agg [.int .i64 0, .int .i64 0, .int .i64 0, .int .i64 0, .int .i64 0, .int .i64 0, .int .i64 0, .int .i64 0, .int .i64 0, .int .i64 0, .int .i64 0, .int .i64 0, .int .i64 0, .int .i64 0, .int .i64 0, .int .i64 0], false⟩,
  ⟨.arr 4 3, 4, 32, .agg [.int .i64 0, .int .i64 0, .int .i64 0, .int .i64 0], false⟩,
  ⟨.arr 4 179, 16, 128, .agg [.int .i64 0, .int .i64 0, .int .i64 0, .int .i64 0, .int .i64 0, .int .i64 0, .int .i64 0, .int .i64 0, .int .i64 0, .int .i64 0, .int .i64 0, .int .i64 0, .int .i64 0, .int .i64 0, .int .i64 0, .int .i64 0], false⟩,
  ⟨.none, 1, 0, .bot, false⟩,
  ⟨.none, 1, 8, .nilF, false⟩,
  ⟨.none, 1, 8, .nilF, false⟩,
  ⟨.none, 1, 0, .bot, false⟩,
  ⟨.none, 1, 8, .nilF, false⟩,
  ⟨.none, 1, 0, .bot, false⟩,
  ⟨.none, 1, 8, .nilF, false⟩,
  ⟨.struct [(0, 17), (1, 17), (2, 17), (3, 9)], 4, 40, .agg [.nilP, .nilP, .nilP, .str []], false⟩,
  ⟨.struct [(0, 17), (1, 17), (2, 17), (3, 9)], 4, 40, .agg [.nilP, .nilP, .nilP, .str []], false⟩,
  ⟨.arr 0 16, 0, 0, .aggb [], false⟩,
  ⟨.struct [(0, 190)], 0, 0, .aggb [], false⟩,
  ⟨.struct [(0, 190)], 0, 0, .aggb [], false⟩,
  ⟨.int .u8, 1, 1, .u8 0, false⟩,
  ⟨.int .u8, 1, 1, .u8 0, false⟩,
  ⟨.none, 1, 8, .nilF, false⟩,
  ⟨.ptr 5, 1, 8, .nilP, false⟩,
  ⟨.int .i32, 1, 4, .int .i32 0, false⟩,
  ⟨.int .i32, 1, 4, .int .i32 0, false⟩,
  ⟨.struct [(0, 12), (1, 12), (2, 160), (3, 193), (4, 5), (5, 5), (6, 194), (7, 195), (8, 196), (9, 197), (10, 198)], 11, 48, .agg [.int .u64 0, .int .u64 0, .u32 0, .u8 0, .u8 0, .u8 0, .u8 0, .nilF, .nilP, .int .i32 0, .int .i32 0], false⟩,
  ⟨.struct [(0, 12), (1, 12), (2, 160), (3, 193), (4, 5), (5, 5), (6, 194), (7, 195), (8, 196), (9, 197), (10, 198)], 11, 48, .agg [.int .u64 0, .int .u64 0, .u32 0, .u8 0, .u8 0, .u8 0, .u8 0, .nilF, .nilP, .int .i32 0, .int .i32 0], false⟩,
  ⟨.none, 1, 8, .nilP, false⟩
]
noncomputable def Ti (t : Nat) : TI :=
  match Nat.blt t 202 with
  | true => tabL.getD t ⟨.none, 0, 0, .bot, false⟩
  | false => tiOf Tryd.prog t
theorem tab_ok : (List.range 202).map (tiOf Tryd.prog) = tabL := by kernel_rfl
theorem ti_eq : tiOf Tryd.prog = Ti := by
  funext t
  unfold Ti
  split
  · rename_i h
    have ht : t < 202 := by simpa [Nat.blt_eq] using h
    rw [← tab_ok]
    simp [List.getD_eq_getElem?_getD, ht]
  · rfl
theorem sz0 : (Ti 0).sz = 1 := rfl
theorem sz1 : (Ti 1).sz = 1 := rfl
theorem sz2 : (Ti 2).sz = 1 := rfl
theorem sz3 : (Ti 3).sz = 1 := rfl
theorem sz4 : (Ti 4).sz = 1 := rfl
theorem sz5 : (Ti 5).sz = 1 := rfl
theorem sz6 : (Ti 6).sz = 1 := rfl
theorem sz7 : (Ti 7).sz = 4 := rfl
theorem sz8 : (Ti 8).sz = 4 := rfl
theorem sz9 : (Ti 9).sz = 1 := rfl
theorem sz10 : (Ti 10).sz = 1 := rfl
theorem sz11 : (Ti 11).sz = 1 := rfl
theorem sz12 : (Ti 12).sz = 1 := rfl
theorem sz13 : (Ti 13).sz = 2 := rfl
theorem sz14 : (Ti 14).sz = 2 := rfl
theorem sz15 : (Ti 15).sz = 1 := rfl
theorem sz16 : (Ti 16).sz = 1 := rfl
theorem sz17 : (Ti 17).sz = 1 := rfl
theorem sz18 : (Ti 18).sz = 1 := rfl
theorem sz19 : (Ti 19).sz = 1 := rfl
theorem sz20 : (Ti 20).sz = 1 := rfl
theorem sz21 : (Ti 21).sz = 1 := rfl
theorem sz22 : (Ti 22).sz = 32 := rfl
theorem sz23 : (Ti 23).sz = 64 := rfl
theorem sz24 : (Ti 24).sz = 16 := rfl
theorem sz25 : (Ti 25).sz = 1 := rfl
theorem sz26 : (Ti 26).sz = 1 := rfl
theorem sz27 : (Ti 27).sz = 1 := rfl
theorem sz28 : (Ti 28).sz = 1 := rfl
theorem sz29 : (Ti 29).sz = 2 := rfl
theorem sz30 : (Ti 30).sz = 1 := rfl
theorem sz31 : (Ti 31).sz = 2 := rfl
theorem sz32 : (Ti 32).sz = 2 := rfl
theorem sz33 : (Ti 33).sz = 1 := rfl
theorem sz34 : (Ti 34).sz = 19 := rfl
theorem sz35 : (Ti 35).sz = 19 := rfl
theorem sz36 : (Ti 36).sz = 1 := rfl
theorem sz37 : (Ti 37).sz = 1 := rfl
theorem sz38 : (Ti 38).sz = 1 := rfl
theorem sz39 : (Ti 39).sz = 1 := rfl
theorem sz40 : (Ti 40).sz = 1 := rfl
theorem sz41 : (Ti 41).sz = 1 := rfl
theorem sz42 : (Ti 42).sz = 21 := rfl
theorem sz43 : (Ti 43).sz = 21 := rfl
theorem sz44 : (Ti 44).sz = 1 := rfl
theorem sz45 : (Ti 45).sz = 1 := rfl
theorem sz46 : (Ti 46).sz = 1 := rfl
theorem sz47 : (Ti 47).sz = 1 := rfl
theorem sz48 : (Ti 48).sz = 1 := rfl
theorem sz49 : (Ti 49).sz = 1 := rfl
theorem sz50 : (Ti 50).sz = 1 := rfl
theorem sz51 : (Ti 51).sz = 1 := rfl
theorem sz52 : (Ti 52).sz = 1 := rfl
theorem sz53 : (Ti 53).sz = 1 := rfl
theorem sz54 : (Ti 54).sz = 1 := rfl
theorem sz55 : (Ti 55).sz = 1 := rfl
theorem sz56 : (Ti 56).sz = 19 := rfl
theorem sz57 : (Ti 57).sz = 19 := rfl
theorem sz58 : (Ti 58).sz = 1 := rfl
theorem sz59 : (Ti 59).sz = 1 := rfl
theorem sz60 : (Ti 60).sz = 1 := rfl
theorem sz61 : (Ti 61).sz = 1 := rfl
theorem sz62 : (Ti 62).sz = 1 := rfl
theorem sz63 : (Ti 63).sz = 1 := rfl
theorem sz64 : (Ti 64).sz = 1 := rfl
theorem sz65 : (Ti 65).sz = 1 := rfl
theorem sz66 : (Ti 66).sz = 1 := rfl
theorem sz67 : (Ti 67).sz = 1 := rfl
theorem sz68 : (Ti 68).sz = 1 := rfl
theorem sz69 : (Ti 69).sz = 1 := rfl
theorem sz70 : (Ti 70).sz = 1 := rfl
theorem sz71 : (Ti 71).sz = 1 := rfl
theorem sz72 : (Ti 72).sz = 1 := rfl
theorem sz73 : (Ti 73).sz = 1 := rfl
theorem sz74 : (Ti 74).sz = 1 := rfl
theorem sz75 : (Ti 75).sz = 1 := rfl
theorem sz76 : (Ti 76).sz = 1 := rfl
theorem sz77 : (Ti 77).sz = 1 := rfl
theorem sz78 : (Ti 78).sz = 1 := rfl
theorem sz79 : (Ti 79).sz = 1 := rfl
theorem sz80 : (Ti 80).sz = 1 := rfl
theorem sz81 : (Ti 81).sz = 1 := rfl
theorem sz82 : (Ti 82).sz = 2 := rfl
theorem sz83 : (Ti 83).sz = 2 := rfl
theorem sz84 : (Ti 84).sz = 1 := rfl
theorem sz85 : (Ti 85).sz = 1 := rfl
theorem sz86 : (Ti 86).sz = 1 := rfl
theorem sz87 : (Ti 87).sz = 1 := rfl
theorem sz88 : (Ti 88).sz = 1 := rfl
theorem sz89 : (Ti 89).sz = 1 := rfl
theorem sz90 : (Ti 90).sz = 1 := rfl
theorem sz91 : (Ti 91).sz = 35 := rfl
theorem sz92 : (Ti 92).sz = 35 := rfl
theorem sz93 : (Ti 93).sz = 1 := rfl
theorem sz94 : (Ti 94).sz = 1 := rfl
theorem sz95 : (Ti 95).sz = 1 := rfl
theorem sz96 : (Ti 96).sz = 1 := rfl
theorem sz97 : (Ti 97).sz = 1 := rfl
theorem sz98 : (Ti 98).sz = 1 := rfl
theorem sz99 : (Ti 99).sz = 1 := rfl
theorem sz100 : (Ti 100).sz = 1 := rfl
theorem sz101 : (Ti 101).sz = 1 := rfl
theorem sz102 : (Ti 102).sz = 1 := rfl
theorem sz103 : (Ti 103).sz = 1 := rfl
theorem sz104 : (Ti 104).sz = 64 := rfl
theorem sz105 : (Ti 105).sz = 1 := rfl
theorem sz106 : (Ti 106).sz = 1 := rfl
theorem sz107 : (Ti 107).sz = 1 := rfl
theorem sz108 : (Ti 108).sz = 1 := rfl
theorem sz109 : (Ti 109).sz = 1 := rfl
theorem sz110 : (Ti 110).sz = 1 := rfl
theorem sz111 : (Ti 111).sz = 1 := rfl
theorem sz112 : (Ti 112).sz = 1 := rfl
theorem sz113 : (Ti 113).sz = 1 := rfl
theorem sz114 : (Ti 114).sz = 4 := rfl
theorem sz115 : (Ti 115).sz = 4 := rfl
theorem sz116 : (Ti 116).sz = 1 := rfl
theorem sz117 : (Ti 117).sz = 1 := rfl
theorem sz118 : (Ti 118).sz = 1 := rfl
theorem sz119 : (Ti 119).sz = 1 := rfl
theorem sz120 : (Ti 120).sz = 1 := rfl
theorem sz121 : (Ti 121).sz = 1 := rfl
theorem sz122 : (Ti 122).sz = 1 := rfl
theorem sz123 : (Ti 123).sz = 1 := rfl
theorem sz124 : (Ti 124).sz = 1 := rfl
theorem sz125 : (Ti 125).sz = 1 := rfl
theorem sz126 : (Ti 126).sz = 1 := rfl
theorem sz127 : (Ti 127).sz = 1 := rfl
theorem sz128 : (Ti 128).sz = 1 := rfl
theorem sz129 : (Ti 129).sz = 1 := rfl
theorem sz130 : (Ti 130).sz = 1 := rfl
theorem sz131 : (Ti 131).sz = 1 := rfl
theorem sz132 : (Ti 132).sz = 1 := rfl
theorem sz133 : (Ti 133).sz = 1 := rfl
theorem sz134 : (Ti 134).sz = 1 := rfl
theorem sz135 : (Ti 135).sz = 1 := rfl
theorem sz136 : (Ti 136).sz = 1 := rfl
theorem sz137 : (Ti 137).sz = 1 := rfl
theorem sz138 : (Ti 138).sz = 1 := rfl
theorem sz139 : (Ti 139).sz = 1 := rfl
theorem sz140 : (Ti 140).sz = 1 := rfl
theorem sz141 : (Ti 141).sz = 124 := rfl
theorem sz142 : (Ti 142).sz = 124 := rfl
theorem sz143 : (Ti 143).sz = 1 := rfl
theorem sz144 : (Ti 144).sz = 1 := rfl
theorem sz145 : (Ti 145).sz = 1 := rfl
theorem sz146 : (Ti 146).sz = 1 := rfl
theorem sz147 : (Ti 147).sz = 1 := rfl
theorem sz148 : (Ti 148).sz = 1 := rfl
theorem sz149 : (Ti 149).sz = 1 := rfl
theorem sz150 : (Ti 150).sz = 1 := rfl
theorem sz151 : (Ti 151).sz = 3 := rfl
theorem sz152 : (Ti 152).sz = 3 := rfl
theorem sz153 : (Ti 153).sz = 1 := rfl
theorem sz154 : (Ti 154).sz = 1 := rfl
theorem sz155 : (Ti 155).sz = 1 := rfl
theorem sz156 : (Ti 156).sz = 1 := rfl
theorem sz157 : (Ti 157).sz = 1 := rfl
theorem sz158 : (Ti 158).sz = 1 := rfl
theorem sz159 : (Ti 159).sz = 1 := rfl
theorem sz160 : (Ti 160).sz = 1 := rfl
theorem sz161 : (Ti 161).sz = 4 := rfl
theorem sz162 : (Ti 162).sz = 1 := rfl
theorem sz163 : (Ti 163).sz = 1 := rfl
theorem sz164 : (Ti 164).sz = 1 := rfl
theorem sz165 : (Ti 165).sz = 1 := rfl
theorem sz166 : (Ti 166).sz = 1 := rfl
theorem sz167 : (Ti 167).sz = 64 := rfl
theorem sz168 : (Ti 168).sz = 1 := rfl
theorem sz169 : (Ti 169).sz = 1 := rfl
theorem sz170 : (Ti 170).sz = 1 := rfl
theorem sz171 : (Ti 171).sz = 2 := rfl
theorem sz172 : (Ti 172).sz = 8 := rfl
theorem sz173 : (Ti 173).sz = 10 := rfl
theorem sz174 : (Ti 174).sz = 10 := rfl
theorem sz175 : (Ti 175).sz = 1 := rfl
theorem sz176 : (Ti 176).sz = 1 := rfl
theorem sz177 : (Ti 177).sz = 1 := rfl
theorem sz178 : (Ti 178).sz = 16 := rfl
theorem sz179 : (Ti 179).sz = 4 := rfl
theorem sz180 : (Ti 180).sz = 16 := rfl
theorem sz181 : (Ti 181).sz = 1 := rfl
theorem sz182 : (Ti 182).sz = 1 := rfl
theorem sz183 : (Ti 183).sz = 1 := rfl
theorem sz184 : (Ti 184).sz = 1 := rfl
theorem sz185 : (Ti 185).sz = 1 := rfl
theorem sz186 : (Ti 186).sz = 1 := rfl
theorem sz187 : (Ti 187).sz = 1 := rfl
theorem sz188 : (Ti 188).sz = 4 := rfl
theorem sz189 : (Ti 189).sz = 4 := rfl
theorem sz190 : (Ti 190).sz = 0 := rfl
theorem sz191 : (Ti 191).sz = 0 := rfl
theorem sz192 : (Ti 192).sz = 0 := rfl
theorem sz193 : (Ti 193).sz = 1 := rfl
theorem sz194 : (Ti 194).sz = 1 := rfl
theorem sz195 : (Ti 195).sz = 1 := rfl
theorem sz196 : (Ti 196).sz = 1 := rfl
theorem sz197 : (Ti 197).sz = 1 := rfl
theorem sz198 : (Ti 198).sz = 1 := rfl
theorem sz199 : (Ti 199).sz = 11 := rfl
theorem sz200 : (Ti 200).sz = 11 := rfl
theorem sz201 : (Ti 201).sz = 1 := rfl
theorem zc7 : (Ti 7).zero.cells = [.int .i64 0, .int .i64 0, .bool false, .u8 0] := rfl
theorem zc8 : (Ti 8).zero.cells = [.int .i64 0, .int .i64 0, .bool false, .u8 0] := rfl
theorem zc13 : (Ti 13).zero.cells = [.str [], .int .u64 0] := rfl
theorem zc14 : (Ti 14).zero.cells = [.str [], .int .u64 0] := rfl
theorem zc18 : (Ti 18).zero.cells = [.nilP] := rfl
theorem zc19 : (Ti 19).zero.cells = [.nilP] := rfl
theorem zc22 : (Ti 22).zero.cells = ((List.replicate 32 0) : List UInt8).map D.u8 := rfl
theorem zc23 : (Ti 23).zero.cells = ((List.replicate 64 0) : List UInt8).map D.u8 := rfl
theorem zc24 : (Ti 24).zero.cells = ((List.replicate 16 0) : List UInt8).map D.u8 := rfl
theorem zc29 : (Ti 29).zero.cells = ([0, 0] : List UInt8).map D.u8 := rfl
theorem zc31 : (Ti 31).zero.cells = [.int .i64 0, .nilS] := rfl
theorem zc32 : (Ti 32).zero.cells = [.int .i64 0, .nilS] := rfl
theorem zc34 : (Ti 34).zero.cells = [.int .i64 0, .int .i64 0, .u8 0, .u8 0, .u8 0, .u8 0, .u8 0, .u8 0, .u8 0, .u8 0, .u8 0, .u8 0, .u8 0, .u8 0, .u8 0, .u8 0, .u8 0, .u8 0, .nilS] := rfl
theorem zc35 : (Ti 35).zero.cells = [.int .i64 0, .int .i64 0, .u8 0, .u8 0, .u8 0, .u8 0, .u8 0, .u8 0, .u8 0, .u8 0, .u8 0, .u8 0, .u8 0, .u8 0, .u8 0, .u8 0, .u8 0, .u8 0, .nilS] := rfl
theorem zc42 : (Ti 42).zero.cells = [.int .i64 0, .nilS, .u8 0, .u8 0, .u8 0, .u8 0, .u8 0, .u8 0, .u8 0, .u8 0, .u8 0, .u8 0, .u8 0, .u8 0, .u8 0, .u8 0, .u8 0, .u8 0, .u8 0, .u8 0, .nilS] := rfl
theorem zc43 : (Ti 43).zero.cells = [.int .i64 0, .nilS, .u8 0, .u8 0, .u8 0, .u8 0, .u8 0, .u8 0, .u8 0, .u8 0, .u8 0, .u8 0, .u8 0, .u8 0, .u8 0, .u8 0, .u8 0, .u8 0, .u8 0, .u8 0, .nilS] := rfl
theorem zc56 : (Ti 56).zero.cells = [.int .i64 0, .int .i64 0, .u8 0, .u8 0, .u8 0, .u8 0, .u8 0, .u8 0, .u8 0, .u8 0, .u8 0, .u8 0, .u8 0, .u8 0, .u8 0, .u8 0, .u8 0, .u8 0, .nilS] := rfl
theorem zc57 : (Ti 57).zero.cells = [.int .i64 0, .int .i64 0, .u8 0, .u8 0, .u8 0, .u8 0, .u8 0, .u8 0, .u8 0, .u8 0, .u8 0, .u8 0, .u8 0, .u8 0, .u8 0, .u8 0, .u8 0, .u8 0, .nilS] := rfl
theorem zc82 : (Ti 82).zero.cells = [.int .i64 0, .str []] := rfl
theorem zc83 : (Ti 83).zero.cells = [.int .i64 0, .str []] := rfl
theorem zc91 : (Ti 91).zero.cells = [.nilS, .u8 0, .u8 0, .u8 0, .u8 0, .u8 0, .u8 0, .u8 0, .u8 0, .u8 0, .u8 0, .u8 0, .u8 0, .u8 0, .u8 0, .u8 0, .u8 0, .u8 0, .u8 0, .u8 0, .u8 0, .u8 0, .u8 0, .u8 0, .u8 0, .u8 0, .u8 0, .u8 0, .u8 0, .u8 0, .u8 0, .u8 0, .u8 0, .int .i64 0, .int .i64 0] := rfl
theorem zc92 : (Ti 92).zero.cells = [.nilS, .u8 0, .u8 0, .u8 0, .u8 0, .u8 0, .u8 0, .u8 0, .u8 0, .u8 0, .u8 0, .u8 0, .u8 0, .u8 0, .u8 0, .u8 0, .u8 0, .u8 0, .u8 0, .u8 0, .u8 0, .u8 0, .u8 0, .u8 0, .u8 0, .u8 0, .u8 0, .u8 0, .u8 0, .u8 0, .u8 0, .u8 0, .u8 0, .int .i64 0, .int .i64 0] := rfl
theorem zc104 : (Ti 104).zero.cells = ((List.replicate 64 0) : List UInt8).map D.u8 := rfl
theorem zc114 : (Ti 114).zero.cells = [.int .i64 0, .int .i64 0, .int .i64 0, .nilS] := rfl
theorem zc115 : (Ti 115).zero.cells = [.int .i64 0, .int .i64 0, .int .i64 0, .nilS] := rfl
theorem zc141 : (Ti 141).zero.cells = [.nilS, .u8 0, .u8 0, .u8 0, .u8 0, .u8 0, .u8 0, .u8 0, .u8 0, .u8 0, .u8 0, .u8 0, .u8 0, .u8 0, .u8 0, .u8 0, .u8 0, .u8 0, .u8 0, .u8 0, .u8 0, .u8 0, .u8 0, .u8 0, .u8 0, .u8 0, .u8 0, .u8 0, .u8 0, .u8 0, .u8 0, .u8 0, .u8 0, .int .i64 0, .int .i64 0, .int .i64 0, .int .i64 0, .int .i64 0, .u8 0, .u8 0, .u8 0, .u8 0, .u8 0, .u8 0, .u8 0, .u8 0, .u8 0, .u8 0, .u8 0, .u8 0, .u8 0, .u8 0, .u8 0, .u8 0, .nilS, .nilS, .bool false, .nilS, .int .i64 0, .int .i64 0, .u8 0, .u8 0, .u8 0, .u8 0, .u8 0, .u8 0, .u8 0, .u8 0, .u8 0, .u8 0, .u8 0, .u8 0, .u8 0, .u8 0, .u8 0, .u8 0, .u8 0, .u8 0, .u8 0, .u8 0, .u8 0, .u8 0, .u8 0, .u8 0, .u8 0, .u8 0, .u8 0, .u8 0, .u8 0, .u8 0, .u8 0, .u8 0, .u8 0, .u8 0, .u8 0, .u8 0, .u8 0, .u8 0, .u8 0, .u8 0, .u8 0, .u8 0, .u8 0, .u8 0, .u8 0, .u8 0, .u8 0, .u8 0, .u8 0, .u8 0, .u8 0, .u8 0, .u8 0, .u8 0, .u8 0, .u8 0, .u8 0, .u8 0, .u8 0, .u8 0, .u8 0, .u8 0, .u8 0, .u8 0] := rfl
theorem zc142 : (Ti 142).zero.cells = [.nilS, .u8 0, .u8 0, .u8 0, .u8 0, .u8 0, .u8 0, .u8 0, .u8 0, .u8 0, .u8 0, .u8 0, .u8 0, .u8 0, .u8 0, .u8 0, .u8 0, .u8 0, .u8 0, .u8 0, .u8 0, .u8 0, .u8 0, .u8 0, .u8 0, .u8 0, .u8 0, .u8 0, .u8 0, .u8 0, .u8 0, .u8 0, .u8 0, .int .i64 0, .int .i64 0, .int .i64 0, .int .i64 0, .int .i64 0, .u8 0, .u8 0, .u8 0, .u8 0, .u8 0, .u8 0, .u8 0, .u8 0, .u8 0, .u8 0, .u8 0, .u8 0, .u8 0, .u8 0, .u8 0, .u8 0, .nilS, .nilS, .bool false, .nilS, .int .i64 0, .int .i64 0, .u8 0, .u8 0, .u8 0, .u8 0, .u8 0, .u8 0, .u8 0, .u8 0, .u8 0, .u8 0, .u8 0, .u8 0, .u8 0, .u8 0, .u8 0, .u8 0, .u8 0, .u8 0, .u8 0, .u8 0, .u8 0, .u8 0, .u8 0, .u8 0, .u8 0, .u8 0, .u8 0, .u8 0, .u8 0, .u8 0, .u8 0, .u8 0, .u8 0, .u8 0, .u8 0, .u8 0, .u8 0, .u8 0, .u8 0, .u8 0, .u8 0, .u8 0, .u8 0, .u8 0, .u8 0, .u8 0, .u8 0, .u8 0, .u8 0, .u8 0, .u8 0, .u8 0, .u8 0, .u8 0, .u8 0, .u8 0, .u8 0, .u8 0, .u8 0, .u8 0, .u8 0, .u8 0, .u8 0, .u8 0] := rfl
theorem zc151 : (Ti 151).zero.cells = [.bool false, .int .i64 0, .nilS] := rfl
theorem zc152 : (Ti 152).zero.cells = [.bool false, .int .i64 0, .nilS] := rfl
theorem zc161 : (Ti 161).zero.cells = [.u32 0, .u32 0, .u32 0, .u32 0] := rfl
theorem zc171 : (Ti 171).zero.cells = [.bool false, .bool false] := rfl
theorem zc172 : (Ti 172).zero.cells = [.u32 0, .u32 0, .u32 0, .u32 0, .u32 0, .u32 0, .u32 0, .u32 0] := rfl
theorem zc173 : (Ti 173).zero.cells = [.u32 0, .u32 0, .u32 0, .u32 0, .u32 0, .u32 0, .u32 0, .u32 0, .nilS, .int .i64 0] := rfl
theorem zc174 : (Ti 174).zero.cells = [.u32 0, .u32 0, .u32 0, .u32 0, .u32 0, .u32 0, .u32 0, .u32 0, .nilS, .int .i64 0] := rfl
theorem zc178 : (Ti 178).zero.cells = [.int .i64 0, .int .i64 0, .int .i64 0, .int .i64 0, .int .i64 0, .int .i64 0, .int .i64 0, .int .i64 0, .int .i64 0, .int .i64 0, .int .i64 0, .int .i64 0, .int .i64 0, .int .i64 0, .int .i64 0, .int .i64 0] := rfl
theorem zc179 : (Ti 179).zero.cells = [.int .i64 0, .int .i64 0, .int .i64 0, .int .i64 0] := rfl
theorem zc180 : (Ti 180).zero.cells = [.int .i64 0, .int .i64 0, .int .i64 0, .int .i64 0, .int .i64 0, .int .i64 0, .int .i64 0, .int .i64 0, .int .i64 0, .int .i64 0, .int .i64 0, .int .i64 0, .int .i64 0, .int .i64 0, .int .i64 0, .int .i64 0] := rfl
theorem zc188 : (Ti 188).zero.cells = [.nilP, .nilP, .nilP, .str []] := rfl
theorem zc189 : (Ti 189).zero.cells = [.nilP, .nilP, .nilP, .str []] := rfl
theorem zc190 : (Ti 190).zero.cells = ([] : List UInt8).map D.u8 := rfl
theorem zc199 : (Ti 199).zero.cells = [.int .u64 0, .int .u64 0, .u32 0, .u8 0, .u8 0, .u8 0, .u8 0, .nilF, .nilP, .int .i32 0, .int .i32 0] := rfl
theorem zc200 : (Ti 200).zero.cells = [.int .u64 0, .int .u64 0, .u32 0, .u8 0, .u8 0, .u8 0, .u8 0, .nilF, .nilP, .int .i32 0, .int .i32 0] := rfl
theorem by0 : (Ti 0).by_ = 0 := rfl
theorem by1 : (Ti 1).by_ = 8 := rfl
theorem by2 : (Ti 2).by_ = 8 := rfl
theorem by3 : (Ti 3).by_ = 8 := rfl
theorem by4 : (Ti 4).by_ = 1 := rfl
theorem by5 : (Ti 5).by_ = 1 := rfl
theorem by6 : (Ti 6).by_ = 1 := rfl
theorem by7 : (Ti 7).by_ = 24 := rfl
theorem by8 : (Ti 8).by_ = 24 := rfl
theorem by9 : (Ti 9).by_ = 16 := rfl
theorem by10 : (Ti 10).by_ = 16 := rfl
theorem by11 : (Ti 11).by_ = 16 := rfl
theorem by12 : (Ti 12).by_ = 8 := rfl
theorem by13 : (Ti 13).by_ = 24 := rfl
theorem by14 : (Ti 14).by_ = 24 := rfl
theorem by15 : (Ti 15).by_ = 8 := rfl
theorem by16 : (Ti 16).by_ = 8 := rfl
theorem by17 : (Ti 17).by_ = 8 := rfl
theorem by18 : (Ti 18).by_ = 8 := rfl
theorem by19 : (Ti 19).by_ = 8 := rfl
theorem by20 : (Ti 20).by_ = 16 := rfl
theorem by21 : (Ti 21).by_ = 4 := rfl
theorem by22 : (Ti 22).by_ = 32 := rfl
theorem by23 : (Ti 23).by_ = 64 := rfl
theorem by24 : (Ti 24).by_ = 16 := rfl
theorem by25 : (Ti 25).by_ = 24 := rfl
theorem by26 : (Ti 26).by_ = 8 := rfl
theorem by27 : (Ti 27).by_ = 0 := rfl
theorem by28 : (Ti 28).by_ = 8 := rfl
theorem by29 : (Ti 29).by_ = 2 := rfl
theorem by30 : (Ti 30).by_ = 8 := rfl
theorem by31 : (Ti 31).by_ = 32 := rfl
theorem by32 : (Ti 32).by_ = 32 := rfl
theorem by33 : (Ti 33).by_ = 24 := rfl
theorem by34 : (Ti 34).by_ = 56 := rfl
theorem by35 : (Ti 35).by_ = 56 := rfl
theorem by36 : (Ti 36).by_ = 0 := rfl
theorem by37 : (Ti 37).by_ = 8 := rfl
theorem by38 : (Ti 38).by_ = 8 := rfl
theorem by39 : (Ti 39).by_ = 0 := rfl
theorem by40 : (Ti 40).by_ = 8 := rfl
theorem by41 : (Ti 41).by_ = 8 := rfl
theorem by42 : (Ti 42).by_ = 80 := rfl
theorem by43 : (Ti 43).by_ = 80 := rfl
theorem by44 : (Ti 44).by_ = 8 := rfl
theorem by45 : (Ti 45).by_ = 0 := rfl
theorem by46 : (Ti 46).by_ = 8 := rfl
theorem by47 : (Ti 47).by_ = 8 := rfl
theorem by48 : (Ti 48).by_ = 0 := rfl
theorem by49 : (Ti 49).by_ = 8 := rfl
theorem by50 : (Ti 50).by_ = 8 := rfl
theorem by51 : (Ti 51).by_ = 8 := rfl
theorem by52 : (Ti 52).by_ = 8 := rfl
theorem by53 : (Ti 53).by_ = 8 := rfl
theorem by54 : (Ti 54).by_ = 8 := rfl
theorem by55 : (Ti 55).by_ = 24 := rfl
theorem by56 : (Ti 56).by_ = 56 := rfl
theorem by57 : (Ti 57).by_ = 56 := rfl
theorem by58 : (Ti 58).by_ = 8 := rfl
theorem by59 : (Ti 59).by_ = 8 := rfl
theorem by60 : (Ti 60).by_ = 8 := rfl
theorem by61 : (Ti 61).by_ = 8 := rfl
theorem by62 : (Ti 62).by_ = 8 := rfl
theorem by63 : (Ti 63).by_ = 8 := rfl
theorem by64 : (Ti 64).by_ = 8 := rfl
theorem by65 : (Ti 65).by_ = 0 := rfl
theorem by66 : (Ti 66).by_ = 8 := rfl
theorem by67 : (Ti 67).by_ = 8 := rfl
theorem by68 : (Ti 68).by_ = 8 := rfl
theorem by69 : (Ti 69).by_ = 8 := rfl
theorem by70 : (Ti 70).by_ = 8 := rfl
theorem by71 : (Ti 71).by_ = 8 := rfl
theorem by72 : (Ti 72).by_ = 8 := rfl
theorem by73 : (Ti 73).by_ = 8 := rfl
theorem by74 : (Ti 74).by_ = 8 := rfl
theorem by75 : (Ti 75).by_ = 8 := rfl
theorem by76 : (Ti 76).by_ = 8 := rfl
theorem by77 : (Ti 77).by_ = 8 := rfl
theorem by78 : (Ti 78).by_ = 8 := rfl
theorem by79 : (Ti 79).by_ = 0 := rfl
theorem by80 : (Ti 80).by_ = 8 := rfl
theorem by81 : (Ti 81).by_ = 8 := rfl
theorem by82 : (Ti 82).by_ = 24 := rfl
theorem by83 : (Ti 83).by_ = 24 := rfl
theorem by84 : (Ti 84).by_ = 8 := rfl
theorem by85 : (Ti 85).by_ = 8 := rfl
theorem by86 : (Ti 86).by_ = 8 := rfl
theorem by87 : (Ti 87).by_ = 8 := rfl
theorem by88 : (Ti 88).by_ = 8 := rfl
theorem by89 : (Ti 89).by_ = 0 := rfl
theorem by90 : (Ti 90).by_ = 8 := rfl
theorem by91 : (Ti 91).by_ = 72 := rfl
theorem by92 : (Ti 92).by_ = 72 := rfl
theorem by93 : (Ti 93).by_ = 8 := rfl
theorem by94 : (Ti 94).by_ = 0 := rfl
theorem by95 : (Ti 95).by_ = 8 := rfl
theorem by96 : (Ti 96).by_ = 8 := rfl
theorem by97 : (Ti 97).by_ = 8 := rfl
theorem by98 : (Ti 98).by_ = 8 := rfl
theorem by99 : (Ti 99).by_ = 8 := rfl
theorem by100 : (Ti 100).by_ = 8 := rfl
theorem by101 : (Ti 101).by_ = 8 := rfl
theorem by102 : (Ti 102).by_ = 8 := rfl
theorem by103 : (Ti 103).by_ = 8 := rfl
theorem by104 : (Ti 104).by_ = 64 := rfl
theorem by105 : (Ti 105).by_ = 0 := rfl
theorem by106 : (Ti 106).by_ = 8 := rfl
theorem by107 : (Ti 107).by_ = 8 := rfl
theorem by108 : (Ti 108).by_ = 24 := rfl
theorem by109 : (Ti 109).by_ = 0 := rfl
theorem by110 : (Ti 110).by_ = 8 := rfl
theorem by111 : (Ti 111).by_ = 8 := rfl
theorem by112 : (Ti 112).by_ = 8 := rfl
theorem by113 : (Ti 113).by_ = 8 := rfl
theorem by114 : (Ti 114).by_ = 48 := rfl
theorem by115 : (Ti 115).by_ = 48 := rfl
theorem by116 : (Ti 116).by_ = 0 := rfl
theorem by117 : (Ti 117).by_ = 8 := rfl
theorem by118 : (Ti 118).by_ = 0 := rfl
theorem by119 : (Ti 119).by_ = 8 := rfl
theorem by120 : (Ti 120).by_ = 8 := rfl
theorem by121 : (Ti 121).by_ = 8 := rfl
theorem by122 : (Ti 122).by_ = 8 := rfl
theorem by123 : (Ti 123).by_ = 8 := rfl
theorem by124 : (Ti 124).by_ = 8 := rfl
theorem by125 : (Ti 125).by_ = 8 := rfl
theorem by126 : (Ti 126).by_ = 8 := rfl
theorem by127 : (Ti 127).by_ = 8 := rfl
theorem by128 : (Ti 128).by_ = 8 := rfl
theorem by129 : (Ti 129).by_ = 8 := rfl
theorem by130 : (Ti 130).by_ = 8 := rfl
theorem by131 : (Ti 131).by_ = 8 := rfl
theorem by132 : (Ti 132).by_ = 8 := rfl
theorem by133 : (Ti 133).by_ = 8 := rfl
theorem by134 : (Ti 134).by_ = 8 := rfl
theorem by135 : (Ti 135).by_ = 8 := rfl
theorem by136 : (Ti 136).by_ = 0 := rfl
theorem by137 : (Ti 137).by_ = 8 := rfl
theorem by138 : (Ti 138).by_ = 8 := rfl
theorem by139 : (Ti 139).by_ = 8 := rfl
theorem by140 : (Ti 140).by_ = 8 := rfl
theorem by141 : (Ti 141).by_ = 272 := rfl
theorem by142 : (Ti 142).by_ = 272 := rfl
theorem by143 : (Ti 143).by_ = 8 := rfl
theorem by144 : (Ti 144).by_ = 8 := rfl
theorem by145 : (Ti 145).by_ = 8 := rfl
theorem by146 : (Ti 146).by_ = 8 := rfl
theorem by147 : (Ti 147).by_ = 8 := rfl
theorem by148 : (Ti 148).by_ = 8 := rfl
theorem by149 : (Ti 149).by_ = 8 := rfl
theorem by150 : (Ti 150).by_ = 8 := rfl
theorem by151 : (Ti 151).by_ = 40 := rfl
theorem by152 : (Ti 152).by_ = 40 := rfl
theorem by153 : (Ti 153).by_ = 0 := rfl
theorem by154 : (Ti 154).by_ = 8 := rfl
theorem by155 : (Ti 155).by_ = 8 := rfl
theorem by156 : (Ti 156).by_ = 8 := rfl
theorem by157 : (Ti 157).by_ = 8 := rfl
theorem by158 : (Ti 158).by_ = 8 := rfl
theorem by159 : (Ti 159).by_ = 8 := rfl
theorem by160 : (Ti 160).by_ = 4 := rfl
theorem by161 : (Ti 161).by_ = 16 := rfl
theorem by162 : (Ti 162).by_ = 8 := rfl
theorem by163 : (Ti 163).by_ = 8 := rfl
theorem by164 : (Ti 164).by_ = 8 := rfl
theorem by165 : (Ti 165).by_ = 8 := rfl
theorem by166 : (Ti 166).by_ = 8 := rfl
theorem by167 : (Ti 167).by_ = 256 := rfl
theorem by168 : (Ti 168).by_ = 8 := rfl
theorem by169 : (Ti 169).by_ = 8 := rfl
theorem by170 : (Ti 170).by_ = 8 := rfl
theorem by171 : (Ti 171).by_ = 2 := rfl
theorem by172 : (Ti 172).by_ = 32 := rfl
theorem by173 : (Ti 173).by_ = 64 := rfl
theorem by174 : (Ti 174).by_ = 64 := rfl
theorem by175 : (Ti 175).by_ = 8 := rfl
theorem by176 : (Ti 176).by_ = 8 := rfl
theorem by177 : (Ti 177).by_ = 8 := rfl
theorem by178 : (Ti 178).by_ = 128 := rfl
theorem by179 : (Ti 179).by_ = 32 := rfl
theorem by180 : (Ti 180).by_ = 128 := rfl
theorem by181 : (Ti 181).by_ = 0 := rfl
theorem by182 : (Ti 182).by_ = 8 := rfl
theorem by183 : (Ti 183).by_ = 8 := rfl
theorem by184 : (Ti 184).by_ = 0 := rfl
theorem by185 : (Ti 185).by_ = 8 := rfl
theorem by186 : (Ti 186).by_ = 0 := rfl
theorem by187 : (Ti 187).by_ = 8 := rfl
theorem by188 : (Ti 188).by_ = 40 := rfl
theorem by189 : (Ti 189).by_ = 40 := rfl
theorem by190 : (Ti 190).by_ = 0 := rfl
theorem by191 : (Ti 191).by_ = 0 := rfl
theorem by192 : (Ti 192).by_ = 0 := rfl
theorem by193 : (Ti 193).by_ = 1 := rfl
theorem by194 : (Ti 194).by_ = 1 := rfl
theorem by195 : (Ti 195).by_ = 8 := rfl
theorem by196 : (Ti 196).by_ = 8 := rfl
theorem by197 : (Ti 197).by_ = 4 := rfl
theorem by198 : (Ti 198).by_ = 4 := rfl
theorem by199 : (Ti 199).by_ = 48 := rfl
theorem by200 : (Ti 200).by_ = 48 := rfl
theorem by201 : (Ti 201).by_ = 8 := rfl
theorem ib0 : (Ti 0).ty.isB = false := rfl
theorem ib1 : (Ti 1).ty.isB = false := rfl
theorem ib2 : (Ti 2).ty.isB = false := rfl
theorem ib3 : (Ti 3).ty.isB = false := rfl
theorem ib4 : (Ti 4).ty.isB = false := rfl
theorem ib5 : (Ti 5).ty.isB = true := rfl
theorem ib6 : (Ti 6).ty.isB = true := rfl
theorem ib7 : (Ti 7).ty.isB = false := rfl
theorem ib8 : (Ti 8).ty.isB = false := rfl
theorem ib9 : (Ti 9).ty.isB = false := rfl
theorem ib10 : (Ti 10).ty.isB = false := rfl
theorem ib11 : (Ti 11).ty.isB = false := rfl
theorem ib12 : (Ti 12).ty.isB = false := rfl
theorem ib13 : (Ti 13).ty.isB = false := rfl
theorem ib14 : (Ti 14).ty.isB = false := rfl
theorem ib15 : (Ti 15).ty.isB = false := rfl
theorem ib16 : (Ti 16).ty.isB = false := rfl
theorem ib17 : (Ti 17).ty.isB = false := rfl
theorem ib18 : (Ti 18).ty.isB = false := rfl
theorem ib19 : (Ti 19).ty.isB = false := rfl
theorem ib20 : (Ti 20).ty.isB = false := rfl
theorem ib21 : (Ti 21).ty.isB = false := rfl
theorem ib22 : (Ti 22).ty.isB = false := rfl
theorem ib23 : (Ti 23).ty.isB = false := rfl
theorem ib24 : (Ti 24).ty.isB = false := rfl
theorem ib25 : (Ti 25).ty.isB = false := rfl
theorem ib26 : (Ti 26).ty.isB = false := rfl
theorem ib27 : (Ti 27).ty.isB = false := rfl
theorem ib28 : (Ti 28).ty.isB = false := rfl
theorem ib29 : (Ti 29).ty.isB = false := rfl
theorem ib30 : (Ti 30).ty.isB = false := rfl
theorem ib31 : (Ti 31).ty.isB = false := rfl
theorem ib32 : (Ti 32).ty.isB = false := rfl
theorem ib33 : (Ti 33).ty.isB = false := rfl
theorem ib34 : (Ti 34).ty.isB = false := rfl
theorem ib35 : (Ti 35).ty.isB = false := rfl
theorem ib36 : (Ti 36).ty.isB = false := rfl
theorem ib37 : (Ti 37).ty.isB = false := rfl
theorem ib38 : (Ti 38).ty.isB = false := rfl
theorem ib39 : (Ti 39).ty.isB = false := rfl
theorem ib40 : (Ti 40).ty.isB = false := rfl
theorem ib41 : (Ti 41).ty.isB = false := rfl
theorem ib42 : (Ti 42).ty.isB = false := rfl
theorem ib43 : (Ti 43).ty.isB = false := rfl
theorem ib44 : (Ti 44).ty.isB = false := rfl
theorem ib45 : (Ti 45).ty.isB = false := rfl
theorem ib46 : (Ti 46).ty.isB = false := rfl
theorem ib47 : (Ti 47).ty.isB = false := rfl
theorem ib48 : (Ti 48).ty.isB = false := rfl
theorem ib49 : (Ti 49).ty.isB = false := rfl
theorem ib50 : (Ti 50).ty.isB = false := rfl
theorem ib51 : (Ti 51).ty.isB = false := rfl
theorem ib52 : (Ti 52).ty.isB = false := rfl
theorem ib53 : (Ti 53).ty.isB = false := rfl
theorem ib54 : (Ti 54).ty.isB = false := rfl
theorem ib55 : (Ti 55).ty.isB = false := rfl
theorem ib56 : (Ti 56).ty.isB = false := rfl
theorem ib57 : (Ti 57).ty.isB = false := rfl
theorem ib58 : (Ti 58).ty.isB = false := rfl
theorem ib59 : (Ti 59).ty.isB = false := rfl
theorem ib60 : (Ti 60).ty.isB = false := rfl
theorem ib61 : (Ti 61).ty.isB = false := rfl
theorem ib62 : (Ti 62).ty.isB = false := rfl
theorem ib63 : (Ti 63).ty.isB = false := rfl
theorem ib64 : (Ti 64).ty.isB = false := rfl
theorem ib65 : (Ti 65).ty.isB = false := rfl
theorem ib66 : (Ti 66).ty.isB = false := rfl
theorem ib67 : (Ti 67).ty.isB = false := rfl
theorem ib68 : (Ti 68).ty.isB = false := rfl
theorem ib69 : (Ti 69).ty.isB = false := rfl
theorem ib70 : (Ti 70).ty.isB = false := rfl
theorem ib71 : (Ti 71).ty.isB = false := rfl
theorem ib72 : (Ti 72).ty.isB = false := rfl
theorem ib73 : (Ti 73).ty.isB = false := rfl
theorem ib74 : (Ti 74).ty.isB = false := rfl
theorem ib75 : (Ti 75).ty.isB = false := rfl
theorem ib76 : (Ti 76).ty.isB = false := rfl
theorem ib77 : (Ti 77).ty.isB = false := rfl
theorem ib78 : (Ti 78).ty.isB = false := rfl
theorem ib79 : (Ti 79).ty.isB = false := rfl
theorem ib80 : (Ti 80).ty.isB = false := rfl
theorem ib81 : (Ti 81).ty.isB = false := rfl
theorem ib82 : (Ti 82).ty.isB = false := rfl
theorem ib83 : (Ti 83).ty.isB = false := rfl
theorem ib84 : (Ti 84).ty.isB = false := rfl
theorem ib85 : (Ti 85).ty.isB = false := rfl
theorem ib86 : (Ti 86).ty.isB = false := rfl
theorem ib87 : (Ti 87).ty.isB = false := rfl
theorem ib88 : (Ti 88).ty.isB = false := rfl
theorem ib89 : (Ti 89).ty.isB = false := rfl
theorem ib90 : (Ti 90).ty.isB = false := rfl
theorem ib91 : (Ti 91).ty.isB = false := rfl
theorem ib92 : (Ti 92).ty.isB = false := rfl
theorem ib93 : (Ti 93).ty.isB = false := rfl
theorem ib94 : (Ti 94).ty.isB = false := rfl
theorem ib95 : (Ti 95).ty.isB = false := rfl
theorem ib96 : (Ti 96).ty.isB = false := rfl
theorem ib97 : (Ti 97).ty.isB = false := rfl
theorem ib98 : (Ti 98).ty.isB = false := rfl
theorem ib99 : (Ti 99).ty.isB = false := rfl
theorem ib100 : (Ti 100).ty.isB = false := rfl
theorem ib101 : (Ti 101).ty.isB = false := rfl
theorem ib102 : (Ti 102).ty.isB = false := rfl
theorem ib103 : (Ti 103).ty.isB = false := rfl
theorem ib104 : (Ti 104).ty.isB = false := rfl
theorem ib105 : (Ti 105).ty.isB = false := rfl
theorem ib106 : (Ti 106).ty.isB = false := rfl
theorem ib107 : (Ti 107).ty.isB = false := rfl
theorem ib108 : (Ti 108).ty.isB = false := rfl
theorem ib109 : (Ti 109).ty.isB = false := rfl
theorem ib110 : (Ti 110).ty.isB = false := rfl
theorem ib111 : (Ti 111).ty.isB = false := rfl
theorem ib112 : (Ti 112).ty.isB = false := rfl
theorem ib113 : (Ti 113).ty.isB = false := rfl
theorem ib114 : (Ti 114).ty.isB = false := rfl
theorem ib115 : (Ti 115).ty.isB = false := rfl
theorem ib116 : (Ti 116).ty.isB = false := rfl
theorem ib117 : (Ti 117).ty.isB = false := rfl
theorem ib118 : (Ti 118).ty.isB = false := rfl
theorem ib119 : (Ti 119).ty.isB = false := rfl
theorem ib120 : (Ti 120).ty.isB = false := rfl
theorem ib121 : (Ti 121).ty.isB = false := rfl
theorem ib122 : (Ti 122).ty.isB = false := rfl
theorem ib123 : (Ti 123).ty.isB = false := rfl
theorem ib124 : (Ti 124).ty.isB = false := rfl
theorem ib125 : (Ti 125).ty.isB = false := rfl
theorem ib126 : (Ti 126).ty.isB = false := rfl
theorem ib127 : (Ti 127).ty.isB = false := rfl
theorem ib128 : (Ti 128).ty.isB = false := rfl
theorem ib129 : (Ti 129).ty.isB = false := rfl
theorem ib130 : (Ti 130).ty.isB = false := rfl
theorem ib131 : (Ti 131).ty.isB = false := rfl
theorem ib132 : (Ti 132).ty.isB = false := rfl
theorem ib133 : (Ti 133).ty.isB = false := rfl
theorem ib134 : (Ti 134).ty.isB = false := rfl
theorem ib135 : (Ti 135).ty.isB = false := rfl
theorem ib136 : (Ti 136).ty.isB = false := rfl
theorem ib137 : (Ti 137).ty.isB = false := rfl
theorem ib138 : (Ti 138).ty.isB = false := rfl
theorem ib139 : (Ti 139).ty.isB = false := rfl
theorem ib140 : (Ti 140).ty.isB = false := rfl
theorem ib141 : (Ti 141).ty.isB = false := rfl
theorem ib142 : (Ti 142).ty.isB = false := rfl
theorem ib143 : (Ti 143).ty.isB = false := rfl
theorem ib144 : (Ti 144).ty.isB = false := rfl
theorem ib145 : (Ti 145).ty.isB = false := rfl
theorem ib146 : (Ti 146).ty.isB = false := rfl
theorem ib147 : (Ti 147).ty.isB = false := rfl
theorem ib148 : (Ti 148).ty.isB = false := rfl
theorem ib149 : (Ti 149).ty.isB = false := rfl
theorem ib150 : (Ti 150).ty.isB = false := rfl
theorem ib151 : (Ti 151).ty.isB = false := rfl
theorem ib152 : (Ti 152).ty.isB = false := rfl
theorem ib153 : (Ti 153).ty.isB = false := rfl
theorem ib154 : (Ti 154).ty.isB = false := rfl
theorem ib155 : (Ti 155).ty.isB = false := rfl
theorem ib156 : (Ti 156).ty.isB = false := rfl
theorem ib157 : (Ti 157).ty.isB = false := rfl
theorem ib158 : (Ti 158).ty.isB = false := rfl
theorem ib159 : (Ti 159).ty.isB = false := rfl
theorem ib160 : (Ti 160).ty.isB = false := rfl
theorem ib161 : (Ti 161).ty.isB = false := rfl
theorem ib162 : (Ti 162).ty.isB = false := rfl
theorem ib163 : (Ti 163).ty.isB = false := rfl
theorem ib164 : (Ti 164).ty.isB = false := rfl
theorem ib165 : (Ti 165).ty.isB = false := rfl
theorem ib166 : (Ti 166).ty.isB = false := rfl
theorem ib167 : (Ti 167).ty.isB = false := rfl
theorem ib168 : (Ti 168).ty.isB = false := rfl
theorem ib169 : (Ti 169).ty.isB = false := rfl
theorem ib170 : (Ti 170).ty.isB = false := rfl
theorem ib171 : (Ti 171).ty.isB = false := rfl
theorem ib172 : (Ti 172).ty.isB = false := rfl
theorem ib173 : (Ti 173).ty.isB = false := rfl
theorem ib174 : (Ti 174).ty.isB = false := rfl
theorem ib175 : (Ti 175).ty.isB = false := rfl
theorem ib176 : (Ti 176).ty.isB = false := rfl
theorem ib177 : (Ti 177).ty.isB = false := rfl
theorem ib178 : (Ti 178).ty.isB = false := rfl
theorem ib179 : (Ti 179).ty.isB = false := rfl
theorem ib180 : (Ti 180).ty.isB = false := rfl
theorem ib181 : (Ti 181).ty.isB = false := rfl
theorem ib182 : (Ti 182).ty.isB = false := rfl
theorem ib183 : (Ti 183).ty.isB = false := rfl
theorem ib184 : (Ti 184).ty.isB = false := rfl
theorem ib185 : (Ti 185).ty.isB = false := rfl
theorem ib186 : (Ti 186).ty.isB = false := rfl
theorem ib187 : (Ti 187).ty.isB = false := rfl
theorem ib188 : (Ti 188).ty.isB = false := rfl
theorem ib189 : (Ti 189).ty.isB = false := rfl
theorem ib190 : (Ti 190).ty.isB = false := rfl
theorem ib191 : (Ti 191).ty.isB = false := rfl
theorem ib192 : (Ti 192).ty.isB = false := rfl
theorem ib193 : (Ti 193).ty.isB = true := rfl
theorem ib194 : (Ti 194).ty.isB = true := rfl
theorem ib195 : (Ti 195).ty.isB = false := rfl
theorem ib196 : (Ti 196).ty.isB = false := rfl
theorem ib197 : (Ti 197).ty.isB = false := rfl
theorem ib198 : (Ti 198).ty.isB = false := rfl
theorem ib199 : (Ti 199).ty.isB = false := rfl
theorem ib200 : (Ti 200).ty.isB = false := rfl
theorem ib201 : (Ti 201).ty.isB = false := rfl
theorem Zs : ((Ti 0).sz = 1) ∧ ((Ti 1).sz = 1) ∧ ((Ti 2).sz = 1) ∧ ((Ti 3).sz = 1) ∧ ((Ti 4).sz = 1) ∧ ((Ti 5).sz = 1) ∧ ((Ti 6).sz = 1) ∧ ((Ti 7).sz = 4) ∧ ((Ti 8).sz = 4) ∧ ((Ti 9).sz = 1) ∧ ((Ti 10).sz = 1) ∧ ((Ti 11).sz = 1) ∧ ((Ti 12).sz = 1) ∧ ((Ti 13).sz = 2) ∧ ((Ti 14).sz = 2) ∧ ((Ti 15).sz = 1) ∧ ((Ti 16).sz = 1) ∧ ((Ti 17).sz = 1) ∧ ((Ti 18).sz = 1) ∧ ((Ti 19).sz = 1) ∧ ((Ti 20).sz = 1) ∧ ((Ti 21).sz = 1) ∧ ((Ti 22).sz = 32) ∧ ((Ti 23).sz = 64) ∧ ((Ti 24).sz = 16) ∧ ((Ti 25).sz = 1) ∧ ((Ti 26).sz = 1) ∧ ((Ti 27).sz = 1) ∧ ((Ti 28).sz = 1) ∧ ((Ti 29).sz = 2) ∧ ((Ti 30).sz = 1) ∧ ((Ti 31).sz = 2) ∧ ((Ti 32).sz = 2) ∧ ((Ti 33).sz = 1) ∧ ((Ti 34).sz = 19) ∧ ((Ti 35).sz = 19) ∧ ((Ti 36).sz = 1) ∧ ((Ti 37).sz = 1) ∧ ((Ti 38).sz = 1) ∧ ((Ti 39).sz = 1) ∧ ((Ti 40).sz = 1) ∧ ((Ti 41).sz = 1) ∧ ((Ti 42).sz = 21) ∧ ((Ti 43).sz = 21) ∧ ((Ti 44).sz = 1) ∧ ((Ti 45).sz = 1) ∧ ((Ti 46).sz = 1) ∧ ((Ti 47).sz = 1) ∧ ((Ti 48).sz = 1) ∧ ((Ti 49).sz = 1) ∧ ((Ti 50).sz = 1) ∧ ((Ti 51).sz = 1) ∧ ((Ti 52).sz = 1) ∧ ((Ti 53).sz = 1) ∧ ((Ti 54).sz = 1) ∧ ((Ti 55).sz = 1) ∧ ((Ti 56).sz = 19) ∧ ((Ti 57).sz = 19) ∧ ((Ti 58).sz = 1) ∧ ((Ti 59).sz = 1) ∧ ((Ti 60).sz = 1) ∧ ((Ti 61).sz = 1) ∧ ((Ti 62).sz = 1) ∧ ((Ti 63).sz = 1) ∧ ((Ti 64).sz = 1) ∧ ((Ti 65).sz = 1) ∧ ((Ti 66).sz = 1) ∧ ((Ti 67).sz = 1) ∧ ((Ti 68).sz = 1) ∧ ((Ti 69).sz = 1) ∧ ((Ti 70).sz = 1) ∧ ((Ti 71).sz = 1) ∧ ((Ti 72).sz = 1) ∧ ((Ti 73).sz = 1) ∧ ((Ti 74).sz = 1) ∧ ((Ti 75).sz = 1) ∧ ((Ti 76).sz = 1) ∧ ((Ti 77).sz = 1) ∧ ((Ti 78).sz = 1) ∧ ((Ti 79).sz = 1) ∧ ((Ti 80).sz = 1) ∧ ((Ti 81).sz = 1) ∧ ((Ti 82).sz = 2) ∧ ((Ti 83).sz = 2) ∧ ((Ti 84).sz = 1) ∧ ((Ti 85).sz = 1) ∧ ((Ti 86).sz = 1) ∧ ((Ti 87).sz = 1) ∧ ((Ti 88).sz = 1) ∧ ((Ti 89).sz = 1) ∧ ((Ti 90).sz = 1) ∧ ((Ti 91).sz = 35) ∧ ((Ti 92).sz = 35) ∧ ((Ti 93).sz = 1) ∧ ((Ti 94).sz = 1) ∧ ((Ti 95).sz = 1) ∧ ((Ti 96).sz = 1) ∧ ((Ti 97).sz = 1) ∧ ((Ti 98).sz = 1) ∧ ((Ti 99).sz = 1) ∧ ((Ti 100).sz = 1) ∧ ((Ti 101).sz = 1) ∧ ((Ti 102).sz = 1) ∧ ((Ti 103).sz = 1) ∧ ((Ti 104).sz = 64) ∧ ((Ti 105).sz = 1) ∧ ((Ti 106).sz = 1) ∧ ((Ti 107).sz = 1) ∧ ((Ti 108).sz = 1) ∧ ((Ti 109).sz = 1) ∧ ((Ti 110).sz = 1) ∧ ((Ti 111).sz = 1) ∧ ((Ti 112).sz = 1) ∧ ((Ti 113).sz = 1) ∧ ((Ti 114).sz = 4) ∧ ((Ti 115).sz = 4) ∧ ((Ti 116).sz = 1) ∧ ((Ti 117).sz = 1) ∧ ((Ti 118).sz = 1) ∧ ((Ti 119).sz = 1) ∧ ((Ti 120).sz = 1) ∧ ((Ti 121).sz = 1) ∧ ((Ti 122).sz = 1) ∧ ((Ti 123).sz = 1) ∧ ((Ti 124).sz = 1) ∧ ((Ti 125).sz = 1) ∧ ((Ti 126).sz = 1) ∧ ((Ti 127).sz = 1) ∧ ((Ti 128).sz = 1) ∧ ((Ti 129).sz = 1) ∧ ((Ti 130).sz = 1) ∧ ((Ti 131).sz = 1) ∧ ((Ti 132).sz = 1) ∧ ((Ti 133).sz = 1) ∧ ((Ti 134).sz = 1) ∧ ((Ti 135).sz = 1) ∧ ((Ti 136).sz = 1) ∧ ((Ti 137).sz = 1) ∧ ((Ti 138).sz = 1) ∧ ((Ti 139).sz = 1) ∧ ((Ti 140).sz = 1) ∧ ((Ti 141).sz = 124) ∧ ((Ti 142).sz = 124) ∧ ((Ti 143).sz = 1) ∧ ((Ti 144).sz = 1) ∧ ((Ti 145).sz = 1) ∧ ((Ti 146).sz = 1) ∧ ((Ti 147).sz = 1) ∧ ((Ti 148).sz = 1) ∧ ((Ti 149).sz = 1) ∧ ((Ti 150).sz = 1) ∧ ((Ti 151).sz = 3) ∧ ((Ti 152).sz = 3) ∧ ((Ti 153).sz = 1) ∧ ((Ti 154).sz = 1) ∧ ((Ti 155).sz = 1) ∧ ((Ti 156).sz = 1) ∧ ((Ti 157).sz = 1) ∧ ((Ti 158).sz = 1) ∧ ((Ti 159).sz = 1) ∧ ((Ti 160).sz = 1) ∧ ((Ti 161).sz = 4) ∧ ((Ti 162).sz = 1) ∧ ((Ti 163).sz = 1) ∧ ((Ti 164).sz = 1) ∧ ((Ti 165).sz = 1) ∧ ((Ti 166).sz = 1) ∧ ((Ti 167).sz = 64) ∧ ((Ti 168).sz = 1) ∧ ((Ti 169).sz = 1) ∧ ((Ti 170).sz = 1) ∧ ((Ti 171).sz = 2) ∧ ((Ti 172).sz = 8) ∧ ((Ti 173).sz = 10) ∧ ((Ti 174).sz = 10) ∧ ((Ti 175).sz = 1) ∧ ((Ti 176).sz = 1) ∧ ((Ti 177).sz = 1) ∧ ((Ti 178).sz = 16) ∧ ((Ti 179).sz = 4) ∧ ((Ti 180).sz = 16) ∧ ((Ti 181).sz = 1) ∧ ((Ti 182).sz = 1) ∧ ((Ti 183).sz = 1) ∧ ((Ti 184).sz = 1) ∧ ((Ti 185).sz = 1) ∧ ((Ti 186).sz = 1) ∧ ((Ti 187).sz = 1) ∧ ((Ti 188).sz = 4) ∧ ((Ti 189).sz = 4) ∧ ((Ti 190).sz = 0) ∧ ((Ti 191).sz = 0) ∧ ((Ti 192).sz = 0) ∧ ((Ti 193).sz = 1) ∧ ((Ti 194).sz = 1) ∧ ((Ti 195).sz = 1) ∧ ((Ti 196).sz = 1) ∧ ((Ti 197).sz = 1) ∧ ((Ti 198).sz = 1) ∧ ((Ti 199).sz = 11) ∧ ((Ti 200).sz = 11) ∧ ((Ti 201).sz = 1) ∧ ((Ti 7).zero.cells = [.int .i64 0, .int .i64 0, .bool false, .u8 0]) ∧ ((Ti 8).zero.cells = [.int .i64 0, .int .i64 0, .bool false, .u8 0]) ∧ ((Ti 13).zero.cells = [.str [], .int .u64 0]) ∧ ((Ti 14).zero.cells = [.str [], .int .u64 0]) ∧ ((Ti 18).zero.cells = [.nilP]) ∧ ((Ti 19).zero.cells = [.nilP]) ∧ ((Ti 22).zero.cells = ((List.replicate 32 0) : List UInt8).map D.u8) ∧ ((Ti 23).zero.cells = ((List.replicate 64 0) : List UInt8).map D.u8) ∧ ((Ti 24).zero.cells = ((List.replicate 16 0) : List UInt8).map D.u8) ∧ ((Ti 29).zero.cells = ([0, 0] : List UInt8).map D.u8) ∧ ((Ti 31).zero.cells = [.int .i64 0, .nilS]) ∧ ((Ti 32).zero.cells = [.int .i64 0, .nilS]) ∧ ((Ti 34).zero.cells = [.int .i64 0, .int .i64 0, .u8 0, .u8 0, .u8 0, .u8 0, .u8 0, .u8 0, .u8 0, .u8 0, .u8 0, .u8 0, .u8 0, .u8 0, .u8 0, .u8 0, .u8 0, .u8 0, .nilS]) ∧ ((Ti 35).zero.cells = [.int .i64 0, .int .i64 0, .u8 0, .u8 0, .u8 0, .u8 0, .u8 0, .u8 0, .u8 0, .u8 0, .u8 0, .u8 0, .u8 0, .u8 0, .u8 0, .u8 0, .u8 0, .u8 0, .nilS]) ∧ ((Ti 42).zero.cells = [.int .i64 0, .nilS, .u8 0, .u8 0, .u8 0, .u8 0, .u8 0, .u8 0, .u8 0, .u8 0, .u8 0, .u8 0, .u8 0, .u8 0, .u8 0, .u8 0, .u8 0, .u8 0, .u8 0, .u8 0, .nilS]) ∧ ((Ti 43).zero.cells = [.int .i64 0, .nilS, .u8 0, .u8 0, .u8 0, .u8 0, .u8 0, .u8 0, .u8 0, .u8 0, .u8 0, .u8 0, .u8 0, .u8 0, .u8 0, .u8 0, .u8 0, .u8 0, .u8 0, .u8 0, .nilS]) ∧ ((Ti 56).zero.cells = [.int .i64 0, .int .i64 0, .u8 0, .u8 0, .u8 0, .u8 0, .u8 0, .u8 0, .u8 0, .u8 0, .u8 0, .u8 0, .u8 0, .u8 0, .u8 0, .u8 0, .u8 0, .u8 0, .nilS]) ∧ ((Ti 57).zero.cells = [.int .i64 0, .int .i64 0, .u8 0, .u8 0, .u8 0, .u8 0, .u8 0, .u8 0, .u8 0, .u8 0, .u8 0, .u8 0, .u8 0, .u8 0, .u8 0, .u8 0, .u8 0, .u8 0, .nilS]) ∧ ((Ti 82).zero.cells = [.int .i64 0, .str []]) ∧ ((Ti 83).zero.cells = [.int .i64 0, .str []]) ∧ ((Ti 91).zero.cells = [.nilS, .u8 0, .u8 0, .u8 0, .u8 0, .u8 0, .u8 0, .u8 0, .u8 0, .u8 0, .u8 0, .u8 0, .u8 0, .u8 0, .u8 0, .u8 0, .u8 0, .u8 0, .u8 0, .u8 0, .u8 0, .u8 0, .u8 0, .u8 0, .u8 0, .u8 0, .u8 0, .u8 0, .u8 0, .u8 0, .u8 0, .u8 0, .u8 0, .int .i64 0, .int .i64 0]) ∧ ((Ti 92).zero.cells = [.nilS, .u8 0, .u8 0, .u8 0, .u8 0, .u8 0, .u8 0, .u8 0, .u8 0, .u8 0, .u8 0, .u8 0, .u8 0, .u8 0, .u8 0, .u8 0, .u8 0, .u8 0, .u8 0, .u8 0, .u8 0, .u8 0, .u8 0, .u8 0, .u8 0, .u8 0, .u8 0, .u8 0, .u8 0, .u8 0, .u8 0, .u8 0, .u8 0, .int .i64 0, .int .i64 0]) ∧ ((Ti 104).zero.cells = ((List.replicate 64 0) : List UInt8).map D.u8) ∧ ((Ti 114).zero.cells = [.int .i64 0, .int .i64 0, .int .i64 0, .nilS]) ∧ ((Ti 115).zero.cells = [.int .i64 0, .int .i64 0, .int .i64 0, .nilS]) ∧ ((Ti 141).zero.cells = [.nilS, .u8 0, .u8 0, .u8 0, .u8 0, .u8 0, .u8 0, .u8 0, .u8 0, .u8 0, .u8 0, .u8 0, .u8 0, .u8 0, .u8 0, .u8 0, .u8 0, .u8 0, .u8 0, .u8 0, .u8 0, .u8 0, .u8 0, .u8 0, .u8 0, .u8 0, .u8 0, .u8 0, .u8 0, .u8 0, .u8 0, .u8 0, .u8 0, .int .i64 0, .int .i64 0, .int .i64 0, .int .i64 0, .int .i64 0, .u8 0, .u8 0, .u8 0, .u8 0, .u8 0, .u8 0, .u8 0, .u8 0, .u8 0, .u8 0, .u8 0, .u8 0, .u8 0, .u8 0, .u8 0, .u8 0, .nilS, .nilS, .bool false, .nilS, .int .i64 0, .int .i64 0, .u8 0, .u8 0, .u8 0, .u8 0, .u8 0, .u8 0, .u8 0, .u8 0, .u8 0, .u8 0, .u8 0, .u8 0, .u8 0, .u8 0, .u8 0, .u8 0, .u8 0, .u8 0, .u8 0, .u8 0, .u8 0, .u8 0, .u8 0, .u8 0, .u8 0, .u8 0, .u8 0, .u8 0, .u8 0, .u8 0, .u8 0, .u8 0, .u8 0, .u8 0, .u8 0, .u8 0, .u8 0, .u8 0, .u8 0, .u8 0, .u8 0, .u8 0, .u8 0, .u8 0, .u8 0, .u8 0, .u8 0, .u8 0, .u8 0, .u8 0, .u8 0, .u8 0, .u8 0, .u8 0, .u8 0, .u8 0, .u8 0, .u8 0, .u8 0, .u8 0, .u8 0, .u8 0, .u8 0, .u8 0]) ∧ ((Ti 142).zero.cells = [.nilS, .u8 0, .u8 0, .u8 0, .u8 0, .u8 0, .u8 0, .u8 0, .u8 0, .u8 0, .u8 0, .u8 0, .u8 0, .u8 0, .u8 0, .u8 0, .u8 0, .u8 0, .u8 0, .u8 0, .u8 0, .u8 0, .u8 0, .u8 0, .u8 0, .u8 0, .u8 0, .u8 0, .u8 0, .u8 0, .u8 0, .u8 0, .u8 0, .int .i64 0, .int .i64 0, .int .i64 0, .int .i64 0, .int .i64 0, .u8 0, .u8 0, .u8 0, .u8 0, .u8 0, .u8 0, .u8 0, .u8 0, .u8 0, .u8 0, .u8 0, .u8 0, .u8 0, .u8 0, .u8 0, .u8 0, .nilS, .nilS, .bool false, .nilS, .int .i64 0, .int .i64 0, .u8 0, .u8 0, .u8 0, .u8 0, .u8 0, .u8 0, .u8 0, .u8 0, .u8 0, .u8 0, .u8 0, .u8 0, .u8 0, .u8 0, .u8 0, .u8 0, .u8 0, .u8 0, .u8 0, .u8 0, .u8 0, .u8 0, .u8 0, .u8 0, .u8 0, .u8 0, .u8 0, .u8 0, .u8 0, .u8 0, .u8 0, .u8 0, .u8 0, .u8 0, .u8 0, .u8 0, .u8 0, .u8 0, .u8 0, .u8 0, .u8 0, .u8 0, .u8 0, .u8 0, .u8 0, .u8 0, .u8 0, .u8 0, .u8 0, .u8 0, .u8 0, .u8 0, .u8 0, .u8 0, .u8 0, .u8 0, .u8 0, .u8 0, .u8 0, .u8 0, .u8 0, .u8 0, .u8 0, .u8 0]) ∧ ((Ti 151).zero.cells = [.bool false, .int .i64 0, .nilS]) ∧ ((Ti 152).zero.cells = [.bool false, .int .i64 0, .nilS]) ∧ ((Ti 161).zero.cells = [.u32 0, .u32 0, .u32 0, .u32 0]) ∧ ((Ti 171).zero.cells = [.bool false, .bool false]) ∧ ((Ti 172).zero.cells = [.u32 0, .u32 0, .u32 0, .u32 0, .u32 0, .u32 0, .u32 0, .u32 0]) ∧ ((Ti 173).zero.cells = [.u32 0, .u32 0, .u32 0, .u32 0, .u32 0, .u32 0, .u32 0, .u32 0, .nilS, .int .i64 0]) ∧ ((Ti 174).zero.cells = [.u32 0, .u32 0, .u32 0, .u32 0, .u32 0, .u32 0, .u32 0, .u32 0, .nilS, .int .i64 0]) ∧ ((Ti 178).zero.cells = [.int .i64 0, .int .i64 0, .int .i64 0, .int .i64 0, .int .i64 0, .int .i64 0, .int .i64 0, .int .i64 0, .int .i64 0, .int .i64 0, .int .i64 0, .int .i64 0, .int .i64 0, .int .i64 0, .int .i64 0, .int .i64 0]) ∧ ((Ti 179).zero.cells = [.int .i64 0, .int .i64 0, .int .i64 0, .int .i64 0]) ∧ ((Ti 180).zero.cells = [.int .i64 0, .int .i64 0, .int .i64 0, .int .i64 0, .int .i64 0, .int .i64 0, .int .i64 0, .int .i64 0, .int .i64 0, .int .i64 0, .int .i64 0, .int .i64 0, .int .i64 0, .int .i64 0, .int .i64 0, .int .i64 0]) ∧ ((Ti 188).zero.cells = [.nilP, .nilP, .nilP, .str []]) ∧ ((Ti 189).zero.cells = [.nilP, .nilP, .nilP, .str []]) ∧ ((Ti 190).zero.cells = ([] : List UInt8).map D.u8) ∧ ((Ti 199).zero.cells = [.int .u64 0, .int .u64 0, .u32 0, .u8 0, .u8 0, .u8 0, .u8 0, .nilF, .nilP, .int .i32 0, .int .i32 0]) ∧ ((Ti 200).zero.cells = [.int .u64 0, .int .u64 0, .u32 0, .u8 0, .u8 0, .u8 0, .u8 0, .nilF, .nilP, .int .i32 0, .int .i32 0]) ∧ ((Ti 0).by_ = 0) ∧ ((Ti 1).by_ = 8) ∧ ((Ti 2).by_ = 8) ∧ ((Ti 3).by_ = 8) ∧ ((Ti 4).by_ = 1) ∧ ((Ti 5).by_ = 1) ∧ ((Ti 6).by_ = 1) ∧ ((Ti 7).by_ = 24) ∧ ((Ti 8).by_ = 24) ∧ ((Ti 9).by_ = 16) ∧ ((Ti 10).by_ = 16) ∧ ((Ti 11).by_ = 16) ∧ ((Ti 12).by_ = 8) ∧ ((Ti 13).by_ = 24) ∧ ((Ti 14).by_ = 24) ∧ ((Ti 15).by_ = 8) ∧ ((Ti 16).by_ = 8) ∧ ((Ti 17).by_ = 8) ∧ ((Ti 18).by_ = 8) ∧ ((Ti 19).by_ = 8) ∧ ((Ti 20).by_ = 16) ∧ ((Ti 21).by_ = 4) ∧ ((Ti 22).by_ = 32) ∧ ((Ti 23).by_ = 64) ∧ ((Ti 24).by_ = 16) ∧ ((Ti 25).by_ = 24) ∧ ((Ti 26).by_ = 8) ∧ ((Ti 27).by_ = 0) ∧ ((Ti 28).by_ = 8) ∧ ((Ti 29).by_ = 2) ∧ ((Ti 30).by_ = 8) ∧ ((Ti 31).by_ = 32) ∧ ((Ti 32).by_ = 32) ∧ ((Ti 33).by_ = 24) ∧ ((Ti 34).by_ = 56) ∧ ((Ti 35).by_ = 56) ∧ ((Ti 36).by_ = 0) ∧ ((Ti 37).by_ = 8) ∧ ((Ti 38).by_ = 8) ∧ ((Ti 39).by_ = 0) ∧ ((Ti 40).by_ = 8) ∧ ((Ti 41).by_ = 8) ∧ ((Ti 42).by_ = 80) ∧ ((Ti 43).by_ = 80) ∧ ((Ti 44).by_ = 8) ∧ ((Ti 45).by_ = 0) ∧ ((Ti 46).by_ = 8) ∧ ((Ti 47).by_ = 8) ∧ ((Ti 48).by_ = 0) ∧ ((Ti 49).by_ = 8) ∧ ((Ti 50).by_ = 8) ∧ ((Ti 51).by_ = 8) ∧ ((Ti 52).by_ = 8) ∧ ((Ti 53).by_ = 8) ∧ ((Ti 54).by_ = 8) ∧ ((Ti 55).by_ = 24) ∧ ((Ti 56).by_ = 56) ∧ ((Ti 57).by_ = 56) ∧ ((Ti 58).by_ = 8) ∧ ((Ti 59).by_ = 8) ∧ ((Ti 60).by_ = 8) ∧ ((Ti 61).by_ = 8) ∧ ((Ti 62).by_ = 8) ∧ ((Ti 63).by_ = 8) ∧ ((Ti 64).by_ = 8) ∧ ((Ti 65).by_ = 0) ∧ ((Ti 66).by_ = 8) ∧ ((Ti 67).by_ = 8) ∧ ((Ti 68).by_ = 8) ∧ ((Ti 69).by_ = 8) ∧ ((Ti 70).by_ = 8) ∧ ((Ti 71).by_ = 8) ∧ ((Ti 72).by_ = 8) ∧ ((Ti 73).by_ = 8) ∧ ((Ti 74).by_ = 8) ∧ ((Ti 75).by_ = 8) ∧ ((Ti 76).by_ = 8) ∧ ((Ti 77).by_ = 8) ∧ ((Ti 78).by_ = 8) ∧ ((Ti 79).by_ = 0) ∧ ((Ti 80).by_ = 8) ∧ ((Ti 81).by_ = 8) ∧ ((Ti 82).by_ = 24) ∧ ((Ti 83).by_ = 24) ∧ ((Ti 84).by_ = 8) ∧ ((Ti 85).by_ = 8) ∧ ((Ti 86).by_ = 8) ∧ ((Ti 87).by_ = 8) ∧ ((Ti 88).by_ = 8) ∧ ((Ti 89).by_ = 0) ∧ ((Ti 90).by_ = 8) ∧ ((Ti 91).by_ = 72) ∧ ((Ti 92).by_ = 72) ∧ ((Ti 93).by_ = 8) ∧ ((Ti 94).by_ = 0) ∧ ((Ti 95).by_ = 8) ∧ ((Ti 96).by_ = 8) ∧ ((Ti 97).by_ = 8) ∧ ((Ti 98).by_ = 8) ∧ ((Ti 99).by_ = 8) ∧ ((Ti 100).by_ = 8) ∧ ((Ti 101).by_ = 8) ∧ ((Ti 102).by_ = 8) ∧ ((Ti 103).by_ = 8) ∧ ((Ti 104).by_ = 64) ∧ ((Ti 105).by_ = 0) ∧ ((Ti 106).by_ = 8) ∧ ((Ti 107).by_ = 8) ∧ ((Ti 108).by_ = 24) ∧ ((Ti 109).by_ = 0) ∧ ((Ti 110).by_ = 8) ∧ ((Ti 111).by_ = 8) ∧ ((Ti 112).by_ = 8) ∧ ((Ti 113).by_ = 8) ∧ ((Ti 114).by_ = 48) ∧ ((Ti 115).by_ = 48) ∧ ((Ti 116).by_ = 0) ∧ ((Ti 117).by_ = 8) ∧ ((Ti 118).by_ = 0) ∧ ((Ti 119).by_ = 8) ∧ ((Ti 120).by_ = 8) ∧ ((Ti 121).by_ = 8) ∧ ((Ti 122).by_ = 8) ∧ ((Ti 123).by_ = 8) ∧ ((Ti 124).by_ = 8) ∧ ((Ti 125).by_ = 8) ∧ ((Ti 126).by_ = 8) ∧ ((Ti 127).by_ = 8) ∧ ((Ti 128).by_ = 8) ∧ ((Ti 129).by_ = 8) ∧ ((Ti 130).by_ = 8) ∧ ((Ti 131).by_ = 8) ∧ ((Ti 132).by_ = 8) ∧ ((Ti 133).by_ = 8) ∧ ((Ti 134).by_ = 8) ∧ ((Ti 135).by_ = 8) ∧ ((Ti 136).by_ = 0) ∧ ((Ti 137).by_ = 8) ∧ ((Ti 138).by_ = 8) ∧ ((Ti 139).by_ = 8) ∧ ((Ti 140).by_ = 8) ∧ ((Ti 141).by_ = 272) ∧ ((Ti 142).by_ = 272) ∧ ((Ti 143).by_ = 8) ∧ ((Ti 144).by_ = 8) ∧ ((Ti 145).by_ = 8) ∧ ((Ti 146).by_ = 8) ∧ ((Ti 147).by_ = 8) ∧ ((Ti 148).by_ = 8) ∧ ((Ti 149).by_ = 8) ∧ ((Ti 150).by_ = 8) ∧ ((Ti 151).by_ = 40) ∧ ((Ti 152).by_ = 40) ∧ ((Ti 153).by_ = 0) ∧ ((Ti 154).by_ = 8) ∧ ((Ti 155).by_ = 8) ∧ ((Ti 156).by_ = 8) ∧ ((Ti 157).by_ = 8) ∧ ((Ti 158).by_ = 8) ∧ ((Ti 159).by_ = 8) ∧ ((Ti 160).by_ = 4) ∧ ((Ti 161).by_ = 16) ∧ ((Ti 162).by_ = 8) ∧ ((Ti 163).by_ = 8) ∧ ((Ti 164).by_ = 8) ∧ ((Ti 165).by_ = 8) ∧ ((Ti 166).by_ = 8) ∧ ((Ti 167).by_ = 256) ∧ ((Ti 168).by_ = 8) ∧ ((Ti 169).by_ = 8) ∧ ((Ti 170).by_ = 8) ∧ ((Ti 171).by_ = 2) ∧ ((Ti 172).by_ = 32) ∧ ((Ti 173).by_ = 64) ∧ ((Ti 174).by_ = 64) ∧ ((Ti 175).by_ = 8) ∧ ((Ti 176).by_ = 8) ∧ ((Ti 177).by_ = 8) ∧ ((Ti 178).by_ = 128) ∧ ((Ti 179).by_ = 32) ∧ ((Ti 180).by_ = 128) ∧ ((Ti 181).by_ = 0) ∧ ((Ti 182).by_ = 8) ∧ ((Ti 183).by_ = 8) ∧ ((Ti 184).by_ = 0) ∧ ((Ti 185).by_ = 8) ∧ ((Ti 186).by_ = 0) ∧ ((Ti 187).by_ = 8) ∧ ((Ti 188).by_ = 40) ∧ ((Ti 189).by_ = 40) ∧ ((Ti 190).by_ = 0) ∧ ((Ti 191).by_ = 0) ∧ ((Ti 192).by_ = 0) ∧ ((Ti 193).by_ = 1) ∧ ((Ti 194).by_ = 1) ∧ ((Ti 195).by_ = 8) ∧ ((Ti 196).by_ = 8) ∧ ((Ti 197).by_ = 4) ∧ ((Ti 198).by_ = 4) ∧ ((Ti 199).by_ = 48) ∧ ((Ti 200).by_ = 48) ∧ ((Ti 201).by_ = 8) ∧ ((Ti 0).ty.isB = false) ∧ ((Ti 1).ty.isB = false) ∧ ((Ti 2).ty.isB = false) ∧ ((Ti 3).ty.isB = false) ∧ ((Ti 4).ty.isB = false) ∧ ((Ti 5).ty.isB = true) ∧ ((Ti 6).ty.isB = true) ∧ ((Ti 7).ty.isB = false) ∧ ((Ti 8).ty.isB = false) ∧ ((Ti 9).ty.isB = false) ∧ ((Ti 10).ty.isB = false) ∧ ((Ti 11).ty.isB = false) ∧ ((Ti 12).ty.isB = false) ∧ ((Ti 13).ty.isB = false) ∧ ((Ti 14).ty.isB = false) ∧ ((Ti 15).ty.isB = false) ∧ ((Ti 16).ty.isB = false) ∧ ((Ti 17).ty.isB = false) ∧ ((Ti 18).ty.isB = false) ∧ ((Ti 19).ty.isB = false) ∧ ((Ti 20).ty.isB = false) ∧ ((Ti 21).ty.isB = false) ∧ ((Ti 22).ty.isB = false) ∧ ((Ti 23).ty.isB = false) ∧ ((Ti 24).ty.isB = false) ∧ ((Ti 25).ty.isB = false) ∧ ((Ti 26).ty.isB = false) ∧ ((Ti 27).ty.isB = false) ∧ ((Ti 28).ty.isB = false) ∧ ((Ti 29).ty.isB = false) ∧ ((Ti 30).ty.isB = false) ∧ ((Ti 31).ty.isB = false) ∧ ((Ti 32).ty.isB = false) ∧ ((Ti 33).ty.isB = false) ∧ ((Ti 34).ty.isB = false) ∧ ((Ti 35).ty.isB = false) ∧ ((Ti 36).ty.isB = false) ∧ ((Ti 37).ty.isB = false) ∧ ((Ti 38).ty.isB = false) ∧ ((Ti 39).ty.isB = false) ∧ ((Ti 40).ty.isB = false) ∧ ((Ti 41).ty.isB = false) ∧ ((Ti 42).ty.isB = false) ∧ ((Ti 43).ty.isB = false) ∧ ((Ti 44).ty.isB = false) ∧ ((Ti 45).ty.isB = false) ∧ ((Ti 46).ty.isB = false) ∧ ((Ti 47).ty.isB = false) ∧ ((Ti 48).ty.isB = false) ∧ ((Ti 49).ty.isB = false) ∧ ((Ti 50).ty.isB = false) ∧ ((Ti 51).ty.isB = false) ∧ ((Ti 52).ty.isB = false) ∧ ((Ti 53).ty.isB = false) ∧ ((Ti 54).ty.isB = false) ∧ ((Ti 55).ty.isB = false) ∧ ((Ti 56).ty.isB = false) ∧ ((Ti 57).ty.isB = false) ∧ ((Ti 58).ty.isB = false) ∧ ((Ti 59).ty.isB = false) ∧ ((Ti 60).ty.isB = false) ∧ ((Ti 61).ty.isB = false) ∧ ((Ti 62).ty.isB = false) ∧ ((Ti 63).ty.isB = false) ∧ ((Ti 64).ty.isB = false) ∧ ((Ti 65).ty.isB = false) ∧ ((Ti 66).ty.isB = false) ∧ ((Ti 67).ty.isB = false) ∧ ((Ti 68).ty.isB = false) ∧ ((Ti 69).ty.isB = false) ∧ ((Ti 70).ty.isB = false) ∧ ((Ti 71).ty.isB = false) ∧ ((Ti 72).ty.isB = false) ∧ ((Ti 73).ty.isB = false) ∧ ((Ti 74).ty.isB = false) ∧ ((Ti 75).ty.isB = false) ∧ ((Ti 76).ty.isB = false) ∧ ((Ti 77).ty.isB = false) ∧ ((Ti 78).ty.isB = false) ∧ ((Ti 79).ty.isB = false) ∧ ((Ti 80).ty.isB = false) ∧ ((Ti 81).ty.isB = false) ∧ ((Ti 82).ty.isB = false) ∧ ((Ti 83).ty.isB = false) ∧ ((Ti 84).ty.isB = false) ∧ ((Ti 85).ty.isB = false) ∧ ((Ti 86).ty.isB = false) ∧ ((Ti 87).ty.isB = false) ∧ ((Ti 88).ty.isB = false) ∧ ((Ti 89).ty.isB = false) ∧ ((Ti 90).ty.isB = false) ∧ ((Ti 91).ty.isB = false) ∧ ((Ti 92).ty.isB = false) ∧ ((Ti 93).ty.isB = false) ∧ ((Ti 94).ty.isB = false) ∧ ((Ti 95).ty.isB = false) ∧ ((Ti 96).ty.isB = false) ∧ ((Ti 97).ty.isB = false) ∧ ((Ti 98).ty.isB = false) ∧ ((Ti 99).ty.isB = false) ∧ ((Ti 100).ty.isB = false) ∧ ((Ti 101).ty.isB = false) ∧ ((Ti 102).ty.isB = false) ∧ ((Ti 103).ty.isB = false) ∧ ((Ti 104).ty.isB = false) ∧ ((Ti 105).ty.isB = false) ∧ ((Ti 106).ty.isB = false) ∧ ((Ti 107).ty.isB = false) ∧ ((Ti 108).ty.isB = false) ∧ ((Ti 109).ty.isB = false) ∧ ((Ti 110).ty.isB = false) ∧ ((Ti 111).ty.isB = false) ∧ ((Ti 112).ty.isB = false) ∧ ((Ti 113).ty.isB = false) ∧ ((Ti 114).ty.isB = false) ∧ ((Ti 115).ty.isB = false) ∧ ((Ti 116).ty.isB = false) ∧ ((Ti 117).ty.isB = false) ∧ ((Ti 118).ty.isB = false) ∧ ((Ti 119).ty.isB = false) ∧ ((Ti 120).ty.isB = false) ∧ ((Ti 121).ty.isB = false) ∧ ((Ti 122).ty.isB = false) ∧ ((Ti 123).ty.isB = false) ∧ ((Ti 124).ty.isB = false) ∧ ((Ti 125).ty.isB = false) ∧ ((Ti 126).ty.isB = false) ∧ ((Ti 127).ty.isB = false) ∧ ((Ti 128).ty.isB = false) ∧ ((Ti 129).ty.isB = false) ∧ ((Ti 130).ty.isB = false) ∧ ((Ti 131).ty.isB = false) ∧ ((Ti 132).ty.isB = false) ∧ ((Ti 133).ty.isB = false) ∧ ((Ti 134).ty.isB = false) ∧ ((Ti 135).ty.isB = false) ∧ ((Ti 136).ty.isB = false) ∧ ((Ti 137).ty.isB = false) ∧ ((Ti 138).ty.isB = false) ∧ ((Ti 139).ty.isB = false) ∧ ((Ti 140).ty.isB = false) ∧ ((Ti 141).ty.isB = false) ∧ ((Ti 142).ty.isB = false) ∧ ((Ti 143).ty.isB = false) ∧ ((Ti 144).ty.isB = false) ∧ ((Ti 145).ty.isB = false) ∧ ((Ti 146).ty.isB = false) ∧ ((Ti 147).ty.isB = false) ∧ ((Ti 148).ty.isB = false) ∧ ((Ti 149).ty.isB = false) ∧ ((Ti 150).ty.isB = false) ∧ ((Ti 151).ty.isB = false) ∧ ((Ti 152).ty.isB = false) ∧ ((Ti 153).ty.isB = false) ∧ ((Ti 154).ty.isB = false) ∧ ((Ti 155).ty.isB = false) ∧ ((Ti 156).ty.isB = false) ∧ ((Ti 157).ty.isB = false) ∧ ((Ti 158).ty.isB = false) ∧ ((Ti 159).ty.isB = false) ∧ ((Ti 160).ty.isB = false) ∧ ((Ti 161).ty.isB = false) ∧ ((Ti 162).ty.isB = false) ∧ ((Ti 163).ty.isB = false) ∧ ((Ti 164).ty.isB = false) ∧ ((Ti 165).ty.isB = false) ∧ ((Ti 166).ty.isB = false) ∧ ((Ti 167).ty.isB = false) ∧ ((Ti 168).ty.isB = false) ∧ ((Ti 169).ty.isB = false) ∧ ((Ti 170).ty.isB = false) ∧ ((Ti 171).ty.isB = false) ∧ ((Ti 172).ty.isB = false) ∧ ((Ti 173).ty.isB = false) ∧ ((Ti 174).ty.isB = false) ∧ ((Ti 175).ty.isB = false) ∧ ((Ti 176).ty.isB = false) ∧ ((Ti 177).ty.isB = false) ∧ ((Ti 178).ty.isB = false) ∧ ((Ti 179).ty.isB = false) ∧ ((Ti 180).ty.isB = false) ∧ ((Ti 181).ty.isB = false) ∧ ((Ti 182).ty.isB = false) ∧ ((Ti 183).ty.isB = false) ∧ ((Ti 184).ty.isB = false) ∧ ((Ti 185).ty.isB = false) ∧ ((Ti 186).ty.isB = false) ∧ ((Ti 187).ty.isB = false) ∧ ((Ti 188).ty.isB = false) ∧ ((Ti 189).ty.isB = false) ∧ ((Ti 190).ty.isB = false) ∧ ((Ti 191).ty.isB = false) ∧ ((Ti 192).ty.isB = false) ∧ ((Ti 193).ty.isB = true) ∧ ((Ti 194).ty.isB = true) ∧ ((Ti 195).ty.isB = false) ∧ ((Ti 196).ty.isB = false) ∧ ((Ti 197).ty.isB = false) ∧ ((Ti 198).ty.isB = false) ∧ ((Ti 199).ty.isB = false) ∧ ((Ti 200).ty.isB = false) ∧ ((Ti 201).ty.isB = false) := ⟨sz0, sz1, sz2, sz3, sz4, sz5, sz6, sz7, sz8, sz9, sz10, sz11, sz12, sz13, sz14, sz15, sz16, sz17, sz18, sz19, sz20, sz21, sz22, sz23, sz24, sz25, sz26, sz27, sz28, sz29, sz30, sz31, sz32, sz33, sz34, sz35, sz36, sz37, sz38, sz39, sz40, sz41, sz42, sz43, sz44, sz45, sz46, sz47, sz48, sz49, sz50, sz51, sz52, sz53, sz54, sz55, sz56, sz57, sz58, sz59, sz60, sz61, sz62, sz63, sz64, sz65, sz66, sz67, sz68, sz69, sz70, sz71, sz72, sz73, sz74, sz75, sz76, sz77, sz78, sz79, sz80, sz81, sz82, sz83, sz84, sz85, sz86, sz87, sz88, sz89, sz90, sz91, sz92, sz93, sz94, sz95, sz96, sz97, sz98, sz99, sz100, sz101, sz102, sz103, sz104, sz105, sz106, sz107, sz108, sz109, sz110, sz111, sz112, sz113, sz114, sz115, sz116, sz117, sz118, sz119, sz120, sz121, sz122, sz123, sz124, sz125, sz126, sz127, sz128, sz129, sz130, sz131, sz132, sz133, sz134, sz135, sz136, sz137, sz138, sz139, sz140, sz141, sz142, sz143, sz144, sz145, sz146, sz147, sz148, sz149, sz150, sz151, sz152, sz153, sz154, sz155, sz156, sz157, sz158, sz159, sz160, sz161, sz162, sz163, sz164, sz165, sz166, sz167, sz168, sz169, sz170, sz171, sz172, sz173, sz174, sz175, sz176, sz177, sz178, sz179, sz180, sz181, sz182, sz183, sz184, sz185, sz186, sz187, sz188, sz189, sz190, sz191, sz192, sz193, sz194, sz195, sz196, sz197, sz198, sz199, sz200, sz201, zc7, zc8, zc13, zc14, zc18, zc19, zc22, zc23, zc24, zc29, zc31, zc32, zc34, zc35, zc42, zc43, zc56, zc57, zc82, zc83, zc91, zc92, zc104, zc114, zc115, zc141, zc142, zc151, zc152, zc161, zc171, zc172, zc173, zc174, zc178, zc179, zc180, zc188, zc189, zc190, zc199, zc200, by0, by1, by2, by3, by4, by5, by6, by7, by8, by9, by10, by11, by12, by13, by14, by15, by16, by17, by18, by19, by20, by21, by22, by23, by24, by25, by26, by27, by28, by29, by30, by31, by32, by33, by34, by35, by36, by37, by38, by39, by40, by41, by42, by43, by44, by45, by46, by47, by48, by49, by50, by51, by52, by53, by54, by55, by56, by57, by58, by59, by60, by61, by62, by63, by64, by65, by66, by67, by68, by69, by70, by71, by72, by73, by74, by75, by76, by77, by78, by79, by80, by81, by82, by83, by84, by85, by86, by87, by88, by89, by90, by91, by92, by93, by94, by95, by96, by97, by98, by99, by100, by101, by102, by103, by104, by105, by106, by107, by108, by109, by110, by111, by112, by113, by114, by115, by116, by117, by118, by119, by120, by121, by122, by123, by124, by125, by126, by127, by128, by129, by130, by131, by132, by133, by134, by135, by136, by137, by138, by139, by140, by141, by142, by143, by144, by145, by146, by147, by148, by149, by150, by151, by152, by153, by154, by155, by156, by157, by158, by159, by160, by161, by162, by163, by164, by165, by166, by167, by168, by169, by170, by171, by172, by173, by174, by175, by176, by177, by178, by179, by180, by181, by182, by183, by184, by185, by186, by187, by188, by189, by190, by191, by192, by193, by194, by195, by196, by197, by198, by199, by200, by201, ib0, ib1, ib2, ib3, ib4, ib5, ib6, ib7, ib8, ib9, ib10, ib11, ib12, ib13, ib14, ib15, ib16, ib17, ib18, ib19, ib20, ib21, ib22, ib23, ib24, ib25, ib26, ib27, ib28, ib29, ib30, ib31, ib32, ib33, ib34, ib35, ib36, ib37, ib38, ib39, ib40, ib41, ib42, ib43, ib44, ib45, ib46, ib47, ib48, ib49, ib50, ib51, ib52, ib53, ib54, ib55, ib56, ib57, ib58, ib59, ib60, ib61, ib62, ib63, ib64, ib65, ib66, ib67, ib68, ib69, ib70, ib71, ib72, ib73, ib74, ib75, ib76, ib77, ib78, ib79, ib80, ib81, ib82, ib83, ib84, ib85, ib86, ib87, ib88, ib89, ib90, ib91, ib92, ib93, ib94, ib95, ib96, ib97, ib98, ib99, ib100, ib101, ib102, ib103, ib104, ib105, ib106, ib107, ib108, ib109, ib110, ib111, ib112, ib113, ib114, ib115, ib116, ib117, ib118, ib119, ib120, ib121, ib122, ib123, ib124, ib125, ib126, ib127, ib128, ib129, ib130, ib131, ib132, ib133, ib134, ib135, ib136, ib137, ib138, ib139, ib140, ib141, ib142, ib143, ib144, ib145, ib146, ib147, ib148, ib149, ib150, ib151, ib152, ib153, ib154, ib155, ib156, ib157, ib158, ib159, ib160, ib161, ib162, ib163, ib164, ib165, ib166, ib167, ib168, ib169, ib170, ib171, ib172, ib173, ib174, ib175, ib176, ib177, ib178, ib179, ib180, ib181, ib182, ib183, ib184, ib185, ib186, ib187, ib188, ib189, ib190, ib191, ib192, ib193, ib194, ib195, ib196, ib197, ib198, ib199, ib200, ib201⟩
theorem Z : type_of% V1 ∧ type_of% V2 ∧ type_of% V3 ∧ type_of% V4 ∧ type_of% V5 ∧ type_of% V6 ∧ type_of% V7 ∧ type_of% VL ∧ type_of% Zs := ⟨V1, V2, V3, V4, V5, V6, V7, VL, Zs⟩
end Go.Proofs.YtocfhkmdkdjinaaDoor
