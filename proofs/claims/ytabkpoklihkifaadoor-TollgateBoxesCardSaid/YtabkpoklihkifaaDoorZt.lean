/- The types of the seat's program, as the abstract state looks at them. Printed by gen_tab.py. -/
import Derived.Test.YtabkpoklihkifaaDoorProg
import Derived.Test.YtabkpoklihkifaaDoorZk
namespace Go.Proofs.YtabkpoklihkifaaDoor
open Go
set_option linter.unusedVariables false
set_option maxRecDepth 100000

def tabL : List TI := [
  ⟨.none, 1, 0, .bot, false⟩,
  ⟨.none, 1, 8, .nilF, false⟩,
  ⟨.int .i64, 1, 8, .int .i64 0, false⟩,
  ⟨.int .i64, 1, 8, .int .i64 0, false⟩,
  ⟨.bool, 1, 1, .bool false, false⟩,
  ⟨.int .u8, 1, 1, .u8 0, false⟩,
  ⟨.int .u8, 1, 1, .u8 0, false⟩,
  ⟨.struct [(0, 2), (1, 3), (2, 4), (3, 6)], 4, 24, .agg [.int .i64 0, .int .i64 0, .bool false, .u8 0], false⟩,
  ⟨.struct [(0, 2), (1, 3), (2, 4), (3, 6)], 4, 24, .agg [.int .i64 0, .int .i64 0, .bool false, .u8 0], false⟩,
  ⟨.str, 1, 16, .str [], false⟩,
  ⟨.str, 1, 16, .str [], false⟩,
  ⟨.str, 1, 16, .str [], false⟩,
  ⟨.int .u64, 1, 8, .int .u64 0, false⟩,
  ⟨.struct [(0, 9), (1, 12)], 2, 24, .agg [.str [], .int .u64 0], false⟩,
  ⟨.struct [(0, 9), (1, 12)], 2, 24, .agg [.str [], .int .u64 0], false⟩,
  ⟨.ptr 83, 1, 8, .nilP, false⟩,
  ⟨.ptr 86, 1, 8, .nilP, false⟩,
  ⟨.ptr 95, 1, 8, .nilP, false⟩,
  ⟨.struct [(0, 17)], 1, 8, .agg [.nilP], false⟩,
  ⟨.struct [(0, 17)], 1, 8, .agg [.nilP], false⟩,
  ⟨.none, 1, 16, .bot, false⟩,
  ⟨.int .i32, 1, 4, .int .i32 0, false⟩,
  ⟨.arr 16 5, 16, 16, .aggb (List.replicate 16 0), false⟩,
  ⟨.arr 12 5, 12, 12, .aggb (List.replicate 12 0), false⟩,
  ⟨.slice 5, 1, 24, .nilS, false⟩,
  ⟨.ptr 43, 1, 8, .nilP, false⟩,
  ⟨.int .i64, 1, 8, .int .i64 0, false⟩,
  ⟨.none, 1, 0, .bot, false⟩,
  ⟨.none, 1, 8, .nilF, false⟩,
  ⟨.ptr 47, 1, 8, .nilP, false⟩,
  ⟨.none, 1, 0, .bot, false⟩,
  ⟨.none, 1, 8, .nilF, false⟩,
  ⟨.none, 1, 8, .nilF, false⟩,
  ⟨.none, 1, 8, .nilF, false⟩,
  ⟨.int .u64, 1, 8, .int .u64 0, false⟩,
  ⟨.none, 1, 8, .nilF, false⟩,
  ⟨.none, 1, 8, .nilF, false⟩,
  ⟨.none, 1, 8, .nilF, false⟩,
  ⟨.arr 256 5, 256, 256, .aggb (List.replicate 256 0), false⟩,
  ⟨.struct [(0, 38), (256, 38)], 512, 512, .aggb (List.replicate 512 0), false⟩,
  ⟨.struct [(0, 38), (256, 38)], 512, 512, .aggb (List.replicate 512 0), false⟩,
  ⟨.slice 22, 1, 24, .nilS, false⟩,
  ⟨.struct [(0, 40), (512, 41)], 513, 536, .agg [.u8 0, .u8 0, .u8 0, .u8 0, .u8 0, .u8 0, .u8 0, .u8 0, .u8 0, .u8 0, .u8 0, .u8 0, .u8 0, .u8 0, .u8 0, .u8 0, .u8 0, .u8 0, .u8 0, .u8 0, .u8 0, .u8 0, .u8 0, .u8 0, .u8 0, .u8 0, .u8 0, .u8 0, .u8 0, .u8 0, .u8 0, .u8 0, .u8 0, .u8 0, .u8 0, .u8 0, .u8 0, .u8 0, .u8 0, .u8 0, .u8 0, .u8 0, .u8 0, .u8 0, .u8 0, .u8 0, .u8 0, .u8 0, .u8 0, .u8 0, .u8 0, .u8 0, .u8 0, .u8 0, .u8 0, .u8 0, .u8 0, .u8 0, .u8 0, .u8 0, .u8 0, .u8 0, .u8 0, .u8 0, .u8 0, .u8 0, .u8 0, .u8 0, .u8 0, .u8 0, .u8 0, .u8 0, .u8 0, .u8 0, .u8 0, .u8 0, .u8 0, .u8 0, .u8 0, .u8 0, .u8 0, .u8 0, .u8 0, .u8 0, .u8 0, .u8 0, .u8 0, .u8 0, .u8 0, .u8 0, .u8 0, .u8 0, .u8 0, .u8 0, .u8 0, .u8 0, .u8 0, .u8 0, .u8 0, .u8 0, .u8 0, .u8 0, .u8 0, .u8 0, .u8 0, .u8 0, .u8 0, .u8 0, .u8 0, .u8 0, .u8 0, .u8 0, .u8 0, .u8 0, .u8 0, .u8 0, .u8 0, .u8 0, .u8 0, .u8 0, .u8 0, .u8 0, .u8 0, .u8 0, .u8 0, .u8 0, .u8 0, .u8 0, .u8 0, .u8 0, .u8 0, .u8 0, .u8 0, .u8 0, .u8 0, .u8 0, .u8 0, .u8 0, .u8 0, .u8 0, .u8 0, .u8 0, .u8 0, .u8 0, .u8 0, .u8 0, .u8 0, .u8 0, .u8 0, .u8 0, .u8 0, .u8 0, .u8 0, .u8 0, .u8 0, .u8 0, .u8 0, .u8 0, .u8 0, .u8 0, .u8 0, .u8 0, .u8 0, .u8 0, .u8 0, .u8 0, .u8 0, .u8 0, .u8 0, .u8 0, .u8 0, .u8 0, .u8 0, .u8 0, .u8 0, .u8 0, .u8 0, .u8 0, .u8 0, .u8 0, .u8 0, .u8 0, .u8 0, .u8 0, .u8 0, .u8 0, .u8 0, .u8 0, .u8 0, .u8 0, .u8 0, .u8 0, .u8 0, .u8 0, .u8 0, .u8 0, .u8 0, .u8 0, .u8 0, .u8 0, .u8 0, .u8 0, .u8 0, .u8 0, .u8 0, .u8 0, .u8 0, .u8 0, .u8 0, .u8 0, .u8 0, .u8 0, .u8 0, .u8 0, .u8 0, .u8 0, .u8 0, .u8 0, .u8 0, .u8 0, .u8 0, .u8 0, .u8 0, .u8 0, .u8 0, .u8 0, .u8 0, .u8 0, .u8 0, .u8 0, .u8 0, .u8 0, .u8 0, .u8 0, .u8 0, .u8 0, .u8 0, .u8 0, .u8 0, .u8 0, .u8 0, .u8 0, .u8 0, .u8 0, .u8 0, .u8 0, .u8 0, .u8 0, .u8 0, .u8 0, .u8 0, .u8 0, .u8 0, .u8 0, .u8 0, .u8 0, .u8 0, .u8 0, .u8 0, .u8 0, .u8 0, .u8 0, .u8 0, .u8 0, .u8 0, .u8 0, .u8 0, .u8 0, .u8 0, .u8 0, .u8 0, .u8 0, .u8 0, .u8 0, .u8 0, .u8 0, .u8 0, .u8 0, .u8 0, .u8 0, .u8 0, .u8 0, .u8 0, .u8 0, .u8 0, .u8 0, .u8 0, .u8 0, .u8 0, .u8 0, .u8 0, .u8 0, .u8 0, .u8 0, .u8 0, .u8 0, .u8 0, .u8 0, .u8 0, .u8 0, .u8 0, .u8 0, .u8 0, .u8 0, .u8 0, .u8 0, .u8 0, .u8 0, .u8 0, .u8 0, .u8 0, .u8 0, .u8 0, .u8 0, .u8 0, .u8 0, .u8 0, .u8 0, .u8 0, .u8 0, .u8 0, .u8 0, .u8 0, .u8 0, .u8 0, .u8 0, .u8 0, .u8 0, .u8 0, .u8 0, .u8 0, .u8 0, .u8 0, .u8 0, .u8 0, .u8 0, .u8 0, .u8 0, .u8 0, .u8 0, .u8 0, .u8 0, .u8 0, .u8 0, .u8 0, .u8 0, .u8 0, .u8 0, .u8 0, .u8 0, .u8 0, .u8 0, .u8 0, .u8 0, .u8 0, .u8 0, .u8 0, .u8 0, .u8 0, .u8 0, .u8 0, .u8 0, .u8 0, .u8 0, .u8 0, .u8 0, .u8 0, .u8 0, .u8 0, .u8 0, .u8 0, .u8 0, .u8 0, .u8 0, .u8 0, .u8 0, .u8 0, .u8 0, .u8 0, .u8 0, .u8 0, .u8 0, .u8 0, .u8 0, .u8 0, .u8 0, .u8 0, .u8 0, .u8 0, .u8 0, .u8 0, .u8 0, .u8 0, .u8 0, .u8 0, .u8 0, .u8 0, .u8 0, .u8 0, .u8 0, .u8 0, .u8 0, .u8 0, .u8 0, .u8 0, .u8 0, .u8 0, .u8 0, .u8 0, .u8 0, .u8 0, .u8 0, .u8 0, .u8 0, .u8 0, .u8 0, .u8 0, .u8 0, .u8 0, .u8 0, .u8 0, .u8 0, .u8 0, .u8 0, .u8 0, .u8 0, .u8 0, .u8 0, .u8 0, .u8 0, .u8 0, .u8 0, .u8 0, .u8 0, .u8 0, .u8 0, .u8 0, .u8 0, .u8 0, .u8 0, .u8 0, .u8 0, .u8 0, .u8 0, .u8 0, .u8 0, .u8 0, .u8 0, .u8 0, .u8 0, .u8 0, .u8 0, .u8 0, .u8 0, .u8 0, .u8 0, .u8 0, .u8 0, .u8 0, .u8 0, .u8 0, .u8 0, .u8 0, .u8 0, .u8 0, .u8 0, .u8 0, .u8 0, .u8 0, .u8 0, .u8 0, .u8 0, .u8 0, .u8 0, .u8 0, .u8 0, .u8 0, .u8 0, .u8 0, .u8 0, .u8 0, .u8 0, .u8 0, .u8 0, .u8 0, .u8 0, .u8 0, .u8 0, .u8 0, .u8 0, .u8 0, .u8 0, .u8 0, .u8 0, .u8 0, .u8 0, .u8 0, .u8 0, .u8 0, .u8 0, .u8 0, .u8 0, .u8 0, .u8 0, .u8 0, .u8 0, .u8 0, .u8 0, .u8 0, .u8 0, .u8 0, .u8 0, .nilS], false⟩,
  ⟨.struct [(0, 40), (512, 41)], 513, 536, .agg [.u8 0, .u8 0, .u8 0, .u8 0, .u8 0, .u8 0, .u8 0, .u8 0, .u8 0, .u8 0, .u8 0, .u8 0, .u8 0, .u8 0, .u8 0, .u8 0, .u8 0, .u8 0, .u8 0, .u8 0, .u8 0, .u8 0, .u8 0, .u8 0, .u8 0, .u8 0, .u8 0, .u8 0, .u8 0, .u8 0, .u8 0, .u8 0, .u8 0, .u8 0, .u8 0, .u8 0, .u8 0, .u8 0, .u8 0, .u8 0, .u8 0, .u8 0, .u8 0, .u8 0, .u8 0, .u8 0, .u8 0, .u8 0, .u8 0, .u8 0, .u8 0, .u8 0, .u8 0, .u8 0, .u8 0, .u8 0, .u8 0, .u8 0, .u8 0, .u8 0, .u8 0, .u8 0, .u8 0, .u8 0, .u8 0, .u8 0, .u8 0, .u8 0, .u8 0, .u8 0, .u8 0, .u8 0, .u8 0, .u8 0, .u8 0, .u8 0, .u8 0, .u8 0, .u8 0, .u8 0, .u8 0, .u8 0, .u8 0, .u8 0, .u8 0, .u8 0, .u8 0, .u8 0, .u8 0, .u8 0, .u8 0, .u8 0, .u8 0, .u8 0, .u8 0, .u8 0, .u8 0, .u8 0, .u8 0, .u8 0, .u8 0, .u8 0, .u8 0, .u8 0, .u8 0, .u8 0, .u8 0, .u8 0, .u8 0, .u8 0, .u8 0, .u8 0, .u8 0, .u8 0, .u8 0, .u8 0, .u8 0, .u8 0, .u8 0, .u8 0, .u8 0, .u8 0, .u8 0, .u8 0, .u8 0, .u8 0, .u8 0, .u8 0, .u8 0, .u8 0, .u8 0, .u8 0, .u8 0, .u8 0, .u8 0, .u8 0, .u8 0, .u8 0, .u8 0, .u8 0, .u8 0, .u8 0, .u8 0, .u8 0, .u8 0, .u8 0, .u8 0, .u8 0, .u8 0, .u8 0, .u8 0, .u8 0, .u8 0, .u8 0, .u8 0, .u8 0, .u8 0, .u8 0, .u8 0, .u8 0, .u8 0, .u8 0, .u8 0, .u8 0, .u8 0, .u8 0, .u8 0, .u8 0, .u8 0, .u8 0, .u8 0, .u8 0, .u8 0, .u8 0, .u8 0, .u8 0, .u8 0, .u8 0, .u8 0, .u8 0, .u8 0, .u8 0, .u8 0, .u8 0, .u8 0, .u8 0, .u8 0, .u8 0, .u8 0, .u8 0, .u8 0, .u8 0, .u8 0, .u8 0, .u8 0, .u8 0, .u8 0, .u8 0, .u8 0, .u8 0, .u8 0, .u8 0, .u8 0, .u8 0, .u8 0, .u8 0, .u8 0, .u8 0, .u8 0, .u8 0, .u8 0, .u8 0, .u8 0, .u8 0, .u8 0, .u8 0, .u8 0, .u8 0, .u8 0, .u8 0, .u8 0, .u8 0, .u8 0, .u8 0, .u8 0, .u8 0, .u8 0, .u8 0, .u8 0, .u8 0, .u8 0, .u8 0, .u8 0, .u8 0, .u8 0, .u8 0, .u8 0, .u8 0, .u8 0, .u8 0, .u8 0, .u8 0, .u8 0, .u8 0, .u8 0, .u8 0, .u8 0, .u8 0, .u8 0, .u8 0, .u8 0, .u8 0, .u8 0, .u8 0, .u8 0, .u8 0, .u8 0, .u8 0, .u8 0, .u8 0, .u8 0, .u8 0, .u8 0, .u8 0, .u8 0, .u8 0, .u8 0, .u8 0, .u8 0, .u8 0, .u8 0, .u8 0, .u8 0, .u8 0, .u8 0, .u8 0, .u8 0, .u8 0, .u8 0, .u8 0, .u8 0, .u8 0, .u8 0, .u8 0, .u8 0, .u8 0, .u8 0, .u8 0, .u8 0, .u8 0, .u8 0, .u8 0, .u8 0, .u8 0, .u8 0, .u8 0, .u8 0, .u8 0, .u8 0, .u8 0, .u8 0, .u8 0, .u8 0, .u8 0, .u8 0, .u8 0, .u8 0, .u8 0, .u8 0, .u8 0, .u8 0, .u8 0, .u8 0, .u8 0, .u8 0, .u8 0, .u8 0, .u8 0, .u8 0, .u8 0, .u8 0, .u8 0, .u8 0, .u8 0, .u8 0, .u8 0, .u8 0, .u8 0, .u8 0, .u8 0, .u8 0, .u8 0, .u8 0, .u8 0, .u8 0, .u8 0, .u8 0, .u8 0, .u8 0, .u8 0, .u8 0, .u8 0, .u8 0, .u8 0, .u8 0, .u8 0, .u8 0, .u8 0, .u8 0, .u8 0, .u8 0, .u8 0, .u8 0, .u8 0, .u8 0, .u8 0, .u8 0, .u8 0, .u8 0, .u8 0, .u8 0, .u8 0, .u8 0, .u8 0, .u8 0, .u8 0, .u8 0, .u8 0, .u8 0, .u8 0, .u8 0, .u8 0, .u8 0, .u8 0, .u8 0, .u8 0, .u8 0, .u8 0, .u8 0, .u8 0, .u8 0, .u8 0, .u8 0, .u8 0, .u8 0, .u8 0, .u8 0, .u8 0, .u8 0, .u8 0, .u8 0, .u8 0, .u8 0, .u8 0, .u8 0, .u8 0, .u8 0, .u8 0, .u8 0, .u8 0, .u8 0, .u8 0, .u8 0, .u8 0, .u8 0, .u8 0, .u8 0, .u8 0, .u8 0, .u8 0, .u8 0, .u8 0, .u8 0, .u8 0, .u8 0, .u8 0, .u8 0, .u8 0, .u8 0, .u8 0, .u8 0, .u8 0, .u8 0, .u8 0, .u8 0, .u8 0, .u8 0, .u8 0, .u8 0, .u8 0, .u8 0, .u8 0, .u8 0, .u8 0, .u8 0, .u8 0, .u8 0, .u8 0, .u8 0, .u8 0, .u8 0, .u8 0, .u8 0, .u8 0, .u8 0, .u8 0, .u8 0, .u8 0, .u8 0, .u8 0, .u8 0, .u8 0, .u8 0, .u8 0, .u8 0, .u8 0, .u8 0, .u8 0, .u8 0, .u8 0, .u8 0, .u8 0, .u8 0, .u8 0, .u8 0, .u8 0, .u8 0, .u8 0, .u8 0, .u8 0, .u8 0, .u8 0, .u8 0, .u8 0, .u8 0, .u8 0, .u8 0, .u8 0, .u8 0, .u8 0, .u8 0, .u8 0, .u8 0, .u8 0, .u8 0, .u8 0, .u8 0, .u8 0, .u8 0, .u8 0, .u8 0, .u8 0, .u8 0, .u8 0, .u8 0, .u8 0, .u8 0, .u8 0, .u8 0, .u8 0, .u8 0, .u8 0, .u8 0, .u8 0, .u8 0, .u8 0, .u8 0, .u8 0, .u8 0, .u8 0, .u8 0, .u8 0, .nilS], false⟩,
  ⟨.arr 4 5, 4, 4, .aggb [0, 0, 0, 0], false⟩,
  ⟨.none, 1, 8, .nilF, false⟩,
  ⟨.struct [(0, 25), (1, 22)], 17, 24, .agg [.nilP, .u8 0, .u8 0, .u8 0, .u8 0, .u8 0, .u8 0, .u8 0, .u8 0, .u8 0, .u8 0, .u8 0, .u8 0, .u8 0, .u8 0, .u8 0, .u8 0], false⟩,
  ⟨.struct [(0, 25), (1, 22)], 17, 24, .agg [.nilP, .u8 0, .u8 0, .u8 0, .u8 0, .u8 0, .u8 0, .u8 0, .u8 0, .u8 0, .u8 0, .u8 0, .u8 0, .u8 0, .u8 0, .u8 0, .u8 0], false⟩,
  ⟨.arr 32 5, 32, 32, .aggb (List.replicate 32 0), false⟩,
  ⟨.none, 1, 8, .nilF, false⟩,
  ⟨.none, 1, 8, .nilF, false⟩,
  ⟨.none, 1, 8, .nilF, false⟩,
  ⟨.slice 24, 1, 24, .nilS, false⟩,
  ⟨.int .u64, 1, 8, .int .u64 0, false⟩,
  ⟨.struct [(0, 53), (1, 53)], 2, 16, .agg [.int .u64 0, .int .u64 0], false⟩,
  ⟨.struct [(0, 53), (1, 53)], 2, 16, .agg [.int .u64 0, .int .u64 0], false⟩,
  ⟨.none, 1, 8, .nilF, false⟩,
  ⟨.none, 1, 8, .nilF, false⟩,
  ⟨.none, 1, 8, .nilF, false⟩,
  ⟨.none, 1, 8, .nilF, false⟩,
  ⟨.none, 1, 8, .nilF, false⟩,
  ⟨.none, 1, 8, .nilF, false⟩,
  ⟨.none, 1, 8, .nilF, false⟩,
  ⟨.none, 1, 8, .nilF, false⟩,
  ⟨.ptr 40, 1, 8, .nilP, false⟩,
  ⟨.ptr 77, 1, 8, .nilP, false⟩,
  ⟨.none, 1, 8, .nilF, false⟩,
  ⟨.none, 1, 8, .nilF, false⟩,
  ⟨.none, 1, 8, .nilF, false⟩,
  ⟨.none, 1, 8, .nilF, false⟩,
  ⟨.none, 1, 8, .nilF, false⟩,
  ⟨.arr 2 53, 2, 16, .agg [.int .u64 0, .int .u64 0], false⟩,
  ⟨.none, 1, 8, .nilF, false⟩,
  ⟨.int .u32, 1, 4, .u32 0, false⟩,
  ⟨.none, 1, 8, .nilF, false⟩,
  ⟨.arr 8 73, 8, 32, .agg [.u32 0, .u32 0, .u32 0, .u32 0, .u32 0, .u32 0, .u32 0, .u32 0], false⟩,
  ⟨.struct [(0, 75), (8, 24), (9, 3)], 10, 64, .agg [.u32 0, .u32 0, .u32 0, .u32 0, .u32 0, .u32 0, .u32 0, .u32 0, .nilS, .int .i64 0], false⟩,
  ⟨.struct [(0, 75), (8, 24), (9, 3)], 10, 64, .agg [.u32 0, .u32 0, .u32 0, .u32 0, .u32 0, .u32 0, .u32 0, .u32 0, .nilS, .int .i64 0], false⟩,
  ⟨.none, 1, 8, .nilF, false⟩,
  ⟨.arr 64 73, 64, 256, .agg [.u32 0, .u32 0, .u32 0, .u32 0, .u32 0, .u32 0, .u32 0, .u32 0, .u32 0, .u32 0, .u32 0, .u32 0, .u32 0, .u32 0, .u32 0, .u32 0, .u32 0, .u32 0, .u32 0, .u32 0, .u32 0, .u32 0, .u32 0, .u32 0, .u32 0, .u32 0, .u32 0, .u32 0, .u32 0, .u32 0, .u32 0, .u32 0, .u32 0, .u32 0, .u32 0, .u32 0, .u32 0, .u32 0, .u32 0, .u32 0, .u32 0, .u32 0, .u32 0, .u32 0, .u32 0, .u32 0, .u32 0, .u32 0, .u32 0, .u32 0, .u32 0, .u32 0, .u32 0, .u32 0, .u32 0, .u32 0, .u32 0, .u32 0, .u32 0, .u32 0, .u32 0, .u32 0, .u32 0, .u32 0], false⟩,
  ⟨.none, 1, 8, .nilF, false⟩,
  ⟨.none, 1, 8, .nilF, false⟩,
  ⟨.struct [(0, 17), (1, 17), (2, 17), (3, 9)], 4, 40, .agg [.nilP, .nilP, .nilP, .str []], false⟩,
  ⟨.struct [(0, 17), (1, 17), (2, 17), (3, 9)], 4, 40, .agg [.nilP, .nilP, .nilP, .str []], false⟩,
  ⟨.arr 0 16, 0, 0, .aggb [], false⟩,
  ⟨.struct [(0, 84)], 0, 0, .aggb [], false⟩,
  ⟨.struct [(0, 84)], 0, 0, .aggb [], false⟩,
  ⟨.none, 1, 8, .nilF, false⟩,
  ⟨.int .u8, 1, 1, .u8 0, false⟩,
  ⟨.int .u8, 1, 1, .u8 0, false⟩,
  ⟨.none, 1, 8, .nilF, false⟩,
  ⟨.ptr 5, 1, 8, .nilP, false⟩,
  ⟨.int .i32, 1, 4, .int .i32 0, false⟩,
  ⟨.int .i32, 1, 4, .int .i32 0, false⟩,
  ⟨.struct [(0, 12), (1, 12), (2, 73), (3, 88), (4, 5), (5, 5), (6, 89), (7, 90), (8, 91), (9, 92), (10, 93)], 11, 48, .agg [.int .u64 0, .int .u64 0, .u32 0, .u8 0, .u8 0, .u8 0, .u8 0, .nilF, .nilP, .int .i32 0, .int .i32 0], false⟩,
  ⟨.struct [(0, 12), (1, 12), (2, 73), (3, 88), (4, 5), (5, 5), (6, 89), (7, 90), (8, 91), (9, 92), (10, 93)], 11, 48, .agg [.int .u64 0, .int .u64 0, .u32 0, .u8 0, .u8 0, .u8 0, .u8 0, .nilF, .nilP, .int .i32 0, .int .i32 0], false⟩
]
noncomputable def Ti (t : Nat) : TI :=
  match Nat.blt t 96 with
  | true => tabL.getD t ⟨.none, 0, 0, .bot, false⟩
  | false => tiOf Tryd.prog t
theorem tab_ok : (List.range 96).map (tiOf Tryd.prog) = tabL := by kernel_rfl
theorem ti_eq : tiOf Tryd.prog = Ti := by
  funext t
  unfold Ti
  split
  · rename_i h
    have ht : t < 96 := by simpa [Nat.blt_eq] using h
    rw [← tab_ok]
    simp [List.getD_eq_getElem?_getD, ht]
  · rfl
theorem sz0 : (Ti 0).sz = 1 := rfl
theorem sz1 : (Ti 1).sz = 1 := rfl
theorem sz2 : (Ti 2).sz = 1 := rfl
theorem sz3 : (Ti 3).sz = 1 := rfl
theorem sz4 : (Ti 4).sz = 1 := rfl
theorem sz5 : (Ti 5).sz = 1 := rfl
theorem sz6 : (Ti 6).sz = 1 := rfl
theorem sz7 : (Ti 7).sz = 4 := rfl
theorem sz8 : (Ti 8).sz = 4 := rfl
theorem sz9 : (Ti 9).sz = 1 := rfl
theorem sz10 : (Ti 10).sz = 1 := rfl
theorem sz11 : (Ti 11).sz = 1 := rfl
theorem sz12 : (Ti 12).sz = 1 := rfl
theorem sz13 : (Ti 13).sz = 2 := rfl
theorem sz14 : (Ti 14).sz = 2 := rfl
theorem sz15 : (Ti 15).sz = 1 := rfl
theorem sz16 : (Ti 16).sz = 1 := rfl
theorem sz17 : (Ti 17).sz = 1 := rfl
theorem sz18 : (Ti 18).sz = 1 := rfl
theorem sz19 : (Ti 19).sz = 1 := rfl
theorem sz20 : (Ti 20).sz = 1 := rfl
theorem sz21 : (Ti 21).sz = 1 := rfl
theorem sz22 : (Ti 22).sz = 16 := rfl
theorem sz23 : (Ti 23).sz = 12 := rfl
theorem sz24 : (Ti 24).sz = 1 := rfl
theorem sz25 : (Ti 25).sz = 1 := rfl
theorem sz26 : (Ti 26).sz = 1 := rfl
theorem sz27 : (Ti 27).sz = 1 := rfl
theorem sz28 : (Ti 28).sz = 1 := rfl
theorem sz29 : (Ti 29).sz = 1 := rfl
theorem sz30 : (Ti 30).sz = 1 := rfl
theorem sz31 : (Ti 31).sz = 1 := rfl
theorem sz32 : (Ti 32).sz = 1 := rfl
theorem sz33 : (Ti 33).sz = 1 := rfl
theorem sz34 : (Ti 34).sz = 1 := rfl
theorem sz35 : (Ti 35).sz = 1 := rfl
theorem sz36 : (Ti 36).sz = 1 := rfl
theorem sz37 : (Ti 37).sz = 1 := rfl
theorem sz38 : (Ti 38).sz = 256 := rfl
theorem sz39 : (Ti 39).sz = 512 := rfl
theorem sz40 : (Ti 40).sz = 512 := rfl
theorem sz41 : (Ti 41).sz = 1 := rfl
theorem sz42 : (Ti 42).sz = 513 := rfl
theorem sz43 : (Ti 43).sz = 513 := rfl
theorem sz44 : (Ti 44).sz = 4 := rfl
theorem sz45 : (Ti 45).sz = 1 := rfl
theorem sz46 : (Ti 46).sz = 17 := rfl
theorem sz47 : (Ti 47).sz = 17 := rfl
theorem sz48 : (Ti 48).sz = 32 := rfl
theorem sz49 : (Ti 49).sz = 1 := rfl
theorem sz50 : (Ti 50).sz = 1 := rfl
theorem sz51 : (Ti 51).sz = 1 := rfl
theorem sz52 : (Ti 52).sz = 1 := rfl
theorem sz53 : (Ti 53).sz = 1 := rfl
theorem sz54 : (Ti 54).sz = 2 := rfl
theorem sz55 : (Ti 55).sz = 2 := rfl
theorem sz56 : (Ti 56).sz = 1 := rfl
theorem sz57 : (Ti 57).sz = 1 := rfl
theorem sz58 : (Ti 58).sz = 1 := rfl
theorem sz59 : (Ti 59).sz = 1 := rfl
theorem sz60 : (Ti 60).sz = 1 := rfl
theorem sz61 : (Ti 61).sz = 1 := rfl
theorem sz62 : (Ti 62).sz = 1 := rfl
theorem sz63 : (Ti 63).sz = 1 := rfl
theorem sz64 : (Ti 64).sz = 1 := rfl
theorem sz65 : (Ti 65).sz = 1 := rfl
theorem sz66 : (Ti 66).sz = 1 := rfl
theorem sz67 : (Ti 67).sz = 1 := rfl
theorem sz68 : (Ti 68).sz = 1 := rfl
theorem sz69 : (Ti 69).sz = 1 := rfl
theorem sz70 : (Ti 70).sz = 1 := rfl
theorem sz71 : (Ti 71).sz = 2 := rfl
theorem sz72 : (Ti 72).sz = 1 := rfl
theorem sz73 : (Ti 73).sz = 1 := rfl
theorem sz74 : (Ti 74).sz = 1 := rfl
theorem sz75 : (Ti 75).sz = 8 := rfl
theorem sz76 : (Ti 76).sz = 10 := rfl
theorem sz77 : (Ti 77).sz = 10 := rfl
theorem sz78 : (Ti 78).sz = 1 := rfl
theorem sz79 : (Ti 79).sz = 64 := rfl
theorem sz80 : (Ti 80).sz = 1 := rfl
theorem sz81 : (Ti 81).sz = 1 := rfl
theorem sz82 : (Ti 82).sz = 4 := rfl
theorem sz83 : (Ti 83).sz = 4 := rfl
theorem sz84 : (Ti 84).sz = 0 := rfl
theorem sz85 : (Ti 85).sz = 0 := rfl
theorem sz86 : (Ti 86).sz = 0 := rfl
theorem sz87 : (Ti 87).sz = 1 := rfl
theorem sz88 : (Ti 88).sz = 1 := rfl
theorem sz89 : (Ti 89).sz = 1 := rfl
theorem sz90 : (Ti 90).sz = 1 := rfl
theorem sz91 : (Ti 91).sz = 1 := rfl
theorem sz92 : (Ti 92).sz = 1 := rfl
theorem sz93 : (Ti 93).sz = 1 := rfl
theorem sz94 : (Ti 94).sz = 11 := rfl
theorem sz95 : (Ti 95).sz = 11 := rfl
theorem zc7 : (Ti 7).zero.cells = [.int .i64 0, .int .i64 0, .bool false, .u8 0] := rfl
theorem zc8 : (Ti 8).zero.cells = [.int .i64 0, .int .i64 0, .bool false, .u8 0] := rfl
theorem zc13 : (Ti 13).zero.cells = [.str [], .int .u64 0] := rfl
theorem zc14 : (Ti 14).zero.cells = [.str [], .int .u64 0] := rfl
theorem zc18 : (Ti 18).zero.cells = [.nilP] := rfl
theorem zc19 : (Ti 19).zero.cells = [.nilP] := rfl
theorem zc22 : (Ti 22).zero.cells = ((List.replicate 16 0) : List UInt8).map D.u8 := rfl
theorem zc23 : (Ti 23).zero.cells = ((List.replicate 12 0) : List UInt8).map D.u8 := rfl
theorem zc38 : (Ti 38).zero.cells = ((List.replicate 256 0) : List UInt8).map D.u8 := rfl
theorem zc42 : (Ti 42).zero.cells = [.u8 0, .u8 0, .u8 0, .u8 0, .u8 0, .u8 0, .u8 0, .u8 0, .u8 0, .u8 0, .u8 0, .u8 0, .u8 0, .u8 0, .u8 0, .u8 0, .u8 0, .u8 0, .u8 0, .u8 0, .u8 0, .u8 0, .u8 0, .u8 0, .u8 0, .u8 0, .u8 0, .u8 0, .u8 0, .u8 0, .u8 0, .u8 0, .u8 0, .u8 0, .u8 0, .u8 0, .u8 0, .u8 0, .u8 0, .u8 0, .u8 0, .u8 0, .u8 0, .u8 0, .u8 0, .u8 0, .u8 0, .u8 0, .u8 0, .u8 0, .u8 0, .u8 0, .u8 0, .u8 0, .u8 0, .u8 0, .u8 0, .u8 0, .u8 0, .u8 0, .u8 0, .u8 0, .u8 0, .u8 0, .u8 0, .u8 0, .u8 0, .u8 0, .u8 0, .u8 0, .u8 0, .u8 0, .u8 0, .u8 0, .u8 0, .u8 0, .u8 0, .u8 0, .u8 0, .u8 0, .u8 0, .u8 0, .u8 0, .u8 0, .u8 0, .u8 0, .u8 0, .u8 0, .u8 0, .u8 0, .u8 0, .u8 0, .u8 0, .u8 0, .u8 0, .u8 0, .u8 0, .u8 0, .u8 0, .u8 0, .u8 0, .u8 0, .u8 0, .u8 0, .u8 0, .u8 0, .u8 0, .u8 0, .u8 0, .u8 0, .u8 0, .u8 0, .u8 0, .u8 0, .u8 0, .u8 0, .u8 0, .u8 0, .u8 0, .u8 0, .u8 0, .u8 0, .u8 0, .u8 0, .u8 0, .u8 0, .u8 0, .u8 0, .u8 0, .u8 0, .u8 0, .u8 0, .u8 0, .u8 0, .u8 0, .u8 0, .u8 0, .u8 0, .u8 0, .u8 0, .u8 0, .u8 0, .u8 0, .u8 0, .u8 0, .u8 0, .u8 0, .u8 0, .u8 0, .u8 0, .u8 0, .u8 0, .u8 0, .u8 0, .u8 0, .u8 0, .u8 0, .u8 0, .u8 0, .u8 0, .u8 0, .u8 0, .u8 0, .u8 0, .u8 0, .u8 0, .u8 0, .u8 0, .u8 0, .u8 0, .u8 0, .u8 0, .u8 0, .u8 0, .u8 0, .u8 0, .u8 0, .u8 0, .u8 0, .u8 0, .u8 0, .u8 0, .u8 0, .u8 0, .u8 0, .u8 0, .u8 0, .u8 0, .u8 0, .u8 0, .u8 0, .u8 0, .u8 0, .u8 0, .u8 0, .u8 0, .u8 0, .u8 0, .u8 0, .u8 0, .u8 0, .u8 0, .u8 0, .u8 0, .u8 0, .u8 0, .u8 0, .u8 0, .u8 0, .u8 0, .u8 0, .u8 0, .u8 0, .u8 0, .u8 0, .u8 0, .u8 0, .u8 0, .u8 0, .u8 0, .u8 0, .u8 0, .u8 0, .u8 0, .u8 0, .u8 0, .u8 0, .u8 0, .u8 0, .u8 0, .u8 0, .u8 0, .u8 0, .u8 0, .u8 0, .u8 0, .u8 0, .u8 0, .u8 0, .u8 0, .u8 0, .u8 0, .u8 0, .u8 0, .u8 0, .u8 0, .u8 0, .u8 0, .u8 0, .u8 0, .u8 0, .u8 0, .u8 0, .u8 0, .u8 0, .u8 0, .u8 0, .u8 0, .u8 0, .u8 0, .u8 0, .u8 0, .u8 0, .u8 0, .u8 0, .u8 0, .u8 0, .u8 0, .u8 0, .u8 0, .u8 0, .u8 0, .u8 0, .u8 0, .u8 0, .u8 0, .u8 0, .u8 0, .u8 0, .u8 0, .u8 0, .u8 0, .u8 0, .u8 0, .u8 0, .u8 0, .u8 0, .u8 0, .u8 0, .u8 0, .u8 0, .u8 0, .u8 0, .u8 0, .u8 0, .u8 0, .u8 0, .u8 0, .u8 0, .u8 0, .u8 0, .u8 0, .u8 0, .u8 0, .u8 0, .u8 0, .u8 0, .u8 0, .u8 0, .u8 0, .u8 0, .u8 0, .u8 0, .u8 0, .u8 0, .u8 0, .u8 0, .u8 0, .u8 0, .u8 0, .u8 0, .u8 0, .u8 0, .u8 0, .u8 0, .u8 0, .u8 0, .u8 0, .u8 0, .u8 0, .u8 0, .u8 0, .u8 0, .u8 0, .u8 0, .u8 0, .u8 0, .u8 0, .u8 0, .u8 0, .u8 0, .u8 0, .u8 0, .u8 0, .u8 0, .u8 0, .u8 0, .u8 0, .u8 0, .u8 0, .u8 0, .u8 0, .u8 0, .u8 0, .u8 0, .u8 0, .u8 0, .u8 0, .u8 0, .u8 0, .u8 0, .u8 0, .u8 0, .u8 0, .u8 0, .u8 0, .u8 0, .u8 0, .u8 0, .u8 0, .u8 0, .u8 0, .u8 0, .u8 0, .u8 0, .u8 0, .u8 0, .u8 0, .u8 0, .u8 0, .u8 0, .u8 0, .u8 0, .u8 0, .u8 0, .u8 0, .u8 0, .u8 0, .u8 0, .u8 0, .u8 0, .u8 0, .u8 0, .u8 0, .u8 0, .u8 0, .u8 0, .u8 0, .u8 0, .u8 0, .u8 0, .u8 0, .u8 0, .u8 0, .u8 0, .u8 0, .u8 0, .u8 0, .u8 0, .u8 0, .u8 0, .u8 0, .u8 0, .u8 0, .u8 0, .u8 0, .u8 0, .u8 0, .u8 0, .u8 0, .u8 0, .u8 0, .u8 0, .u8 0, .u8 0, .u8 0, .u8 0, .u8 0, .u8 0, .u8 0, .u8 0, .u8 0, .u8 0, .u8 0, .u8 0, .u8 0, .u8 0, .u8 0, .u8 0, .u8 0, .u8 0, .u8 0, .u8 0, .u8 0, .u8 0, .u8 0, .u8 0, .u8 0, .u8 0, .u8 0, .u8 0, .u8 0, .u8 0, .u8 0, .u8 0, .u8 0, .u8 0, .u8 0, .u8 0, .u8 0, .u8 0, .u8 0, .u8 0, .u8 0, .u8 0, .u8 0, .u8 0, .u8 0, .u8 0, .u8 0, .u8 0, .u8 0, .u8 0, .u8 0, .u8 0, .u8 0, .u8 0, .u8 0, .u8 0, .u8 0, .u8 0, .u8 0, .u8 0, .u8 0, .u8 0, .u8 0, .u8 0, .u8 0, .u8 0, .u8 0, .u8 0, .u8 0, .u8 0, .u8 0, .u8 0, .u8 0, .u8 0, .u8 0, .u8 0, .u8 0, .u8 0, .u8 0, .u8 0, .u8 0, .u8 0, .u8 0, .u8 0, .u8 0, .u8 0, .u8 0, .u8 0, .u8 0, .nilS] := rfl
theorem zc43 : (Ti 43).zero.cells = [.u8 0, .u8 0, .u8 0, .u8 0, .u8 0, .u8 0, .u8 0, .u8 0, .u8 0, .u8 0, .u8 0, .u8 0, .u8 0, .u8 0, .u8 0, .u8 0, .u8 0, .u8 0, .u8 0, .u8 0, .u8 0, .u8 0, .u8 0, .u8 0, .u8 0, .u8 0, .u8 0, .u8 0, .u8 0, .u8 0, .u8 0, .u8 0, .u8 0, .u8 0, .u8 0, .u8 0, .u8 0, .u8 0, .u8 0, .u8 0, .u8 0, .u8 0, .u8 0, .u8 0, .u8 0, .u8 0, .u8 0, .u8 0, .u8 0, .u8 0, .u8 0, .u8 0, .u8 0, .u8 0, .u8 0, .u8 0, .u8 0, .u8 0, .u8 0, .u8 0, .u8 0, .u8 0, .u8 0, .u8 0, .u8 0, .u8 0, .u8 0, .u8 0, .u8 0, .u8 0, .u8 0, .u8 0, .u8 0, .u8 0, .u8 0, .u8 0, .u8 0, .u8 0, .u8 0, .u8 0, .u8 0, .u8 0, .u8 0, .u8 0, .u8 0, .u8 0, .u8 0, .u8 0, .u8 0, .u8 0, .u8 0, .u8 0, .u8 0, .u8 0, .u8 0, .u8 0, .u8 0, .u8 0, .u8 0, .u8 0, .u8 0, .u8 0, .u8 0, .u8 0, .u8 0, .u8 0, .u8 0, .u8 0, .u8 0, .u8 0, .u8 0, .u8 0, .u8 0, .u8 0, .u8 0, .u8 0, .u8 0, .u8 0, .u8 0, .u8 0, .u8 0, .u8 0, .u8 0, .u8 0, .u8 0, .u8 0, .u8 0, .u8 0, .u8 0, .u8 0, .u8 0, .u8 0, .u8 0, .u8 0, .u8 0, .u8 0, .u8 0, .u8 0, .u8 0, .u8 0, .u8 0, .u8 0, .u8 0, .u8 0, .u8 0, .u8 0, .u8 0, .u8 0, .u8 0, .u8 0, .u8 0, .u8 0, .u8 0, .u8 0, .u8 0, .u8 0, .u8 0, .u8 0, .u8 0, .u8 0, .u8 0, .u8 0, .u8 0, .u8 0, .u8 0, .u8 0, .u8 0, .u8 0, .u8 0, .u8 0, .u8 0, .u8 0, .u8 0, .u8 0, .u8 0, .u8 0, .u8 0, .u8 0, .u8 0, .u8 0, .u8 0, .u8 0, .u8 0, .u8 0, .u8 0, .u8 0, .u8 0, .u8 0, .u8 0, .u8 0, .u8 0, .u8 0, .u8 0, .u8 0, .u8 0, .u8 0, .u8 0, .u8 0, .u8 0, .u8 0, .u8 0, .u8 0, .u8 0, .u8 0, .u8 0, .u8 0, .u8 0, .u8 0, .u8 0, .u8 0, .u8 0, .u8 0, .u8 0, .u8 0, .u8 0, .u8 0, .u8 0, .u8 0, .u8 0, .u8 0, .u8 0, .u8 0, .u8 0, .u8 0, .u8 0, .u8 0, .u8 0, .u8 0, .u8 0, .u8 0, .u8 0, .u8 0, .u8 0, .u8 0, .u8 0, .u8 0, .u8 0, .u8 0, .u8 0, .u8 0, .u8 0, .u8 0, .u8 0, .u8 0, .u8 0, .u8 0, .u8 0, .u8 0, .u8 0, .u8 0, .u8 0, .u8 0, .u8 0, .u8 0, .u8 0, .u8 0, .u8 0, .u8 0, .u8 0, .u8 0, .u8 0, .u8 0, .u8 0, .u8 0, .u8 0, .u8 0, .u8 0, .u8 0, .u8 0, .u8 0, .u8 0, .u8 0, .u8 0, .u8 0, .u8 0, .u8 0, .u8 0, .u8 0, .u8 0, .u8 0, .u8 0, .u8 0, .u8 0, .u8 0, .u8 0, .u8 0, .u8 0, .u8 0, .u8 0, .u8 0, .u8 0, .u8 0, .u8 0, .u8 0, .u8 0, .u8 0, .u8 0, .u8 0, .u8 0, .u8 0, .u8 0, .u8 0, .u8 0, .u8 0, .u8 0, .u8 0, .u8 0, .u8 0, .u8 0, .u8 0, .u8 0, .u8 0, .u8 0, .u8 0, .u8 0, .u8 0, .u8 0, .u8 0, .u8 0, .u8 0, .u8 0, .u8 0, .u8 0, .u8 0, .u8 0, .u8 0, .u8 0, .u8 0, .u8 0, .u8 0, .u8 0, .u8 0, .u8 0, .u8 0, .u8 0, .u8 0, .u8 0, .u8 0, .u8 0, .u8 0, .u8 0, .u8 0, .u8 0, .u8 0, .u8 0, .u8 0, .u8 0, .u8 0, .u8 0, .u8 0, .u8 0, .u8 0, .u8 0, .u8 0, .u8 0, .u8 0, .u8 0, .u8 0, .u8 0, .u8 0, .u8 0, .u8 0, .u8 0, .u8 0, .u8 0, .u8 0, .u8 0, .u8 0, .u8 0, .u8 0, .u8 0, .u8 0, .u8 0, .u8 0, .u8 0, .u8 0, .u8 0, .u8 0, .u8 0, .u8 0, .u8 0, .u8 0, .u8 0, .u8 0, .u8 0, .u8 0, .u8 0, .u8 0, .u8 0, .u8 0, .u8 0, .u8 0, .u8 0, .u8 0, .u8 0, .u8 0, .u8 0, .u8 0, .u8 0, .u8 0, .u8 0, .u8 0, .u8 0, .u8 0, .u8 0, .u8 0, .u8 0, .u8 0, .u8 0, .u8 0, .u8 0, .u8 0, .u8 0, .u8 0, .u8 0, .u8 0, .u8 0, .u8 0, .u8 0, .u8 0, .u8 0, .u8 0, .u8 0, .u8 0, .u8 0, .u8 0, .u8 0, .u8 0, .u8 0, .u8 0, .u8 0, .u8 0, .u8 0, .u8 0, .u8 0, .u8 0, .u8 0, .u8 0, .u8 0, .u8 0, .u8 0, .u8 0, .u8 0, .u8 0, .u8 0, .u8 0, .u8 0, .u8 0, .u8 0, .u8 0, .u8 0, .u8 0, .u8 0, .u8 0, .u8 0, .u8 0, .u8 0, .u8 0, .u8 0, .u8 0, .u8 0, .u8 0, .u8 0, .u8 0, .u8 0, .u8 0, .u8 0, .u8 0, .u8 0, .u8 0, .u8 0, .u8 0, .u8 0, .u8 0, .u8 0, .u8 0, .u8 0, .u8 0, .u8 0, .u8 0, .u8 0, .u8 0, .u8 0, .u8 0, .u8 0, .u8 0, .u8 0, .u8 0, .u8 0, .u8 0, .u8 0, .u8 0, .u8 0, .u8 0, .u8 0, .u8 0, .u8 0, .u8 0, .u8 0, .u8 0, .u8 0, .u8 0, .u8 0, .u8 0, .u8 0, .u8 0, .u8 0, .u8 0, .u8 0, .u8 0, .u8 0, .u8 0, .nilS] := rfl
theorem zc44 : (Ti 44).zero.cells = ([0, 0, 0, 0] : List UInt8).map D.u8 := rfl
theorem zc46 : (Ti 46).zero.cells = [.nilP, .u8 0, .u8 0, .u8 0, .u8 0, .u8 0, .u8 0, .u8 0, .u8 0, .u8 0, .u8 0, .u8 0, .u8 0, .u8 0, .u8 0, .u8 0, .u8 0] := rfl
theorem zc47 : (Ti 47).zero.cells = [.nilP, .u8 0, .u8 0, .u8 0, .u8 0, .u8 0, .u8 0, .u8 0, .u8 0, .u8 0, .u8 0, .u8 0, .u8 0, .u8 0, .u8 0, .u8 0, .u8 0] := rfl
theorem zc48 : (Ti 48).zero.cells = ((List.replicate 32 0) : List UInt8).map D.u8 := rfl
theorem zc54 : (Ti 54).zero.cells = [.int .u64 0, .int .u64 0] := rfl
theorem zc55 : (Ti 55).zero.cells = [.int .u64 0, .int .u64 0] := rfl
theorem zc71 : (Ti 71).zero.cells = [.int .u64 0, .int .u64 0] := rfl
theorem zc75 : (Ti 75).zero.cells = [.u32 0, .u32 0, .u32 0, .u32 0, .u32 0, .u32 0, .u32 0, .u32 0] := rfl
theorem zc76 : (Ti 76).zero.cells = [.u32 0, .u32 0, .u32 0, .u32 0, .u32 0, .u32 0, .u32 0, .u32 0, .nilS, .int .i64 0] := rfl
theorem zc77 : (Ti 77).zero.cells = [.u32 0, .u32 0, .u32 0, .u32 0, .u32 0, .u32 0, .u32 0, .u32 0, .nilS, .int .i64 0] := rfl
theorem zc82 : (Ti 82).zero.cells = [.nilP, .nilP, .nilP, .str []] := rfl
theorem zc83 : (Ti 83).zero.cells = [.nilP, .nilP, .nilP, .str []] := rfl
theorem zc84 : (Ti 84).zero.cells = ([] : List UInt8).map D.u8 := rfl
theorem zc94 : (Ti 94).zero.cells = [.int .u64 0, .int .u64 0, .u32 0, .u8 0, .u8 0, .u8 0, .u8 0, .nilF, .nilP, .int .i32 0, .int .i32 0] := rfl
theorem zc95 : (Ti 95).zero.cells = [.int .u64 0, .int .u64 0, .u32 0, .u8 0, .u8 0, .u8 0, .u8 0, .nilF, .nilP, .int .i32 0, .int .i32 0] := rfl
theorem by0 : (Ti 0).by_ = 0 := rfl
theorem by1 : (Ti 1).by_ = 8 := rfl
theorem by2 : (Ti 2).by_ = 8 := rfl
theorem by3 : (Ti 3).by_ = 8 := rfl
theorem by4 : (Ti 4).by_ = 1 := rfl
theorem by5 : (Ti 5).by_ = 1 := rfl
theorem by6 : (Ti 6).by_ = 1 := rfl
theorem by7 : (Ti 7).by_ = 24 := rfl
theorem by8 : (Ti 8).by_ = 24 := rfl
theorem by9 : (Ti 9).by_ = 16 := rfl
theorem by10 : (Ti 10).by_ = 16 := rfl
theorem by11 : (Ti 11).by_ = 16 := rfl
theorem by12 : (Ti 12).by_ = 8 := rfl
theorem by13 : (Ti 13).by_ = 24 := rfl
theorem by14 : (Ti 14).by_ = 24 := rfl
theorem by15 : (Ti 15).by_ = 8 := rfl
theorem by16 : (Ti 16).by_ = 8 := rfl
theorem by17 : (Ti 17).by_ = 8 := rfl
theorem by18 : (Ti 18).by_ = 8 := rfl
theorem by19 : (Ti 19).by_ = 8 := rfl
theorem by20 : (Ti 20).by_ = 16 := rfl
theorem by21 : (Ti 21).by_ = 4 := rfl
theorem by22 : (Ti 22).by_ = 16 := rfl
theorem by23 : (Ti 23).by_ = 12 := rfl
theorem by24 : (Ti 24).by_ = 24 := rfl
theorem by25 : (Ti 25).by_ = 8 := rfl
theorem by26 : (Ti 26).by_ = 8 := rfl
theorem by27 : (Ti 27).by_ = 0 := rfl
theorem by28 : (Ti 28).by_ = 8 := rfl
theorem by29 : (Ti 29).by_ = 8 := rfl
theorem by30 : (Ti 30).by_ = 0 := rfl
theorem by31 : (Ti 31).by_ = 8 := rfl
theorem by32 : (Ti 32).by_ = 8 := rfl
theorem by33 : (Ti 33).by_ = 8 := rfl
theorem by34 : (Ti 34).by_ = 8 := rfl
theorem by35 : (Ti 35).by_ = 8 := rfl
theorem by36 : (Ti 36).by_ = 8 := rfl
theorem by37 : (Ti 37).by_ = 8 := rfl
theorem by38 : (Ti 38).by_ = 256 := rfl
theorem by39 : (Ti 39).by_ = 512 := rfl
theorem by40 : (Ti 40).by_ = 512 := rfl
theorem by41 : (Ti 41).by_ = 24 := rfl
theorem by42 : (Ti 42).by_ = 536 := rfl
theorem by43 : (Ti 43).by_ = 536 := rfl
theorem by44 : (Ti 44).by_ = 4 := rfl
theorem by45 : (Ti 45).by_ = 8 := rfl
theorem by46 : (Ti 46).by_ = 24 := rfl
theorem by47 : (Ti 47).by_ = 24 := rfl
theorem by48 : (Ti 48).by_ = 32 := rfl
theorem by49 : (Ti 49).by_ = 8 := rfl
theorem by50 : (Ti 50).by_ = 8 := rfl
theorem by51 : (Ti 51).by_ = 8 := rfl
theorem by52 : (Ti 52).by_ = 24 := rfl
theorem by53 : (Ti 53).by_ = 8 := rfl
theorem by54 : (Ti 54).by_ = 16 := rfl
theorem by55 : (Ti 55).by_ = 16 := rfl
theorem by56 : (Ti 56).by_ = 8 := rfl
theorem by57 : (Ti 57).by_ = 8 := rfl
theorem by58 : (Ti 58).by_ = 8 := rfl
theorem by59 : (Ti 59).by_ = 8 := rfl
theorem by60 : (Ti 60).by_ = 8 := rfl
theorem by61 : (Ti 61).by_ = 8 := rfl
theorem by62 : (Ti 62).by_ = 8 := rfl
theorem by63 : (Ti 63).by_ = 8 := rfl
theorem by64 : (Ti 64).by_ = 8 := rfl
theorem by65 : (Ti 65).by_ = 8 := rfl
theorem by66 : (Ti 66).by_ = 8 := rfl
theorem by67 : (Ti 67).by_ = 8 := rfl
theorem by68 : (Ti 68).by_ = 8 := rfl
theorem by69 : (Ti 69).by_ = 8 := rfl
theorem by70 : (Ti 70).by_ = 8 := rfl
theorem by71 : (Ti 71).by_ = 16 := rfl
theorem by72 : (Ti 72).by_ = 8 := rfl
theorem by73 : (Ti 73).by_ = 4 := rfl
theorem by74 : (Ti 74).by_ = 8 := rfl
theorem by75 : (Ti 75).by_ = 32 := rfl
theorem by76 : (Ti 76).by_ = 64 := rfl
theorem by77 : (Ti 77).by_ = 64 := rfl
theorem by78 : (Ti 78).by_ = 8 := rfl
theorem by79 : (Ti 79).by_ = 256 := rfl
theorem by80 : (Ti 80).by_ = 8 := rfl
theorem by81 : (Ti 81).by_ = 8 := rfl
theorem by82 : (Ti 82).by_ = 40 := rfl
theorem by83 : (Ti 83).by_ = 40 := rfl
theorem by84 : (Ti 84).by_ = 0 := rfl
theorem by85 : (Ti 85).by_ = 0 := rfl
theorem by86 : (Ti 86).by_ = 0 := rfl
theorem by87 : (Ti 87).by_ = 8 := rfl
theorem by88 : (Ti 88).by_ = 1 := rfl
theorem by89 : (Ti 89).by_ = 1 := rfl
theorem by90 : (Ti 90).by_ = 8 := rfl
theorem by91 : (Ti 91).by_ = 8 := rfl
theorem by92 : (Ti 92).by_ = 4 := rfl
theorem by93 : (Ti 93).by_ = 4 := rfl
theorem by94 : (Ti 94).by_ = 48 := rfl
theorem by95 : (Ti 95).by_ = 48 := rfl
theorem ib0 : (Ti 0).ty.isB = false := rfl
theorem ib1 : (Ti 1).ty.isB = false := rfl
theorem ib2 : (Ti 2).ty.isB = false := rfl
theorem ib3 : (Ti 3).ty.isB = false := rfl
theorem ib4 : (Ti 4).ty.isB = false := rfl
theorem ib5 : (Ti 5).ty.isB = true := rfl
theorem ib6 : (Ti 6).ty.isB = true := rfl
theorem ib7 : (Ti 7).ty.isB = false := rfl
theorem ib8 : (Ti 8).ty.isB = false := rfl
theorem ib9 : (Ti 9).ty.isB = false := rfl
theorem ib10 : (Ti 10).ty.isB = false := rfl
theorem ib11 : (Ti 11).ty.isB = false := rfl
theorem ib12 : (Ti 12).ty.isB = false := rfl
theorem ib13 : (Ti 13).ty.isB = false := rfl
theorem ib14 : (Ti 14).ty.isB = false := rfl
theorem ib15 : (Ti 15).ty.isB = false := rfl
theorem ib16 : (Ti 16).ty.isB = false := rfl
theorem ib17 : (Ti 17).ty.isB = false := rfl
theorem ib18 : (Ti 18).ty.isB = false := rfl
theorem ib19 : (Ti 19).ty.isB = false := rfl
theorem ib20 : (Ti 20).ty.isB = false := rfl
theorem ib21 : (Ti 21).ty.isB = false := rfl
theorem ib22 : (Ti 22).ty.isB = false := rfl
theorem ib23 : (Ti 23).ty.isB = false := rfl
theorem ib24 : (Ti 24).ty.isB = false := rfl
theorem ib25 : (Ti 25).ty.isB = false := rfl
theorem ib26 : (Ti 26).ty.isB = false := rfl
theorem ib27 : (Ti 27).ty.isB = false := rfl
theorem ib28 : (Ti 28).ty.isB = false := rfl
theorem ib29 : (Ti 29).ty.isB = false := rfl
theorem ib30 : (Ti 30).ty.isB = false := rfl
theorem ib31 : (Ti 31).ty.isB = false := rfl
theorem ib32 : (Ti 32).ty.isB = false := rfl
theorem ib33 : (Ti 33).ty.isB = false := rfl
theorem ib34 : (Ti 34).ty.isB = false := rfl
theorem ib35 : (Ti 35).ty.isB = false := rfl
theorem ib36 : (Ti 36).ty.isB = false := rfl
theorem ib37 : (Ti 37).ty.isB = false := rfl
theorem ib38 : (Ti 38).ty.isB = false := rfl
theorem ib39 : (Ti 39).ty.isB = false := rfl
theorem ib40 : (Ti 40).ty.isB = false := rfl
theorem ib41 : (Ti 41).ty.isB = false := rfl
theorem ib42 : (Ti 42).ty.isB = false := rfl
theorem ib43 : (Ti 43).ty.isB = false := rfl
theorem ib44 : (Ti 44).ty.isB = false := rfl
theorem ib45 : (Ti 45).ty.isB = false := rfl
theorem ib46 : (Ti 46).ty.isB = false := rfl
theorem ib47 : (Ti 47).ty.isB = false := rfl
theorem ib48 : (Ti 48).ty.isB = false := rfl
theorem ib49 : (Ti 49).ty.isB = false := rfl
theorem ib50 : (Ti 50).ty.isB = false := rfl
theorem ib51 : (Ti 51).ty.isB = false := rfl
theorem ib52 : (Ti 52).ty.isB = false := rfl
theorem ib53 : (Ti 53).ty.isB = false := rfl
theorem ib54 : (Ti 54).ty.isB = false := rfl
theorem ib55 : (Ti 55).ty.isB = false := rfl
theorem ib56 : (Ti 56).ty.isB = false := rfl
theorem ib57 : (Ti 57).ty.isB = false := rfl
theorem ib58 : (Ti 58).ty.isB = false := rfl
theorem ib59 : (Ti 59).ty.isB = false := rfl
theorem ib60 : (Ti 60).ty.isB = false := rfl
theorem ib61 : (Ti 61).ty.isB = false := rfl
theorem ib62 : (Ti 62).ty.isB = false := rfl
theorem ib63 : (Ti 63).ty.isB = false := rfl
theorem ib64 : (Ti 64).ty.isB = false := rfl
theorem ib65 : (Ti 65).ty.isB = false := rfl
theorem ib66 : (Ti 66).ty.isB = false := rfl
theorem ib67 : (Ti 67).ty.isB = false := rfl
theorem ib68 : (Ti 68).ty.isB = false := rfl
theorem ib69 : (Ti 69).ty.isB = false := rfl
theorem ib70 : (Ti 70).ty.isB = false := rfl
theorem ib71 : (Ti 71).ty.isB = false := rfl
theorem ib72 : (Ti 72).ty.isB = false := rfl
theorem ib73 : (Ti 73).ty.isB = false := rfl
theorem ib74 : (Ti 74).ty.isB = false := rfl
theorem ib75 : (Ti 75).ty.isB = false := rfl
theorem ib76 : (Ti 76).ty.isB = false := rfl
theorem ib77 : (Ti 77).ty.isB = false := rfl
theorem ib78 : (Ti 78).ty.isB = false := rfl
theorem ib79 : (Ti 79).ty.isB = false := rfl
theorem ib80 : (Ti 80).ty.isB = false := rfl
theorem ib81 : (Ti 81).ty.isB = false := rfl
theorem ib82 : (Ti 82).ty.isB = false := rfl
theorem ib83 : (Ti 83).ty.isB = false := rfl
theorem ib84 : (Ti 84).ty.isB = false := rfl
theorem ib85 : (Ti 85).ty.isB = false := rfl
theorem ib86 : (Ti 86).ty.isB = false := rfl
theorem ib87 : (Ti 87).ty.isB = false := rfl
theorem ib88 : (Ti 88).ty.isB = true := rfl
theorem ib89 : (Ti 89).ty.isB = true := rfl
theorem ib90 : (Ti 90).ty.isB = false := rfl
theorem ib91 : (Ti 91).ty.isB = false := rfl
theorem ib92 : (Ti 92).ty.isB = false := rfl
theorem ib93 : (Ti 93).ty.isB = false := rfl
theorem ib94 : (Ti 94).ty.isB = false := rfl
theorem ib95 : (Ti 95).ty.isB = false := rfl
theorem Zs : ((Ti 0).sz = 1) ∧ ((Ti 1).sz = 1) ∧ ((Ti 2).sz = 1) ∧ ((Ti 3).sz = 1) ∧ ((Ti 4).sz = 1) ∧ ((Ti 5).sz = 1) ∧ ((Ti 6).sz = 1) ∧ ((Ti 7).sz = 4) ∧ ((Ti 8).sz = 4) ∧ ((Ti 9).sz = 1) ∧ ((Ti 10).sz = 1) ∧ ((Ti 11).sz = 1) ∧ ((Ti 12).sz = 1) ∧ ((Ti 13).sz = 2) ∧ ((Ti 14).sz = 2) ∧ ((Ti 15).sz = 1) ∧ ((Ti 16).sz = 1) ∧ ((Ti 17).sz = 1) ∧ ((Ti 18).sz = 1) ∧ ((Ti 19).sz = 1) ∧ ((Ti 20).sz = 1) ∧ ((Ti 21).sz = 1) ∧ ((Ti 22).sz = 16) ∧ ((Ti 23).sz = 12) ∧ ((Ti 24).sz = 1) ∧ ((Ti 25).sz = 1) ∧ ((Ti 26).sz = 1) ∧ ((Ti 27).sz = 1) ∧ ((Ti 28).sz = 1) ∧ ((Ti 29).sz = 1) ∧ ((Ti 30).sz = 1) ∧ ((Ti 31).sz = 1) ∧ ((Ti 32).sz = 1) ∧ ((Ti 33).sz = 1) ∧ ((Ti 34).sz = 1) ∧ ((Ti 35).sz = 1) ∧ ((Ti 36).sz = 1) ∧ ((Ti 37).sz = 1) ∧ ((Ti 38).sz = 256) ∧ ((Ti 39).sz = 512) ∧ ((Ti 40).sz = 512) ∧ ((Ti 41).sz = 1) ∧ ((Ti 42).sz = 513) ∧ ((Ti 43).sz = 513) ∧ ((Ti 44).sz = 4) ∧ ((Ti 45).sz = 1) ∧ ((Ti 46).sz = 17) ∧ ((Ti 47).sz = 17) ∧ ((Ti 48).sz = 32) ∧ ((Ti 49).sz = 1) ∧ ((Ti 50).sz = 1) ∧ ((Ti 51).sz = 1) ∧ ((Ti 52).sz = 1) ∧ ((Ti 53).sz = 1) ∧ ((Ti 54).sz = 2) ∧ ((Ti 55).sz = 2) ∧ ((Ti 56).sz = 1) ∧ ((Ti 57).sz = 1) ∧ ((Ti 58).sz = 1) ∧ ((Ti 59).sz = 1) ∧ ((Ti 60).sz = 1) ∧ ((Ti 61).sz = 1) ∧ ((Ti 62).sz = 1) ∧ ((Ti 63).sz = 1) ∧ ((Ti 64).sz = 1) ∧ ((Ti 65).sz = 1) ∧ ((Ti 66).sz = 1) ∧ ((Ti 67).sz = 1) ∧ ((Ti 68).sz = 1) ∧ ((Ti 69).sz = 1) ∧ ((Ti 70).sz = 1) ∧ ((Ti 71).sz = 2) ∧ ((Ti 72).sz = 1) ∧ ((Ti 73).sz = 1) ∧ ((Ti 74).sz = 1) ∧ ((Ti 75).sz = 8) ∧ ((Ti 76).sz = 10) ∧ ((Ti 77).sz = 10) ∧ ((Ti 78).sz = 1) ∧ ((Ti 79).sz = 64) ∧ ((Ti 80).sz = 1) ∧ ((Ti 81).sz = 1) ∧ ((Ti 82).sz = 4) ∧ ((Ti 83).sz = 4) ∧ ((Ti 84).sz = 0) ∧ ((Ti 85).sz = 0) ∧ ((Ti 86).sz = 0) ∧ ((Ti 87).sz = 1) ∧ ((Ti 88).sz = 1) ∧ ((Ti 89).sz = 1) ∧ ((Ti 90).sz = 1) ∧ ((Ti 91).sz = 1) ∧ ((Ti 92).sz = 1) ∧ ((Ti 93).sz = 1) ∧ ((Ti 94).sz = 11) ∧ ((Ti 95).sz = 11) ∧ ((Ti 7).zero.cells = [.int .i64 0, .int .i64 0, .bool false, .u8 0]) ∧ ((Ti 8).zero.cells = [.int .i64 0, .int .i64 0, .bool false, .u8 0]) ∧ ((Ti 13).zero.cells = [.str [], .int .u64 0]) ∧ ((Ti 14).zero.cells = [.str [], .int .u64 0]) ∧ ((Ti 18).zero.cells = [.nilP]) ∧ ((Ti 19).zero.cells = [.nilP]) ∧ ((Ti 22).zero.cells = ((List.replicate 16 0) : List UInt8).map D.u8) ∧ ((Ti 23).zero.cells = ((List.replicate 12 0) : List UInt8).map D.u8) ∧ ((Ti 38).zero.cells = ((List.replicate 256 0) : List UInt8).map D.u8) ∧ ((Ti 42).zero.cells = [.u8 0, .u8 0, .u8 0, .u8 0, .u8 0, .u8 0, .u8 0, .u8 0, .u8 0, .u8 0, .u8 0, .u8 0, .u8 0, .u8 0, .u8 0, .u8 0, .u8 0, .u8 0, .u8 0, .u8 0, .u8 0, .u8 0, .u8 0, .u8 0, .u8 0, .u8 0, .u8 0, .u8 0, .u8 0, .u8 0, .u8 0, .u8 0, .u8 0, .u8 0, .u8 0, .u8 0, .u8 0, .u8 0, .u8 0, .u8 0, .u8 0, .u8 0, .u8 0, .u8 0, .u8 0, .u8 0, .u8 0, .u8 0, .u8 0, .u8 0, .u8 0, .u8 0, .u8 0, .u8 0, .u8 0, .u8 0, .u8 0, .u8 0, .u8 0, .u8 0, .u8 0, .u8 0, .u8 0, .u8 0, .u8 0, .u8 0, .u8 0, .u8 0, .u8 0, .u8 0, .u8 0, .u8 0, .u8 0, .u8 0, .u8 0, .u8 0, .u8 0, .u8 0, .u8 0, .u8 0, .u8 0, .u8 0, .u8 0, .u8 0, .u8 0, .u8 0, .u8 0, .u8 0, .u8 0, .u8 0, .u8 0, .u8 0, .u8 0, .u8 0, .u8 0, .u8 0, .u8 0, .u8 0, .u8 0, .u8 0, .u8 0, .u8 0, .u8 0, .u8 0, .u8 0, .u8 0, .u8 0, .u8 0, .u8 0, .u8 0, .u8 0, .u8 0, .u8 0, .u8 0, .u8 0, .u8 0, .u8 0, .u8 0, .u8 0, .u8 0, .u8 0, .u8 0, .u8 0, .u8 0, .u8 0, .u8 0, .u8 0, .u8 0, .u8 0, .u8 0, .u8 0, .u8 0, .u8 0, .u8 0, .u8 0, .u8 0, .u8 0, .u8 0, .u8 0, .u8 0, .u8 0, .u8 0, .u8 0, .u8 0, .u8 0, .u8 0, .u8 0, .u8 0, .u8 0, .u8 0, .u8 0, .u8 0, .u8 0, .u8 0, .u8 0, .u8 0, .u8 0, .u8 0, .u8 0, .u8 0, .u8 0, .u8 0, .u8 0, .u8 0, .u8 0, .u8 0, .u8 0, .u8 0, .u8 0, .u8 0, .u8 0, .u8 0, .u8 0, .u8 0, .u8 0, .u8 0, .u8 0, .u8 0, .u8 0, .u8 0, .u8 0, .u8 0, .u8 0, .u8 0, .u8 0, .u8 0, .u8 0, .u8 0, .u8 0, .u8 0, .u8 0, .u8 0, .u8 0, .u8 0, .u8 0, .u8 0, .u8 0, .u8 0, .u8 0, .u8 0, .u8 0, .u8 0, .u8 0, .u8 0, .u8 0, .u8 0, .u8 0, .u8 0, .u8 0, .u8 0, .u8 0, .u8 0, .u8 0, .u8 0, .u8 0, .u8 0, .u8 0, .u8 0, .u8 0, .u8 0, .u8 0, .u8 0, .u8 0, .u8 0, .u8 0, .u8 0, .u8 0, .u8 0, .u8 0, .u8 0, .u8 0, .u8 0, .u8 0, .u8 0, .u8 0, .u8 0, .u8 0, .u8 0, .u8 0, .u8 0, .u8 0, .u8 0, .u8 0, .u8 0, .u8 0, .u8 0, .u8 0, .u8 0, .u8 0, .u8 0, .u8 0, .u8 0, .u8 0, .u8 0, .u8 0, .u8 0, .u8 0, .u8 0, .u8 0, .u8 0, .u8 0, .u8 0, .u8 0, .u8 0, .u8 0, .u8 0, .u8 0, .u8 0, .u8 0, .u8 0, .u8 0, .u8 0, .u8 0, .u8 0, .u8 0, .u8 0, .u8 0, .u8 0, .u8 0, .u8 0, .u8 0, .u8 0, .u8 0, .u8 0, .u8 0, .u8 0, .u8 0, .u8 0, .u8 0, .u8 0, .u8 0, .u8 0, .u8 0, .u8 0, .u8 0, .u8 0, .u8 0, .u8 0, .u8 0, .u8 0, .u8 0, .u8 0, .u8 0, .u8 0, .u8 0, .u8 0, .u8 0, .u8 0, .u8 0, .u8 0, .u8 0, .u8 0, .u8 0, .u8 0, .u8 0, .u8 0, .u8 0, .u8 0, .u8 0, .u8 0, .u8 0, .u8 0, .u8 0, .u8 0, .u8 0, .u8 0, .u8 0, .u8 0, .u8 0, .u8 0, .u8 0, .u8 0, .u8 0, .u8 0, .u8 0, .u8 0, .u8 0, .u8 0, .u8 0, .u8 0, .u8 0, .u8 0, .u8 0, .u8 0, .u8 0, .u8 0, .u8 0, .u8 0, .u8 0, .u8 0, .u8 0, .u8 0, .u8 0, .u8 0, .u8 0, .u8 0, .u8 0, .u8 0, .u8 0, .u8 0, .u8 0, .u8 0, .u8 0, .u8 0, .u8 0, .u8 0, .u8 0, .u8 0, .u8 0, .u8 0, .u8 0, .u8 0, .u8 0, .u8 0, .u8 0, .u8 0, .u8 0, .u8 0, .u8 0, .u8 0, .u8 0, .u8 0, .u8 0, .u8 0, .u8 0, .u8 0, .u8 0, .u8 0, .u8 0, .u8 0, .u8 0, .u8 0, .u8 0, .u8 0, .u8 0, .u8 0, .u8 0, .u8 0, .u8 0, .u8 0, .u8 0, .u8 0, .u8 0, .u8 0, .u8 0, .u8 0, .u8 0, .u8 0, .u8 0, .u8 0, .u8 0, .u8 0, .u8 0, .u8 0, .u8 0, .u8 0, .u8 0, .u8 0, .u8 0, .u8 0, .u8 0, .u8 0, .u8 0, .u8 0, .u8 0, .u8 0, .u8 0, .u8 0, .u8 0, .u8 0, .u8 0, .u8 0, .u8 0, .u8 0, .u8 0, .u8 0, .u8 0, .u8 0, .u8 0, .u8 0, .u8 0, .u8 0, .u8 0, .u8 0, .u8 0, .u8 0, .u8 0, .u8 0, .u8 0, .u8 0, .u8 0, .u8 0, .u8 0, .u8 0, .u8 0, .u8 0, .u8 0, .u8 0, .u8 0, .u8 0, .u8 0, .u8 0, .u8 0, .u8 0, .u8 0, .u8 0, .u8 0, .u8 0, .u8 0, .u8 0, .u8 0, .u8 0, .u8 0, .u8 0, .u8 0, .u8 0, .u8 0, .u8 0, .u8 0, .u8 0, .u8 0, .u8 0, .u8 0, .u8 0, .u8 0, .u8 0, .u8 0, .u8 0, .u8 0, .u8 0, .u8 0, .u8 0, .u8 0, .u8 0, .u8 0, .u8 0, .u8 0, .u8 0, .u8 0, .u8 0, .u8 0, .u8 0, .u8 0, .u8 0, .u8 0, .u8 0, .u8 0, .u8 0, .u8 0, .u8 0, .u8 0, .u8 0, .nilS]) ∧ ((Ti 43).zero.cells = [.u8 0, .u8 0, .u8 0, .u8 0, .u8 0, .u8 0, .u8 0, .u8 0, .u8 0, .u8 0, .u8 0, .u8 0, .u8 0, .u8 0, .u8 0, .u8 0, .u8 0, .u8 0, .u8 0, .u8 0, .u8 0, .u8 0, .u8 0, .u8 0, .u8 0, .u8 0, .u8 0, .u8 0, .u8 0, .u8 0, .u8 0, .u8 0, .u8 0, .u8 0, .u8 0, .u8 0, .u8 0, .u8 0, .u8 0, .u8 0, .u8 0, .u8 0, .u8 0, .u8 0, .u8 0, .u8 0, .u8 0, .u8 0, .u8 0, .u8 0, .u8 0, .u8 0, .u8 0, .u8 0, .u8 0, .u8 0, .u8 0, .u8 0, .u8 0, .u8 0, .u8 0, .u8 0, .u8 0, .u8 0, .u8 0, .u8 0, .u8 0, .u8 0, .u8 0, .u8 0, .u8 0, .u8 0, .u8 0, .u8 0, .u8 0, .u8 0, .u8 0, .u8 0, .u8 0, .u8 0, .u8 0, .u8 0, .u8 0, .u8 0, .u8 0, .u8 0, .u8 0, .u8 0, .u8 0, .u8 0, .u8 0, .u8 0, .u8 0, .u8 0, .u8 0, .u8 0, .u8 0, .u8 0, .u8 0, .u8 0, .u8 0, .u8 0, .u8 0, .u8 0, .u8 0, .u8 0, .u8 0, .u8 0, .u8 0, .u8 0, .u8 0, .u8 0, .u8 0, .u8 0, .u8 0, .u8 0, .u8 0, .u8 0, .u8 0, .u8 0, .u8 0, .u8 0, .u8 0, .u8 0, .u8 0, .u8 0, .u8 0, .u8 0, .u8 0, .u8 0, .u8 0, .u8 0, .u8 0, .u8 0, .u8 0, .u8 0, .u8 0, .u8 0, .u8 0, .u8 0, .u8 0, .u8 0, .u8 0, .u8 0, .u8 0, .u8 0, .u8 0, .u8 0, .u8 0, .u8 0, .u8 0, .u8 0, .u8 0, .u8 0, .u8 0, .u8 0, .u8 0, .u8 0, .u8 0, .u8 0, .u8 0, .u8 0, .u8 0, .u8 0, .u8 0, .u8 0, .u8 0, .u8 0, .u8 0, .u8 0, .u8 0, .u8 0, .u8 0, .u8 0, .u8 0, .u8 0, .u8 0, .u8 0, .u8 0, .u8 0, .u8 0, .u8 0, .u8 0, .u8 0, .u8 0, .u8 0, .u8 0, .u8 0, .u8 0, .u8 0, .u8 0, .u8 0, .u8 0, .u8 0, .u8 0, .u8 0, .u8 0, .u8 0, .u8 0, .u8 0, .u8 0, .u8 0, .u8 0, .u8 0, .u8 0, .u8 0, .u8 0, .u8 0, .u8 0, .u8 0, .u8 0, .u8 0, .u8 0, .u8 0, .u8 0, .u8 0, .u8 0, .u8 0, .u8 0, .u8 0, .u8 0, .u8 0, .u8 0, .u8 0, .u8 0, .u8 0, .u8 0, .u8 0, .u8 0, .u8 0, .u8 0, .u8 0, .u8 0, .u8 0, .u8 0, .u8 0, .u8 0, .u8 0, .u8 0, .u8 0, .u8 0, .u8 0, .u8 0, .u8 0, .u8 0, .u8 0, .u8 0, .u8 0, .u8 0, .u8 0, .u8 0, .u8 0, .u8 0, .u8 0, .u8 0, .u8 0, .u8 0, .u8 0, .u8 0, .u8 0, .u8 0, .u8 0, .u8 0, .u8 0, .u8 0, .u8 0, .u8 0, .u8 0, .u8 0, .u8 0, .u8 0, .u8 0, .u8 0, .u8 0, .u8 0, .u8 0, .u8 0, .u8 0, .u8 0, .u8 0, .u8 0, .u8 0, .u8 0, .u8 0, .u8 0, .u8 0, .u8 0, .u8 0, .u8 0, .u8 0, .u8 0, .u8 0, .u8 0, .u8 0, .u8 0, .u8 0, .u8 0, .u8 0, .u8 0, .u8 0, .u8 0, .u8 0, .u8 0, .u8 0, .u8 0, .u8 0, .u8 0, .u8 0, .u8 0, .u8 0, .u8 0, .u8 0, .u8 0, .u8 0, .u8 0, .u8 0, .u8 0, .u8 0, .u8 0, .u8 0, .u8 0, .u8 0, .u8 0, .u8 0, .u8 0, .u8 0, .u8 0, .u8 0, .u8 0, .u8 0, .u8 0, .u8 0, .u8 0, .u8 0, .u8 0, .u8 0, .u8 0, .u8 0, .u8 0, .u8 0, .u8 0, .u8 0, .u8 0, .u8 0, .u8 0, .u8 0, .u8 0, .u8 0, .u8 0, .u8 0, .u8 0, .u8 0, .u8 0, .u8 0, .u8 0, .u8 0, .u8 0, .u8 0, .u8 0, .u8 0, .u8 0, .u8 0, .u8 0, .u8 0, .u8 0, .u8 0, .u8 0, .u8 0, .u8 0, .u8 0, .u8 0, .u8 0, .u8 0, .u8 0, .u8 0, .u8 0, .u8 0, .u8 0, .u8 0, .u8 0, .u8 0, .u8 0, .u8 0, .u8 0, .u8 0, .u8 0, .u8 0, .u8 0, .u8 0, .u8 0, .u8 0, .u8 0, .u8 0, .u8 0, .u8 0, .u8 0, .u8 0, .u8 0, .u8 0, .u8 0, .u8 0, .u8 0, .u8 0, .u8 0, .u8 0, .u8 0, .u8 0, .u8 0, .u8 0, .u8 0, .u8 0, .u8 0, .u8 0, .u8 0, .u8 0, .u8 0, .u8 0, .u8 0, .u8 0, .u8 0, .u8 0, .u8 0, .u8 0, .u8 0, .u8 0, .u8 0, .u8 0, .u8 0, .u8 0, .u8 0, .u8 0, .u8 0, .u8 0, .u8 0, .u8 0, .u8 0, .u8 0, .u8 0, .u8 0, .u8 0, .u8 0, .u8 0, .u8 0, .u8 0, .u8 0, .u8 0, .u8 0, .u8 0, .u8 0, .u8 0, .u8 0, .u8 0, .u8 0, .u8 0, .u8 0, .u8 0, .u8 0, .u8 0, .u8 0, .u8 0, .u8 0, .u8 0, .u8 0, .u8 0, .u8 0, .u8 0, .u8 0, .u8 0, .u8 0, .u8 0, .u8 0, .u8 0, .u8 0, .u8 0, .u8 0, .u8 0, .u8 0, .u8 0, .u8 0, .u8 0, .u8 0, .u8 0, .u8 0, .u8 0, .u8 0, .u8 0, .u8 0, .u8 0, .u8 0, .u8 0, .u8 0, .u8 0, .u8 0, .u8 0, .u8 0, .u8 0, .u8 0, .u8 0, .u8 0, .u8 0, .u8 0, .u8 0, .u8 0, .u8 0, .u8 0, .u8 0, .u8 0, .u8 0, .u8 0, .u8 0, .u8 0, .u8 0, .nilS]) ∧ ((Ti 44).zero.cells = ([0, 0, 0, 0] : List UInt8).map D.u8) ∧ ((Ti 46).zero.cells = [.nilP, .u8 0, .u8 0, .u8 0, .u8 0, .u8 0, .u8 0, .u8 0, .u8 0, .u8 0, .u8 0, .u8 0, .u8 0, .u8 0, .u8 0, .u8 0, .u8 0]) ∧ ((Ti 47).zero.cells = [.nilP, .u8 0, .u8 0, .u8 0, .u8 0, .u8 0, .u8 0, .u8 0, .u8 0, .u8 0, .u8 0, .u8 0, .u8 0, .u8 0, .u8 0, .u8 0, .u8 0]) ∧ ((Ti 48).zero.cells = ((List.replicate 32 0) : List UInt8).map D.u8) ∧ ((Ti 54).zero.cells = [.int .u64 0, .int .u64 0]) ∧ ((Ti 55).zero.cells = [.int .u64 0, .int .u64 0]) ∧ ((Ti 71).zero.cells = [.int .u64 0, .int .u64 0]) ∧ ((Ti 75).zero.cells = [.u32 0, .u32 0, .u32 0, .u32 0, .u32 0, .u32 0, .u32 0, .u32 0]) ∧ ((Ti 76).zero.cells = [.u32 0, .u32 0, .u32 0, .u32 0, .u32 0, .u32 0, .u32 0, .u32 0, .nilS, .int .i64 0]) ∧ ((Ti 77).zero.cells = [.u32 0, .u32 0, .u32 0, .u32 0, .u32 0, .u32 0, .u32 0, .u32 0, .nilS, .int .i64 0]) ∧ ((Ti 82).zero.cells = [.nilP, .nilP, .nilP, .str []]) ∧ ((Ti 83).zero.cells = [.nilP, .nilP, .nilP, .str []]) ∧ ((Ti 84).zero.cells = ([] : List UInt8).map D.u8) ∧ ((Ti 94).zero.cells = [.int .u64 0, .int .u64 0, .u32 0, .u8 0, .u8 0, .u8 0, .u8 0, .nilF, .nilP, .int .i32 0, .int .i32 0]) ∧ ((Ti 95).zero.cells = [.int .u64 0, .int .u64 0, .u32 0, .u8 0, .u8 0, .u8 0, .u8 0, .nilF, .nilP, .int .i32 0, .int .i32 0]) ∧ ((Ti 0).by_ = 0) ∧ ((Ti 1).by_ = 8) ∧ ((Ti 2).by_ = 8) ∧ ((Ti 3).by_ = 8) ∧ ((Ti 4).by_ = 1) ∧ ((Ti 5).by_ = 1) ∧ ((Ti 6).by_ = 1) ∧ ((Ti 7).by_ = 24) ∧ ((Ti 8).by_ = 24) ∧ ((Ti 9).by_ = 16) ∧ ((Ti 10).by_ = 16) ∧ ((Ti 11).by_ = 16) ∧ ((Ti 12).by_ = 8) ∧ ((Ti 13).by_ = 24) ∧ ((Ti 14).by_ = 24) ∧ ((Ti 15).by_ = 8) ∧ ((Ti 16).by_ = 8) ∧ ((Ti 17).by_ = 8) ∧ ((Ti 18).by_ = 8) ∧ ((Ti 19).by_ = 8) ∧ ((Ti 20).by_ = 16) ∧ ((Ti 21).by_ = 4) ∧ ((Ti 22).by_ = 16) ∧ ((Ti 23).by_ = 12) ∧ ((Ti 24).by_ = 24) ∧ ((Ti 25).by_ = 8) ∧ ((Ti 26).by_ = 8) ∧ ((Ti 27).by_ = 0) ∧ ((Ti 28).by_ = 8) ∧ ((Ti 29).by_ = 8) ∧ ((Ti 30).by_ = 0) ∧ ((Ti 31).by_ = 8) ∧ ((Ti 32).by_ = 8) ∧ ((Ti 33).by_ = 8) ∧ ((Ti 34).by_ = 8) ∧ ((Ti 35).by_ = 8) ∧ ((Ti 36).by_ = 8) ∧ ((Ti 37).by_ = 8) ∧ ((Ti 38).by_ = 256) ∧ ((Ti 39).by_ = 512) ∧ ((Ti 40).by_ = 512) ∧ ((Ti 41).by_ = 24) ∧ ((Ti 42).by_ = 536) ∧ ((Ti 43).by_ = 536) ∧ ((Ti 44).by_ = 4) ∧ ((Ti 45).by_ = 8) ∧ ((Ti 46).by_ = 24) ∧ ((Ti 47).by_ = 24) ∧ ((Ti 48).by_ = 32) ∧ ((Ti 49).by_ = 8) ∧ ((Ti 50).by_ = 8) ∧ ((Ti 51).by_ = 8) ∧ ((Ti 52).by_ = 24) ∧ ((Ti 53).by_ = 8) ∧ ((Ti 54).by_ = 16) ∧ ((Ti 55).by_ = 16) ∧ ((Ti 56).by_ = 8) ∧ ((Ti 57).by_ = 8) ∧ ((Ti 58).by_ = 8) ∧ ((Ti 59).by_ = 8) ∧ ((Ti 60).by_ = 8) ∧ ((Ti 61).by_ = 8) ∧ ((Ti 62).by_ = 8) ∧ ((Ti 63).by_ = 8) ∧ ((Ti 64).by_ = 8) ∧ ((Ti 65).by_ = 8) ∧ ((Ti 66).by_ = 8) ∧ ((Ti 67).by_ = 8) ∧ ((Ti 68).by_ = 8) ∧ ((Ti 69).by_ = 8) ∧ ((Ti 70).by_ = 8) ∧ ((Ti 71).by_ = 16) ∧ ((Ti 72).by_ = 8) ∧ ((Ti 73).by_ = 4) ∧ ((Ti 74).by_ = 8) ∧ ((Ti 75).by_ = 32) ∧ ((Ti 76).by_ = 64) ∧ ((Ti 77).by_ = 64) ∧ ((Ti 78).by_ = 8) ∧ ((Ti 79).by_ = 256) ∧ ((Ti 80).by_ = 8) ∧ ((Ti 81).by_ = 8) ∧ ((Ti 82).by_ = 40) ∧ ((Ti 83).by_ = 40) ∧ ((Ti 84).by_ = 0) ∧ ((Ti 85).by_ = 0) ∧ ((Ti 86).by_ = 0) ∧ ((Ti 87).by_ = 8) ∧ ((Ti 88).by_ = 1) ∧ ((Ti 89).by_ = 1) ∧ ((Ti 90).by_ = 8) ∧ ((Ti 91).by_ = 8) ∧ ((Ti 92).by_ = 4) ∧ ((Ti 93).by_ = 4) ∧ ((Ti 94).by_ = 48) ∧ ((Ti 95).by_ = 48) ∧ ((Ti 0).ty.isB = false) ∧ ((Ti 1).ty.isB = false) ∧ ((Ti 2).ty.isB = false) ∧ ((Ti 3).ty.isB = false) ∧ ((Ti 4).ty.isB = false) ∧ ((Ti 5).ty.isB = true) ∧ ((Ti 6).ty.isB = true) ∧ ((Ti 7).ty.isB = false) ∧ ((Ti 8).ty.isB = false) ∧ ((Ti 9).ty.isB = false) ∧ ((Ti 10).ty.isB = false) ∧ ((Ti 11).ty.isB = false) ∧ ((Ti 12).ty.isB = false) ∧ ((Ti 13).ty.isB = false) ∧ ((Ti 14).ty.isB = false) ∧ ((Ti 15).ty.isB = false) ∧ ((Ti 16).ty.isB = false) ∧ ((Ti 17).ty.isB = false) ∧ ((Ti 18).ty.isB = false) ∧ ((Ti 19).ty.isB = false) ∧ ((Ti 20).ty.isB = false) ∧ ((Ti 21).ty.isB = false) ∧ ((Ti 22).ty.isB = false) ∧ ((Ti 23).ty.isB = false) ∧ ((Ti 24).ty.isB = false) ∧ ((Ti 25).ty.isB = false) ∧ ((Ti 26).ty.isB = false) ∧ ((Ti 27).ty.isB = false) ∧ ((Ti 28).ty.isB = false) ∧ ((Ti 29).ty.isB = false) ∧ ((Ti 30).ty.isB = false) ∧ ((Ti 31).ty.isB = false) ∧ ((Ti 32).ty.isB = false) ∧ ((Ti 33).ty.isB = false) ∧ ((Ti 34).ty.isB = false) ∧ ((Ti 35).ty.isB = false) ∧ ((Ti 36).ty.isB = false) ∧ ((Ti 37).ty.isB = false) ∧ ((Ti 38).ty.isB = false) ∧ ((Ti 39).ty.isB = false) ∧ ((Ti 40).ty.isB = false) ∧ ((Ti 41).ty.isB = false) ∧ ((Ti 42).ty.isB = false) ∧ ((Ti 43).ty.isB = false) ∧ ((Ti 44).ty.isB = false) ∧ ((Ti 45).ty.isB = false) ∧ ((Ti 46).ty.isB = false) ∧ ((Ti 47).ty.isB = false) ∧ ((Ti 48).ty.isB = false) ∧ ((Ti 49).ty.isB = false) ∧ ((Ti 50).ty.isB = false) ∧ ((Ti 51).ty.isB = false) ∧ ((Ti 52).ty.isB = false) ∧ ((Ti 53).ty.isB = false) ∧ ((Ti 54).ty.isB = false) ∧ ((Ti 55).ty.isB = false) ∧ ((Ti 56).ty.isB = false) ∧ ((Ti 57).ty.isB = false) ∧ ((Ti 58).ty.isB = false) ∧ ((Ti 59).ty.isB = false) ∧ ((Ti 60).ty.isB = false) ∧ ((Ti 61).ty.isB = false) ∧ ((Ti 62).ty.isB = false) ∧ ((Ti 63).ty.isB = false) ∧ ((Ti 64).ty.isB = false) ∧ ((Ti 65).ty.isB = false) ∧ ((Ti 66).ty.isB = false) ∧ ((Ti 67).ty.isB = false) ∧ ((Ti 68).ty.isB = false) ∧ ((Ti 69).ty.isB = false) ∧ ((Ti 70).ty.isB = false) ∧ ((Ti 71).ty.isB = false) ∧ ((Ti 72).ty.isB = false) ∧ ((Ti 73).ty.isB = false) ∧ ((Ti 74).ty.isB = false) ∧ ((Ti 75).ty.isB = false) ∧ ((Ti 76).ty.isB = false) ∧ ((Ti 77).ty.isB = false) ∧ ((Ti 78).ty.isB = false) ∧ ((Ti 79).ty.isB = false) ∧ ((Ti 80).ty.isB = false) ∧ ((Ti 81).ty.isB = false) ∧ ((Ti 82).ty.isB = false) ∧ ((Ti 83).ty.isB = false) ∧ ((Ti 84).ty.isB = false) ∧ ((Ti 85).ty.isB = false) ∧ ((Ti 86).ty.isB = false) ∧ ((Ti 87).ty.isB = false) ∧ ((Ti 88).ty.isB = true) ∧ ((Ti 89).ty.isB = true) ∧ ((Ti 90).ty.isB = false) ∧ ((Ti 91).ty.isB = false) ∧ ((Ti 92).ty.isB = false) ∧ ((Ti 93).ty.isB = false) ∧ ((Ti 94).ty.isB = false) ∧ ((Ti 95).ty.isB = false) := ⟨sz0, sz1, sz2, sz3, sz4, sz5, sz6, sz7, sz8, sz9, sz10, sz11, sz12, sz13, sz14, sz15, sz16, sz17, sz18, sz19, sz20, sz21, sz22, sz23, sz24, sz25, sz26, sz27, sz28, sz29, sz30, sz31, sz32, sz33, sz34, sz35, sz36, sz37, sz38, sz39, sz40, sz41, sz42, sz43, sz44, sz45, sz46, sz47, sz48, sz49, sz50, sz51, sz52, sz53, sz54, sz55, sz56, sz57, sz58, sz59, sz60, sz61, sz62, sz63, sz64, sz65, sz66, sz67, sz68, sz69, sz70, sz71, sz72, sz73, sz74, sz75, sz76, sz77, sz78, sz79, sz80, sz81, sz82, sz83, sz84, sz85, sz86, sz87, sz88, sz89, sz90, sz91, sz92, sz93, sz94, sz95, zc7, zc8, zc13, zc14, zc18, zc19, zc22, zc23, zc38, zc42, zc43, zc44, zc46, zc47, zc48, zc54, zc55, zc71, zc75, zc76, zc77, zc82, zc83, zc84, zc94, zc95, by0, by1, by2, by3, by4, by5, by6, by7, by8, by9, by10, by11, by12, by13, by14, by15, by16, by17, by18, by19, by20, by21, by22, by23, by24, by25, by26, by27, by28, by29, by30, by31, by32, by33, by34, by35, by36, by37, by38, by39, by40, by41, by42, by43, by44, by45, by46, by47, by48, by49, by50, by51, by52, by53, by54, by55, by56, by57, by58, by59, by60, by61, by62, by63, by64, by65, by66, by67, by68, by69, by70, by71, by72, by73, by74, by75, by76, by77, by78, by79, by80, by81, by82, by83, by84, by85, by86, by87, by88, by89, by90, by91, by92, by93, by94, by95, ib0, ib1, ib2, ib3, ib4, ib5, ib6, ib7, ib8, ib9, ib10, ib11, ib12, ib13, ib14, ib15, ib16, ib17, ib18, ib19, ib20, ib21, ib22, ib23, ib24, ib25, ib26, ib27, ib28, ib29, ib30, ib31, ib32, ib33, ib34, ib35, ib36, ib37, ib38, ib39, ib40, ib41, ib42, ib43, ib44, ib45, ib46, ib47, ib48, ib49, ib50, ib51, ib52, ib53, ib54, ib55, ib56, ib57, ib58, ib59, ib60, ib61, ib62, ib63, ib64, ib65, ib66, ib67, ib68, ib69, ib70, ib71, ib72, ib73, ib74, ib75, ib76, ib77, ib78, ib79, ib80, ib81, ib82, ib83, ib84, ib85, ib86, ib87, ib88, ib89, ib90, ib91, ib92, ib93, ib94, ib95⟩
theorem Z : type_of% V1 ∧ type_of% V2 ∧ type_of% V3 ∧ type_of% V4 ∧ type_of% V5 ∧ type_of% V6 ∧ type_of% V7 ∧ type_of% VL ∧ type_of% Zs := ⟨V1, V2, V3, V4, V5, V6, V7, VL, Zs⟩
end Go.Proofs.YtabkpoklihkifaaDoor
