import Derived.Test.YtikjajggcbkfcaaFxRun
set_option linter.unusedVariables false
set_option linter.unusedSimpArgs false
set_option linter.unusedSectionVars false
namespace Go.Fx.C
open Go Go.Fx
def c3 : LCode :=
  (.seq
  (.reg 1 [
  ⟨(some 4), .box 0 (.tmp 0), none⟩,
  ⟨(some 8), .mov (.const (.bool false)), none⟩])
  (.seq
  (.seq
  (.reg 0 [
  ⟨(some 12), .fld 0 (.tmp 4), none⟩,
  ⟨(some 13), .load none (.tmp 12), none⟩,
  ⟨(some 14), .bin .gtr false (.tmp 13) (.const (.int .i64 300)), none⟩,
  ⟨(some 15), .mov (.tmp 14), none⟩,
  ⟨(some 16), .fld 1 (.tmp 4), (some (15, false))⟩,
  ⟨(some 17), .load none (.tmp 16), (some (15, false))⟩,
  ⟨(some 18), .len (.tmp 17), (some (15, false))⟩,
  ⟨(some 19), .bin .gtr false (.tmp 18) (.const (.int .i64 2100)), (some (15, false))⟩,
  ⟨(some 20), .pick (.tmp 15) (.const (.bool true)) (.tmp 19), none⟩])
  (.cond (.tmp 20)
  (.seq
  (.reg 0 [
  ⟨(some 21), .call 9 [], none⟩,
  ⟨(some 8), .mov (.tmp 21), none⟩])
  .ret)
  .skip))
  (.seq
  (.reg 0 [
  ⟨(some 22), .load (some 2) (.tmp 4), none⟩,
  ⟨(some 23), .call 10 [(.tmp 22)], none⟩,
  ⟨(some 9), .mov (.tmp 23), none⟩])
  (.seq
  (.seq
  (.reg 0 [
  ⟨(some 24), .load (some 2) (.tmp 4), none⟩,
  ⟨(some 25), .call 11 [(.tmp 24)], none⟩,
  ⟨(some 26), .mov (.tmp 9), none⟩,
  ⟨(some 27), .bin .neq false (.tmp 25) (.tmp 26), none⟩])
  (.cond (.tmp 27)
  (.seq
  (.reg 0 [
  ⟨(some 8), .mov (.const (.bool false)), none⟩])
  .ret)
  .skip))
  (.seq
  (.seq
  (.reg 0 [
  ⟨(some 28), .mov (.tmp 9), none⟩,
  ⟨(some 29), .bin .eql false (.tmp 28) (.const (.int .i64 0)), none⟩,
  ⟨(some 30), .mov (.tmp 29), none⟩,
  ⟨(some 31), .load (some 2) (.tmp 4), (some (30, true))⟩,
  ⟨(some 32), .mov (.tmp 1), (some (30, true))⟩,
  ⟨(some 33), .mov (.tmp 2), (some (30, true))⟩,
  ⟨(some 34), .mov (.tmp 3), (some (30, true))⟩,
  ⟨(some 35), .call 12 [(.tmp 31), (.tmp 32), (.tmp 33), (.tmp 34)], (some (30, true))⟩,
  ⟨(some 36), .pick (.tmp 30) (.tmp 35) (.const (.bool false)), none⟩])
  (.cond (.tmp 36)
  (.seq
  (.reg 0 [
  ⟨(some 37), .call 9 [], none⟩,
  ⟨(some 8), .mov (.tmp 37), none⟩])
  .ret)
  .skip))
  (.seq
  (.reg 1 [
  ⟨(some 39), .load (some 2) (.tmp 4), none⟩,
  ⟨(some 40), .mov (.tmp 1), none⟩,
  ⟨(some 41), .mov (.tmp 2), none⟩,
  ⟨(some 42), .mov (.tmp 3), none⟩,
  ⟨(some 43), .call 13 [(.tmp 39), (.tmp 40), (.tmp 41), (.tmp 42)], none⟩,
  ⟨(some 38), .mov (.tmp 43), none⟩,
  ⟨(some 44), .ext (.tmp 38) 0, none⟩,
  ⟨(some 45), .ext (.tmp 38) 1, none⟩,
  ⟨(some 10), .alloc 0 (.agg #[.int .i64 0, .int .i64 0, .slice none 0 0, .slice none 0 0, .slice none 0 0]), none⟩,
  ⟨none, .store 5 (.tmp 10) (.tmp 44), none⟩,
  ⟨(some 11), .mov (.tmp 45), none⟩])
  (.seq
  (.seq
  (.reg 0 [
  ⟨(some 46), .mov (.tmp 9), none⟩,
  ⟨(some 47), .bin .eql false (.tmp 46) (.const (.int .i64 0)), none⟩])
  (.cond (.tmp 47)
  (.reg 0 [
  ⟨(some 9), .mov (.const (.int .i64 1)), none⟩])
  .skip))
  (.seq
  (.reg 0 [
  ⟨(some 48), .call 9 [], none⟩,
  ⟨(some 49), .mov (.tmp 48), none⟩,
  ⟨(some 50), .mov (.tmp 11), (some (49, true))⟩,
  ⟨(some 51), .mov (.tmp 9), (some (49, true))⟩,
  ⟨(some 52), .bin .eql false (.tmp 50) (.tmp 51), (some (49, true))⟩,
  ⟨(some 53), .pick (.tmp 49) (.tmp 52) (.const (.bool false)), none⟩,
  ⟨(some 54), .mov (.tmp 53), none⟩,
  ⟨(some 55), .fld 2 (.tmp 10), (some (54, true))⟩,
  ⟨(some 56), .load none (.tmp 55), (some (54, true))⟩,
  ⟨(some 57), .len (.tmp 56), (some (54, true))⟩,
  ⟨(some 58), .bin .eql false (.tmp 57) (.const (.int .i64 0)), (some (54, true))⟩,
  ⟨(some 59), .pick (.tmp 54) (.tmp 58) (.const (.bool false)), none⟩,
  ⟨(some 60), .mov (.tmp 59), none⟩,
  ⟨(some 61), .fld 0 (.tmp 10), (some (60, true))⟩,
  ⟨(some 62), .load none (.tmp 61), (some (60, true))⟩,
  ⟨(some 63), .bin .eql false (.tmp 62) (.const (.int .i64 0)), (some (60, true))⟩,
  ⟨(some 64), .pick (.tmp 60) (.tmp 63) (.const (.bool false)), none⟩,
  ⟨(some 8), .mov (.tmp 64), none⟩])
  .ret))))))))
def c4 : LCode :=
  (.seq
  (.reg 1 [
  ⟨(some 4), .box 0 (.tmp 0), none⟩,
  ⟨(some 8), .mov (.const (.bool false)), none⟩])
  (.seq
  (.reg 0 [
  ⟨(some 13), .load (some 2) (.tmp 4), none⟩,
  ⟨(some 14), .call 14 [(.tmp 13), (.const (.int .i64 1073741824))], none⟩,
  ⟨(some 9), .mov (.tmp 14), none⟩])
  (.seq
  (.seq
  (.reg 0 [
  ⟨(some 15), .mov (.tmp 9), none⟩,
  ⟨(some 16), .not (.tmp 15), none⟩,
  ⟨(some 17), .mov (.tmp 16), none⟩,
  ⟨(some 18), .load (some 2) (.tmp 4), (some (17, false))⟩,
  ⟨(some 19), .mov (.tmp 1), (some (17, false))⟩,
  ⟨(some 20), .mov (.tmp 2), (some (17, false))⟩,
  ⟨(some 21), .mov (.tmp 3), (some (17, false))⟩,
  ⟨(some 22), .call 12 [(.tmp 18), (.tmp 19), (.tmp 20), (.tmp 21)], (some (17, false))⟩,
  ⟨(some 23), .not (.tmp 22), (some (17, false))⟩,
  ⟨(some 24), .pick (.tmp 17) (.const (.bool true)) (.tmp 23), none⟩])
  (.cond (.tmp 24)
  (.seq
  (.reg 0 [
  ⟨(some 25), .call 9 [], none⟩,
  ⟨(some 8), .mov (.tmp 25), none⟩])
  .ret)
  .skip))
  (.seq
  (.reg 1 [
  ⟨(some 27), .load (some 2) (.tmp 4), none⟩,
  ⟨(some 28), .mov (.tmp 1), none⟩,
  ⟨(some 29), .mov (.tmp 2), none⟩,
  ⟨(some 30), .mov (.tmp 3), none⟩,
  ⟨(some 31), .call 13 [(.tmp 27), (.tmp 28), (.tmp 29), (.tmp 30)], none⟩,
  ⟨(some 26), .mov (.tmp 31), none⟩,
  ⟨(some 32), .ext (.tmp 26) 0, none⟩,
  ⟨(some 33), .ext (.tmp 26) 1, none⟩,
  ⟨(some 10), .alloc 0 (.agg #[.int .i64 0, .int .i64 0, .slice none 0 0, .slice none 0 0, .slice none 0 0]), none⟩,
  ⟨none, .store 5 (.tmp 10) (.tmp 32), none⟩,
  ⟨(some 11), .mov (.tmp 33), none⟩])
  (.seq
  (.reg 1 [
  ⟨(some 34), .load (some 2) (.tmp 4), none⟩,
  ⟨(some 35), .mov (.tmp 1), none⟩,
  ⟨(some 36), .mov (.tmp 2), none⟩,
  ⟨(some 37), .mov (.tmp 3), none⟩,
  ⟨(some 38), .call 15 [(.tmp 34), (.tmp 35), (.tmp 36), (.tmp 37)], none⟩,
  ⟨(some 12), .alloc 0 (.agg #[.int .i64 0, .int .i64 0, .slice none 0 0, .slice none 0 0, .slice none 0 0]), none⟩,
  ⟨none, .store 5 (.tmp 12) (.tmp 38), none⟩])
  (.seq
  (.reg 0 [
  ⟨(some 39), .call 9 [], none⟩,
  ⟨(some 40), .mov (.tmp 39), none⟩,
  ⟨(some 41), .mov (.tmp 11), (some (40, true))⟩,
  ⟨(some 42), .bin .eql false (.tmp 41) (.const (.int .i64 0)), (some (40, true))⟩,
  ⟨(some 43), .pick (.tmp 40) (.tmp 42) (.const (.bool false)), none⟩,
  ⟨(some 44), .mov (.tmp 43), none⟩,
  ⟨(some 45), .fld 0 (.tmp 10), (some (44, true))⟩,
  ⟨(some 46), .load none (.tmp 45), (some (44, true))⟩,
  ⟨(some 47), .fld 0 (.tmp 12), (some (44, true))⟩,
  ⟨(some 48), .load none (.tmp 47), (some (44, true))⟩,
  ⟨(some 49), .bin .eql false (.tmp 46) (.tmp 48), (some (44, true))⟩,
  ⟨(some 50), .pick (.tmp 44) (.tmp 49) (.const (.bool false)), none⟩,
  ⟨(some 51), .mov (.tmp 50), none⟩,
  ⟨(some 52), .fld 1 (.tmp 10), (some (51, true))⟩,
  ⟨(some 53), .load none (.tmp 52), (some (51, true))⟩,
  ⟨(some 54), .fld 1 (.tmp 12), (some (51, true))⟩,
  ⟨(some 55), .load none (.tmp 54), (some (51, true))⟩,
  ⟨(some 56), .bin .eql false (.tmp 53) (.tmp 55), (some (51, true))⟩,
  ⟨(some 57), .pick (.tmp 51) (.tmp 56) (.const (.bool false)), none⟩,
  ⟨(some 58), .mov (.tmp 57), none⟩,
  ⟨(some 59), .load (some 2) (.tmp 4), (some (58, true))⟩,
  ⟨(some 60), .mov (.tmp 1), (some (58, true))⟩,
  ⟨(some 61), .mov (.tmp 2), (some (58, true))⟩,
  ⟨(some 62), .mov (.tmp 3), (some (58, true))⟩,
  ⟨(some 63), .load (some 5) (.tmp 10), (some (58, true))⟩,
  ⟨(some 64), .call 16 [(.tmp 59), (.tmp 60), (.tmp 61), (.tmp 62), (.tmp 63)], (some (58, true))⟩,
  ⟨(some 65), .bin .eql false (.tmp 64) (.const (.int .i64 0)), (some (58, true))⟩,
  ⟨(some 66), .pick (.tmp 58) (.tmp 65) (.const (.bool false)), none⟩,
  ⟨(some 67), .mov (.tmp 66), none⟩,
  ⟨(some 68), .load (some 2) (.tmp 4), (some (67, true))⟩,
  ⟨(some 69), .mov (.tmp 1), (some (67, true))⟩,
  ⟨(some 70), .mov (.tmp 2), (some (67, true))⟩,
  ⟨(some 71), .mov (.tmp 3), (some (67, true))⟩,
  ⟨(some 72), .load (some 5) (.tmp 10), (some (67, true))⟩,
  ⟨(some 73), .call 17 [(.tmp 68), (.tmp 69), (.tmp 70), (.tmp 71), (.tmp 72)], (some (67, true))⟩,
  ⟨(some 74), .bin .eql false (.tmp 73) (.const (.int .i64 0)), (some (67, true))⟩,
  ⟨(some 75), .pick (.tmp 67) (.tmp 74) (.const (.bool false)), none⟩,
  ⟨(some 8), .mov (.tmp 75), none⟩])
  .ret))))))
def c5 : LCode :=
  (.seq
  (.reg 2 [
  ⟨(some 5), .box 0 (.tmp 0), none⟩,
  ⟨(some 9), .box 1 (.tmp 4), none⟩,
  ⟨(some 10), .mov (.const (.bool false)), none⟩])
  (.seq
  (.reg 0 [
  ⟨(some 12), .load (some 2) (.tmp 5), none⟩,
  ⟨(some 13), .call 14 [(.tmp 12), (.const (.int .i64 1073741824))], none⟩,
  ⟨(some 11), .mov (.tmp 13), none⟩])
  (.seq
  (.seq
  (.reg 0 [
  ⟨(some 14), .mov (.tmp 11), none⟩,
  ⟨(some 15), .not (.tmp 14), none⟩,
  ⟨(some 16), .mov (.tmp 15), none⟩,
  ⟨(some 17), .load (some 2) (.tmp 5), (some (16, false))⟩,
  ⟨(some 18), .mov (.tmp 1), (some (16, false))⟩,
  ⟨(some 19), .mov (.tmp 2), (some (16, false))⟩,
  ⟨(some 20), .mov (.tmp 3), (some (16, false))⟩,
  ⟨(some 21), .call 12 [(.tmp 17), (.tmp 18), (.tmp 19), (.tmp 20)], (some (16, false))⟩,
  ⟨(some 22), .not (.tmp 21), (some (16, false))⟩,
  ⟨(some 23), .pick (.tmp 16) (.const (.bool true)) (.tmp 22), none⟩,
  ⟨(some 24), .mov (.tmp 23), none⟩,
  ⟨(some 25), .fld 2 (.tmp 9), (some (24, false))⟩,
  ⟨(some 26), .load none (.tmp 25), (some (24, false))⟩,
  ⟨(some 27), .len (.tmp 26), (some (24, false))⟩,
  ⟨(some 28), .bin .gtr false (.tmp 27) (.const (.int .i64 40)), (some (24, false))⟩,
  ⟨(some 29), .pick (.tmp 24) (.const (.bool true)) (.tmp 28), none⟩,
  ⟨(some 30), .mov (.tmp 29), none⟩,
  ⟨(some 31), .fld 3 (.tmp 9), (some (30, false))⟩,
  ⟨(some 32), .load none (.tmp 31), (some (30, false))⟩,
  ⟨(some 33), .len (.tmp 32), (some (30, false))⟩,
  ⟨(some 34), .bin .gtr false (.tmp 33) (.const (.int .i64 40)), (some (30, false))⟩,
  ⟨(some 35), .pick (.tmp 30) (.const (.bool true)) (.tmp 34), none⟩,
  ⟨(some 36), .mov (.tmp 35), none⟩,
  ⟨(some 37), .fld 4 (.tmp 9), (some (36, false))⟩,
  ⟨(some 38), .load none (.tmp 37), (some (36, false))⟩,
  ⟨(some 39), .len (.tmp 38), (some (36, false))⟩,
  ⟨(some 40), .bin .gtr false (.tmp 39) (.const (.int .i64 40)), (some (36, false))⟩,
  ⟨(some 41), .pick (.tmp 36) (.const (.bool true)) (.tmp 40), none⟩])
  (.cond (.tmp 41)
  (.seq
  (.reg 0 [
  ⟨(some 42), .call 9 [], none⟩,
  ⟨(some 10), .mov (.tmp 42), none⟩])
  .ret)
  .skip))
  (.seq
  (.tree 0
  (.alt 0 ⟨(some 43), .call 9 [], none⟩ false
  (.take 1 [2, 3, 4, 5, 6, 7, 8, 9, 10, 11, 12, 13, 14, 15, 16] ⟨(some 44), .mov (.tmp 43), none⟩
  (.take 2 [7, 13, 14, 15, 16] ⟨(some 45), .load (some 2) (.tmp 5), (some (44, true))⟩
  (.take 3 [7, 13, 14, 15, 16] ⟨(some 46), .mov (.tmp 1), (some (44, true))⟩
  (.take 4 [7, 13, 14, 15, 16] ⟨(some 47), .mov (.tmp 2), (some (44, true))⟩
  (.take 5 [7, 13, 14, 15, 16] ⟨(some 48), .mov (.tmp 3), (some (44, true))⟩
  (.take 6 [7, 13, 14, 15, 16] ⟨(some 49), .load (some 5) (.tmp 9), (some (44, true))⟩
  (.take 8 [13, 14, 15, 16] ⟨(some 51), .load (some 2) (.tmp 5), (some (44, true))⟩
  (.take 9 [13, 14, 15, 16] ⟨(some 52), .mov (.tmp 1), (some (44, true))⟩
  (.take 10 [13, 14, 15, 16] ⟨(some 53), .mov (.tmp 2), (some (44, true))⟩
  (.take 11 [13, 14, 15, 16] ⟨(some 54), .mov (.tmp 3), (some (44, true))⟩
  (.take 12 [13, 14, 15, 16] ⟨(some 55), .load (some 5) (.tmp 9), (some (44, true))⟩
  (.alt 7 ⟨(some 50), .call 17 [(.tmp 45), (.tmp 46), (.tmp 47), (.tmp 48), (.tmp 49)], (some (44, true))⟩ true
  (.alt 13 ⟨(some 56), .call 16 [(.tmp 51), (.tmp 52), (.tmp 53), (.tmp 54), (.tmp 55)], (some (44, true))⟩ false
  (.take 14 [15, 16] ⟨(some 57), .bin .eql false (.tmp 50) (.tmp 56), (some (44, true))⟩
  (.take 15 [16] ⟨(some 58), .pick (.tmp 44) (.tmp 57) (.const (.bool false)), none⟩
  (.take 16 [] ⟨(some 10), .mov (.tmp 58), none⟩
  .done)))
  .none)
  .none))))))))))))
  .none))
  .ret))))
def c6 : LCode :=
  (.seq
  (.reg 1 [
  ⟨(some 4), .box 0 (.tmp 0), none⟩,
  ⟨(some 8), .mov (.const (.bool false)), none⟩])
  (.seq
  (.reg 0 [
  ⟨(some 19), .load (some 2) (.tmp 4), none⟩,
  ⟨(some 20), .call 14 [(.tmp 19), (.const (.int .i64 1073741824))], none⟩,
  ⟨(some 9), .mov (.tmp 20), none⟩])
  (.seq
  (.seq
  (.reg 0 [
  ⟨(some 21), .mov (.tmp 9), none⟩,
  ⟨(some 22), .not (.tmp 21), none⟩,
  ⟨(some 23), .mov (.tmp 22), none⟩,
  ⟨(some 24), .mov (.tmp 3), (some (23, false))⟩,
  ⟨(some 25), .bin .geq false (.tmp 24) (.const (.int .i64 1099511627776)), (some (23, false))⟩,
  ⟨(some 26), .pick (.tmp 23) (.const (.bool true)) (.tmp 25), none⟩,
  ⟨(some 27), .mov (.tmp 26), none⟩,
  ⟨(some 28), .load (some 2) (.tmp 4), (some (27, false))⟩,
  ⟨(some 29), .mov (.tmp 1), (some (27, false))⟩,
  ⟨(some 30), .mov (.tmp 2), (some (27, false))⟩,
  ⟨(some 31), .mov (.tmp 3), (some (27, false))⟩,
  ⟨(some 32), .call 12 [(.tmp 28), (.tmp 29), (.tmp 30), (.tmp 31)], (some (27, false))⟩,
  ⟨(some 33), .not (.tmp 32), (some (27, false))⟩,
  ⟨(some 34), .pick (.tmp 27) (.const (.bool true)) (.tmp 33), none⟩])
  (.cond (.tmp 34)
  (.seq
  (.reg 0 [
  ⟨(some 35), .call 9 [], none⟩,
  ⟨(some 8), .mov (.tmp 35), none⟩])
  .ret)
  .skip))
  (.seq
  (.reg 1 [
  ⟨(some 37), .load (some 2) (.tmp 4), none⟩,
  ⟨(some 38), .mov (.tmp 1), none⟩,
  ⟨(some 39), .mov (.tmp 2), none⟩,
  ⟨(some 40), .mov (.tmp 3), none⟩,
  ⟨(some 41), .call 13 [(.tmp 37), (.tmp 38), (.tmp 39), (.tmp 40)], none⟩,
  ⟨(some 36), .mov (.tmp 41), none⟩,
  ⟨(some 42), .ext (.tmp 36) 0, none⟩,
  ⟨(some 43), .ext (.tmp 36) 1, none⟩,
  ⟨(some 10), .alloc 0 (.agg #[.int .i64 0, .int .i64 0, .slice none 0 0, .slice none 0 0, .slice none 0 0]), none⟩,
  ⟨none, .store 5 (.tmp 10) (.tmp 42), none⟩,
  ⟨(some 11), .mov (.tmp 43), none⟩])
  (.seq
  (.reg 1 [
  ⟨(some 45), .load (some 2) (.tmp 4), none⟩,
  ⟨(some 46), .mov (.tmp 1), none⟩,
  ⟨(some 47), .mov (.tmp 2), none⟩,
  ⟨(some 48), .mov (.tmp 3), none⟩,
  ⟨(some 49), .bin .add true (.tmp 48) (.const (.int .i64 1)), none⟩,
  ⟨(some 50), .call 13 [(.tmp 45), (.tmp 46), (.tmp 47), (.tmp 49)], none⟩,
  ⟨(some 44), .mov (.tmp 50), none⟩,
  ⟨(some 51), .ext (.tmp 44) 0, none⟩,
  ⟨(some 52), .ext (.tmp 44) 1, none⟩,
  ⟨(some 12), .alloc 0 (.agg #[.int .i64 0, .int .i64 0, .slice none 0 0, .slice none 0 0, .slice none 0 0]), none⟩,
  ⟨none, .store 5 (.tmp 12) (.tmp 51), none⟩,
  ⟨(some 13), .mov (.tmp 52), none⟩])
  (.seq
  (.seq
  (.reg 0 [
  ⟨(some 53), .mov (.tmp 11), none⟩,
  ⟨(some 54), .bin .neq false (.tmp 53) (.const (.int .i64 0)), none⟩,
  ⟨(some 55), .mov (.tmp 54), none⟩,
  ⟨(some 56), .mov (.tmp 13), (some (55, false))⟩,
  ⟨(some 57), .bin .neq false (.tmp 56) (.const (.int .i64 0)), (some (55, false))⟩,
  ⟨(some 58), .pick (.tmp 55) (.const (.bool true)) (.tmp 57), none⟩,
  ⟨(some 59), .mov (.tmp 58), none⟩,
  ⟨(some 60), .fld 2 (.tmp 10), (some (59, false))⟩,
  ⟨(some 61), .load none (.tmp 60), (some (59, false))⟩,
  ⟨(some 62), .len (.tmp 61), (some (59, false))⟩,
  ⟨(some 63), .fld 1 (.tmp 4), (some (59, false))⟩,
  ⟨(some 64), .load none (.tmp 63), (some (59, false))⟩,
  ⟨(some 65), .len (.tmp 64), (some (59, false))⟩,
  ⟨(some 66), .bin .neq false (.tmp 62) (.tmp 65), (some (59, false))⟩,
  ⟨(some 67), .pick (.tmp 59) (.const (.bool true)) (.tmp 66), none⟩])
  (.cond (.tmp 67)
  (.seq
  (.reg 0 [
  ⟨(some 8), .mov (.const (.bool false)), none⟩])
  .ret)
  .skip))
  (.seq
  (.reg 0 [
  ⟨(some 69), .load (some 2) (.tmp 4), none⟩,
  ⟨(some 70), .mov (.tmp 1), none⟩,
  ⟨(some 71), .mov (.tmp 2), none⟩,
  ⟨(some 72), .load (some 5) (.tmp 10), none⟩,
  ⟨(some 73), .call 18 [(.tmp 69), (.tmp 70), (.tmp 71), (.tmp 72)], none⟩,
  ⟨(some 68), .mov (.tmp 73), none⟩,
  ⟨(some 74), .ext (.tmp 68) 0, none⟩,
  ⟨(some 75), .ext (.tmp 68) 1, none⟩,
  ⟨(some 14), .mov (.tmp 74), none⟩,
  ⟨(some 15), .mov (.tmp 75), none⟩])
  (.seq
  (.reg 1 [
  ⟨(some 76), .load (some 2) (.tmp 4), none⟩,
  ⟨(some 77), .mov (.tmp 1), none⟩,
  ⟨(some 78), .mov (.tmp 2), none⟩,
  ⟨(some 79), .fld 2 (.tmp 10), none⟩,
  ⟨(some 80), .load none (.tmp 79), none⟩,
  ⟨(some 81), .call 19 [(.tmp 76), (.tmp 77), (.tmp 78), (.tmp 80)], none⟩,
  ⟨(some 16), .alloc 0 (.agg #[.int .i64 0, .bool false]), none⟩,
  ⟨none, .store 2 (.tmp 16) (.tmp 81), none⟩])
  (.seq
  (.seq
  (.reg 0 [
  ⟨(some 82), .mov (.tmp 14), none⟩,
  ⟨(some 83), .fld 0 (.tmp 16), none⟩,
  ⟨(some 84), .load none (.tmp 83), none⟩,
  ⟨(some 85), .bin .neq false (.tmp 82) (.tmp 84), none⟩,
  ⟨(some 86), .mov (.tmp 85), none⟩,
  ⟨(some 87), .mov (.tmp 15), (some (86, false))⟩,
  ⟨(some 88), .fld 1 (.tmp 16), (some (86, false))⟩,
  ⟨(some 89), .load none (.tmp 88), (some (86, false))⟩,
  ⟨(some 90), .eqb true (.tmp 87) (.tmp 89), (some (86, false))⟩,
  ⟨(some 91), .pick (.tmp 86) (.const (.bool true)) (.tmp 90), none⟩,
  ⟨(some 92), .mov (.tmp 91), none⟩,
  ⟨(some 93), .mov (.tmp 15), (some (92, false))⟩,
  ⟨(some 94), .fld 0 (.tmp 12), (some (92, false))⟩,
  ⟨(some 95), .load none (.tmp 94), (some (92, false))⟩,
  ⟨(some 96), .mov (.tmp 3), (some (92, false))⟩,
  ⟨(some 97), .bin .add true (.tmp 96) (.const (.int .i64 1)), (some (92, false))⟩,
  ⟨(some 98), .bin .eql false (.tmp 95) (.tmp 97), (some (92, false))⟩,
  ⟨(some 99), .mov (.tmp 98), (some (92, false))⟩,
  ⟨(some 100), .fld 0 (.tmp 10), (some (99, true))⟩,
  ⟨(some 101), .load none (.tmp 100), (some (99, true))⟩,
  ⟨(some 102), .mov (.tmp 3), (some (99, true))⟩,
  ⟨(some 103), .bin .eql false (.tmp 101) (.tmp 102), (some (99, true))⟩,
  ⟨(some 104), .pick (.tmp 99) (.tmp 103) (.const (.bool false)), (some (92, false))⟩,
  ⟨(some 105), .eqb true (.tmp 93) (.tmp 104), (some (92, false))⟩,
  ⟨(some 106), .pick (.tmp 92) (.const (.bool true)) (.tmp 105), none⟩])
  (.cond (.tmp 106)
  (.seq
  (.reg 0 [
  ⟨(some 8), .mov (.const (.bool false)), none⟩])
  .ret)
  .skip))
  (.seq
  (.seq
  (.reg 0 [
  ⟨(some 107), .mov (.tmp 15), none⟩,
  ⟨(some 108), .not (.tmp 107), none⟩])
  (.cond (.tmp 108)
  (.seq
  (.reg 0 [
  ⟨(some 109), .call 9 [], none⟩,
  ⟨(some 110), .mov (.tmp 109), none⟩,
  ⟨(some 111), .fld 0 (.tmp 12), (some (110, true))⟩,
  ⟨(some 112), .load none (.tmp 111), (some (110, true))⟩,
  ⟨(some 113), .fld 0 (.tmp 10), (some (110, true))⟩,
  ⟨(some 114), .load none (.tmp 113), (some (110, true))⟩,
  ⟨(some 115), .bin .eql false (.tmp 112) (.tmp 114), (some (110, true))⟩,
  ⟨(some 116), .pick (.tmp 110) (.tmp 115) (.const (.bool false)), none⟩,
  ⟨(some 117), .mov (.tmp 116), none⟩,
  ⟨(some 118), .fld 1 (.tmp 12), (some (117, true))⟩,
  ⟨(some 119), .load none (.tmp 118), (some (117, true))⟩,
  ⟨(some 120), .fld 1 (.tmp 10), (some (117, true))⟩,
  ⟨(some 121), .load none (.tmp 120), (some (117, true))⟩,
  ⟨(some 122), .bin .eql false (.tmp 119) (.tmp 121), (some (117, true))⟩,
  ⟨(some 123), .pick (.tmp 117) (.tmp 122) (.const (.bool false)), none⟩,
  ⟨(some 8), .mov (.tmp 123), none⟩])
  .ret)
  .skip))
  (.seq
  (.reg 0 [
  ⟨(some 125), .load (some 2) (.tmp 4), none⟩,
  ⟨(some 126), .mov (.tmp 1), none⟩,
  ⟨(some 127), .mov (.tmp 2), none⟩,
  ⟨(some 128), .load (some 5) (.tmp 12), none⟩,
  ⟨(some 129), .call 18 [(.tmp 125), (.tmp 126), (.tmp 127), (.tmp 128)], none⟩,
  ⟨(some 124), .mov (.tmp 129), none⟩,
  ⟨(some 130), .ext (.tmp 124) 0, none⟩,
  ⟨(some 131), .ext (.tmp 124) 1, none⟩,
  ⟨(some 17), .mov (.tmp 130), none⟩,
  ⟨(some 18), .mov (.tmp 131), none⟩])
  (.seq
  (.reg 0 [
  ⟨(some 132), .call 9 [], none⟩,
  ⟨(some 133), .mov (.tmp 132), none⟩,
  ⟨(some 134), .fld 1 (.tmp 12), (some (133, true))⟩,
  ⟨(some 135), .load none (.tmp 134), (some (133, true))⟩,
  ⟨(some 136), .fld 1 (.tmp 10), (some (133, true))⟩,
  ⟨(some 137), .load none (.tmp 136), (some (133, true))⟩,
  ⟨(some 138), .bin .sub true (.tmp 135) (.tmp 137), (some (133, true))⟩,
  ⟨(some 139), .mov (.tmp 14), (some (133, true))⟩,
  ⟨(some 140), .bin .eql false (.tmp 138) (.tmp 139), (some (133, true))⟩,
  ⟨(some 141), .pick (.tmp 133) (.tmp 140) (.const (.bool false)), none⟩,
  ⟨(some 142), .mov (.tmp 141), none⟩,
  ⟨(some 143), .mov (.tmp 18), (some (142, true))⟩,
  ⟨(some 144), .not (.tmp 143), (some (142, true))⟩,
  ⟨(some 145), .mov (.tmp 144), (some (142, true))⟩,
  ⟨(some 146), .mov (.tmp 17), (some (145, false))⟩,
  ⟨(some 147), .mov (.tmp 14), (some (145, false))⟩,
  ⟨(some 148), .bin .geq false (.tmp 146) (.tmp 147), (some (145, false))⟩,
  ⟨(some 149), .pick (.tmp 145) (.const (.bool true)) (.tmp 148), (some (142, true))⟩,
  ⟨(some 150), .pick (.tmp 142) (.tmp 149) (.const (.bool false)), none⟩,
  ⟨(some 8), .mov (.tmp 150), none⟩])
  .ret))))))))))))
def c7 : LCode :=
  (.seq
  (.reg 2 [
  ⟨(some 6), .box 0 (.tmp 0), none⟩,
  ⟨(some 10), .box 1 (.tmp 4), none⟩,
  ⟨(some 12), .mov (.const (.bool false)), none⟩])
  (.seq
  (.reg 0 [
  ⟨(some 15), .load (some 2) (.tmp 6), none⟩,
  ⟨(some 16), .call 14 [(.tmp 15), (.const (.int .i64 1073741824))], none⟩,
  ⟨(some 13), .mov (.tmp 16), none⟩])
  (.seq
  (.seq
  (.reg 0 [
  ⟨(some 17), .mov (.tmp 13), none⟩,
  ⟨(some 18), .not (.tmp 17), none⟩,
  ⟨(some 19), .mov (.tmp 18), none⟩,
  ⟨(some 20), .load (some 2) (.tmp 6), (some (19, false))⟩,
  ⟨(some 21), .mov (.tmp 1), (some (19, false))⟩,
  ⟨(some 22), .mov (.tmp 2), (some (19, false))⟩,
  ⟨(some 23), .mov (.tmp 3), (some (19, false))⟩,
  ⟨(some 24), .call 12 [(.tmp 20), (.tmp 21), (.tmp 22), (.tmp 23)], (some (19, false))⟩,
  ⟨(some 25), .not (.tmp 24), (some (19, false))⟩,
  ⟨(some 26), .pick (.tmp 19) (.const (.bool true)) (.tmp 25), none⟩,
  ⟨(some 27), .mov (.tmp 26), none⟩,
  ⟨(some 28), .load (some 2) (.tmp 6), (some (27, false))⟩,
  ⟨(some 29), .mov (.tmp 1), (some (27, false))⟩,
  ⟨(some 30), .mov (.tmp 2), (some (27, false))⟩,
  ⟨(some 31), .mov (.tmp 5), (some (27, false))⟩,
  ⟨(some 32), .call 20 [(.tmp 28), (.tmp 29), (.tmp 30), (.tmp 31)], (some (27, false))⟩,
  ⟨(some 33), .not (.tmp 32), (some (27, false))⟩,
  ⟨(some 34), .pick (.tmp 27) (.const (.bool true)) (.tmp 33), none⟩])
  (.cond (.tmp 34)
  (.seq
  (.reg 0 [
  ⟨(some 35), .call 9 [], none⟩,
  ⟨(some 12), .mov (.tmp 35), none⟩])
  .ret)
  .skip))
  (.seq
  (.seq
  (.reg 0 [
  ⟨(some 36), .load (some 2) (.tmp 6), none⟩,
  ⟨(some 37), .mov (.tmp 1), none⟩,
  ⟨(some 38), .mov (.tmp 2), none⟩,
  ⟨(some 39), .mov (.tmp 3), none⟩,
  ⟨(some 40), .load (some 5) (.tmp 10), none⟩,
  ⟨(some 41), .call 17 [(.tmp 36), (.tmp 37), (.tmp 38), (.tmp 39), (.tmp 40)], none⟩,
  ⟨(some 42), .bin .neq false (.tmp 41) (.const (.int .i64 0)), none⟩])
  (.cond (.tmp 42)
  (.seq
  (.reg 0 [
  ⟨(some 43), .call 9 [], none⟩,
  ⟨(some 12), .mov (.tmp 43), none⟩])
  .ret)
  .skip))
  (.seq
  (.reg 0 [
  ⟨(some 44), .load (some 2) (.tmp 6), none⟩,
  ⟨(some 45), .mov (.tmp 5), none⟩,
  ⟨(some 46), .mov (.tmp 1), none⟩,
  ⟨(some 47), .call 21 [(.tmp 44), (.tmp 45), (.tmp 46)], none⟩,
  ⟨(some 14), .mov (.tmp 47), none⟩])
  (.seq
  (.seq
  (.tree 0
  (.take 0 [3, 4, 5, 6, 7, 8, 9, 10, 11] ⟨(some 48), .mov (.tmp 14), none⟩
  (.take 1 [2, 3, 4, 5, 6, 7, 8, 9, 10, 11] ⟨(some 49), .fld 0 (.tmp 10), none⟩
  (.take 2 [3, 4, 5, 6, 7, 8, 9, 10, 11] ⟨(some 50), .load none (.tmp 49), none⟩
  (.take 3 [4, 5, 6, 7, 8, 9, 10, 11] ⟨(some 51), .bin .eql false (.tmp 48) (.tmp 50), none⟩
  (.take 4 [5, 6, 7, 8, 9, 10, 11] ⟨(some 52), .mov (.tmp 51), none⟩
  (.take 5 [7, 10, 11] ⟨(some 53), .load (some 2) (.tmp 6), (some (52, true))⟩
  (.take 6 [7, 10, 11] ⟨(some 54), .mov (.tmp 5), (some (52, true))⟩
  (.take 8 [9, 10, 11] ⟨(some 56), .fld 1 (.tmp 10), (some (52, true))⟩
  (.take 9 [10, 11] ⟨(some 57), .load none (.tmp 56), (some (52, true))⟩
  (.alt 7 ⟨(some 55), .call 22 [(.tmp 53), (.tmp 54)], (some (52, true))⟩ true
  (.take 10 [11] ⟨(some 58), .bin .lss false (.tmp 55) (.tmp 57), (some (52, true))⟩
  (.take 11 [] ⟨(some 59), .pick (.tmp 52) (.tmp 58) (.const (.bool false)), none⟩
  .done))
  .none)))))))))))
  (.cond (.tmp 59)
  (.seq
  (.reg 0 [
  ⟨(some 12), .mov (.const (.bool false)), none⟩])
  .ret)
  .skip))
  (.seq
  (.reg 0 [
  ⟨(some 60), .call 9 [], none⟩,
  ⟨(some 61), .mov (.tmp 60), none⟩,
  ⟨(some 62), .fld 0 (.tmp 10), (some (61, true))⟩,
  ⟨(some 63), .load none (.tmp 62), (some (61, true))⟩,
  ⟨(some 64), .mov (.tmp 3), (some (61, true))⟩,
  ⟨(some 65), .bin .eql false (.tmp 63) (.tmp 64), (some (61, true))⟩,
  ⟨(some 66), .mov (.tmp 65), (some (61, true))⟩,
  ⟨(some 67), .mov (.tmp 14), (some (66, false))⟩,
  ⟨(some 68), .fld 0 (.tmp 10), (some (66, false))⟩,
  ⟨(some 69), .load none (.tmp 68), (some (66, false))⟩,
  ⟨(some 70), .bin .leq false (.tmp 67) (.tmp 69), (some (66, false))⟩,
  ⟨(some 71), .pick (.tmp 66) (.const (.bool true)) (.tmp 70), (some (61, true))⟩,
  ⟨(some 72), .pick (.tmp 61) (.tmp 71) (.const (.bool false)), none⟩,
  ⟨(some 12), .mov (.tmp 72), none⟩])
  .ret)))))))
def c8 : LCode :=
  (.seq
  (.reg 1 [
  ⟨(some 7), .box 0 (.tmp 0), none⟩,
  ⟨(some 14), .mov (.const (.bool false)), none⟩])
  (.seq
  (.reg 0 [
  ⟨(some 24), .load (some 2) (.tmp 7), none⟩,
  ⟨(some 25), .call 14 [(.tmp 24), (.const (.int .i64 1048576))], none⟩,
  ⟨(some 15), .mov (.tmp 25), none⟩])
  (.seq
  (.seq
  (.reg 0 [
  ⟨(some 26), .mov (.tmp 15), none⟩,
  ⟨(some 27), .not (.tmp 26), none⟩,
  ⟨(some 28), .mov (.tmp 27), none⟩,
  ⟨(some 29), .fld 1 (.tmp 7), (some (28, false))⟩,
  ⟨(some 30), .load none (.tmp 29), (some (28, false))⟩,
  ⟨(some 31), .len (.tmp 30), (some (28, false))⟩,
  ⟨(some 32), .bin .eql false (.tmp 31) (.const (.int .i64 0)), (some (28, false))⟩,
  ⟨(some 33), .pick (.tmp 28) (.const (.bool true)) (.tmp 32), none⟩,
  ⟨(some 34), .mov (.tmp 33), none⟩,
  ⟨(some 35), .load (some 2) (.tmp 7), (some (34, false))⟩,
  ⟨(some 36), .mov (.tmp 1), (some (34, false))⟩,
  ⟨(some 37), .mov (.tmp 2), (some (34, false))⟩,
  ⟨(some 38), .mov (.tmp 3), (some (34, false))⟩,
  ⟨(some 39), .call 12 [(.tmp 35), (.tmp 36), (.tmp 37), (.tmp 38)], (some (34, false))⟩,
  ⟨(some 40), .not (.tmp 39), (some (34, false))⟩,
  ⟨(some 41), .pick (.tmp 34) (.const (.bool true)) (.tmp 40), none⟩])
  (.cond (.tmp 41)
  (.seq
  (.reg 0 [
  ⟨(some 42), .call 9 [], none⟩,
  ⟨(some 14), .mov (.tmp 42), none⟩])
  .ret)
  .skip))
  (.seq
  (.tree 3
  (.take 0 [1, 6, 8] ⟨(some 43), .fld 0 (.tmp 7), none⟩
  (.take 1 [6, 8] ⟨(some 44), .load none (.tmp 43), none⟩
  (.take 3 [4, 5, 6, 8] ⟨(some 46), .fld 1 (.tmp 7), none⟩
  (.take 4 [5, 6, 8] ⟨(some 47), .load none (.tmp 46), none⟩
  (.alt 2 ⟨(some 45), .lits 0 4 0 [.int .i64 0, .int .i64 0, .int .i64 0, .int .i64 0] [], none⟩ true
  (.alt 5 ⟨(some 48), .append 1 4 32 (.tmp 45) (.tmp 47), none⟩ true
  (.take 6 [8] ⟨(some 49), .build [.int .i64 0, .slice none 0 0] [(0, 1, (.tmp 44)), (1, 1, (.tmp 48))], none⟩
  (.alt 7 ⟨(some 16), .alloc 2 (.agg #[.int .i64 0, .slice none 0 0]), none⟩ true
  (.alt 8 ⟨none, .store 2 (.tmp 16) (.tmp 49), none⟩ false
  .done
  .none)
  .none))
  (.alt 7 ⟨(some 16), .alloc 2 (.agg #[.int .i64 0, .slice none 0 0]), none⟩ true
  (.alt 5 ⟨(some 48), .append 1 4 32 (.tmp 45) (.tmp 47), none⟩ true
  (.take 6 [8] ⟨(some 49), .build [.int .i64 0, .slice none 0 0] [(0, 1, (.tmp 44)), (1, 1, (.tmp 48))], none⟩
  (.alt 8 ⟨none, .store 2 (.tmp 16) (.tmp 49), none⟩ false
  .done
  .none))
  .none)
  .none))
  (.alt 7 ⟨(some 16), .alloc 2 (.agg #[.int .i64 0, .slice none 0 0]), none⟩ true
  (.alt 2 ⟨(some 45), .lits 0 4 0 [.int .i64 0, .int .i64 0, .int .i64 0, .int .i64 0] [], none⟩ true
  (.alt 5 ⟨(some 48), .append 1 4 32 (.tmp 45) (.tmp 47), none⟩ true
  (.take 6 [8] ⟨(some 49), .build [.int .i64 0, .slice none 0 0] [(0, 1, (.tmp 44)), (1, 1, (.tmp 48))], none⟩
  (.alt 8 ⟨none, .store 2 (.tmp 16) (.tmp 49), none⟩ false
  .done
  .none))
  .none)
  .none)
  .none)))))))
  (.seq
  (.reg 0 [
  ⟨(some 50), .mov (.tmp 4), none⟩,
  ⟨(some 51), .conv true .i64 (.tmp 50), none⟩,
  ⟨(some 52), .fld 1 (.tmp 16), none⟩,
  ⟨(some 53), .load none (.tmp 52), none⟩,
  ⟨(some 54), .len (.tmp 53), none⟩,
  ⟨(some 55), .bin .rem false (.tmp 51) (.tmp 54), none⟩,
  ⟨(some 17), .mov (.tmp 55), none⟩])
  (.seq
  (.tail 14 0 [
  ⟨(some 56), .fld 1 (.tmp 16), none⟩,
  ⟨(some 57), .load none (.tmp 56), none⟩,
  ⟨(some 58), .mov (.tmp 17), none⟩,
  ⟨(some 59), .fld 1 (.tmp 16), none⟩,
  ⟨(some 60), .load none (.tmp 59), none⟩,
  ⟨(some 61), .mov (.tmp 17), none⟩,
  ⟨(some 62), .idx 4 (.tmp 60) (.tmp 61), none⟩,
  ⟨(some 63), .fld 2 (.tmp 62), none⟩,
  ⟨(some 64), .load none (.tmp 63), none⟩,
  ⟨(some 65), .mov (.tmp 5), none⟩,
  ⟨(some 66), .conv true .i64 (.tmp 65), none⟩,
  ⟨(some 67), .bin .add true (.tmp 64) (.tmp 66), none⟩,
  ⟨(some 68), .idx 4 (.tmp 57) (.tmp 58), none⟩,
  ⟨(some 69), .fld 2 (.tmp 68), none⟩,
  ⟨none, .store 1 (.tmp 69) (.tmp 67), none⟩])
  (.seq
  (.tail 15 0 [
  ⟨(some 70), .fld 1 (.tmp 16), none⟩,
  ⟨(some 71), .load none (.tmp 70), none⟩,
  ⟨(some 72), .mov (.tmp 17), none⟩,
  ⟨(some 73), .fld 1 (.tmp 16), none⟩,
  ⟨(some 74), .load none (.tmp 73), none⟩,
  ⟨(some 75), .mov (.tmp 17), none⟩,
  ⟨(some 76), .idx 4 (.tmp 74) (.tmp 75), none⟩,
  ⟨(some 77), .fld 3 (.tmp 76), none⟩,
  ⟨(some 78), .load none (.tmp 77), none⟩,
  ⟨(some 79), .mov (.tmp 6), none⟩,
  ⟨(some 80), .conv true .i64 (.tmp 79), none⟩,
  ⟨(some 81), .bin .sub true (.tmp 78) (.tmp 80), none⟩,
  ⟨(some 82), .minmax true (.tmp 81) (.const (.int .i64 0)), none⟩,
  ⟨(some 83), .idx 4 (.tmp 71) (.tmp 72), none⟩,
  ⟨(some 84), .fld 3 (.tmp 83), none⟩,
  ⟨none, .store 1 (.tmp 84) (.tmp 82), none⟩])
  (.seq
  (.reg 1 [
  ⟨(some 86), .load (some 2) (.tmp 7), none⟩,
  ⟨(some 87), .mov (.tmp 1), none⟩,
  ⟨(some 88), .mov (.tmp 2), none⟩,
  ⟨(some 89), .mov (.tmp 3), none⟩,
  ⟨(some 90), .call 13 [(.tmp 86), (.tmp 87), (.tmp 88), (.tmp 89)], none⟩,
  ⟨(some 85), .mov (.tmp 90), none⟩,
  ⟨(some 91), .ext (.tmp 85) 0, none⟩,
  ⟨(some 92), .ext (.tmp 85) 1, none⟩,
  ⟨(some 18), .alloc 0 (.agg #[.int .i64 0, .int .i64 0, .slice none 0 0, .slice none 0 0, .slice none 0 0]), none⟩,
  ⟨none, .store 5 (.tmp 18) (.tmp 91), none⟩,
  ⟨(some 19), .mov (.tmp 92), none⟩])
  (.seq
  (.reg 1 [
  ⟨(some 94), .load (some 2) (.tmp 16), none⟩,
  ⟨(some 95), .mov (.tmp 1), none⟩,
  ⟨(some 96), .mov (.tmp 2), none⟩,
  ⟨(some 97), .mov (.tmp 3), none⟩,
  ⟨(some 98), .call 13 [(.tmp 94), (.tmp 95), (.tmp 96), (.tmp 97)], none⟩,
  ⟨(some 93), .mov (.tmp 98), none⟩,
  ⟨(some 99), .ext (.tmp 93) 0, none⟩,
  ⟨(some 100), .ext (.tmp 93) 1, none⟩,
  ⟨(some 20), .alloc 0 (.agg #[.int .i64 0, .int .i64 0, .slice none 0 0, .slice none 0 0, .slice none 0 0]), none⟩,
  ⟨none, .store 5 (.tmp 20) (.tmp 99), none⟩,
  ⟨(some 21), .mov (.tmp 100), none⟩])
  (.seq
  (.seq
  (.reg 0 [
  ⟨(some 101), .mov (.tmp 19), none⟩,
  ⟨(some 102), .bin .neq false (.tmp 101) (.const (.int .i64 0)), none⟩,
  ⟨(some 103), .mov (.tmp 102), none⟩,
  ⟨(some 104), .mov (.tmp 21), (some (103, false))⟩,
  ⟨(some 105), .bin .neq false (.tmp 104) (.const (.int .i64 0)), (some (103, false))⟩,
  ⟨(some 106), .pick (.tmp 103) (.const (.bool true)) (.tmp 105), none⟩,
  ⟨(some 107), .mov (.tmp 106), none⟩,
  ⟨(some 108), .fld 0 (.tmp 20), (some (107, false))⟩,
  ⟨(some 109), .load none (.tmp 108), (some (107, false))⟩,
  ⟨(some 110), .fld 0 (.tmp 18), (some (107, false))⟩,
  ⟨(some 111), .load none (.tmp 110), (some (107, false))⟩,
  ⟨(some 112), .bin .lss false (.tmp 109) (.tmp 111), (some (107, false))⟩,
  ⟨(some 113), .pick (.tmp 107) (.const (.bool true)) (.tmp 112), none⟩])
  (.cond (.tmp 113)
  (.seq
  (.reg 0 [
  ⟨(some 14), .mov (.const (.bool false)), none⟩])
  .ret)
  .skip))
  (.seq
  (.reg 1 [
  ⟨(some 115), .load (some 2) (.tmp 16), none⟩,
  ⟨(some 116), .mov (.tmp 1), none⟩,
  ⟨(some 117), .mov (.tmp 2), none⟩,
  ⟨(some 118), .fld 0 (.tmp 18), none⟩,
  ⟨(some 119), .load none (.tmp 118), none⟩,
  ⟨(some 120), .call 13 [(.tmp 115), (.tmp 116), (.tmp 117), (.tmp 119)], none⟩,
  ⟨(some 114), .mov (.tmp 120), none⟩,
  ⟨(some 121), .ext (.tmp 114) 0, none⟩,
  ⟨(some 122), .ext (.tmp 114) 1, none⟩,
  ⟨(some 22), .alloc 0 (.agg #[.int .i64 0, .int .i64 0, .slice none 0 0, .slice none 0 0, .slice none 0 0]), none⟩,
  ⟨none, .store 5 (.tmp 22) (.tmp 121), none⟩,
  ⟨(some 23), .mov (.tmp 122), none⟩])
  (.seq
  (.reg 0 [
  ⟨(some 123), .call 9 [], none⟩,
  ⟨(some 124), .mov (.tmp 123), none⟩,
  ⟨(some 125), .mov (.tmp 23), (some (124, true))⟩,
  ⟨(some 126), .bin .eql false (.tmp 125) (.const (.int .i64 0)), (some (124, true))⟩,
  ⟨(some 127), .pick (.tmp 124) (.tmp 126) (.const (.bool false)), none⟩,
  ⟨(some 128), .mov (.tmp 127), none⟩,
  ⟨(some 129), .fld 0 (.tmp 22), (some (128, true))⟩,
  ⟨(some 130), .load none (.tmp 129), (some (128, true))⟩,
  ⟨(some 131), .fld 0 (.tmp 18), (some (128, true))⟩,
  ⟨(some 132), .load none (.tmp 131), (some (128, true))⟩,
  ⟨(some 133), .bin .eql false (.tmp 130) (.tmp 132), (some (128, true))⟩,
  ⟨(some 134), .pick (.tmp 128) (.tmp 133) (.const (.bool false)), none⟩,
  ⟨(some 135), .mov (.tmp 134), none⟩,
  ⟨(some 136), .fld 1 (.tmp 22), (some (135, true))⟩,
  ⟨(some 137), .load none (.tmp 136), (some (135, true))⟩,
  ⟨(some 138), .fld 1 (.tmp 18), (some (135, true))⟩,
  ⟨(some 139), .load none (.tmp 138), (some (135, true))⟩,
  ⟨(some 140), .bin .leq false (.tmp 137) (.tmp 139), (some (135, true))⟩,
  ⟨(some 141), .pick (.tmp 135) (.tmp 140) (.const (.bool false)), none⟩,
  ⟨(some 14), .mov (.tmp 141), none⟩])
  .ret))))))))))))
def c9 : LCode :=
  (.seq
  (.reg 0 [
  ⟨(some 0), .mov (.const (.bool false)), none⟩])
  (.seq
  (.reg 1 [
  ⟨(some 16), .call 23 [], none⟩,
  ⟨(some 1), .alloc 0 (.agg #[.int .i64 0, .slice none 0 0]), none⟩,
  ⟨none, .store 2 (.tmp 1) (.tmp 16), none⟩])
  (.seq
  (.reg 1 [
  ⟨(some 18), .load (some 2) (.tmp 1), none⟩,
  ⟨(some 19), .call 13 [(.tmp 18), (.const (.int .i64 0)), (.const (.int .i64 3)), (.const (.int .i64 3))], none⟩,
  ⟨(some 17), .mov (.tmp 19), none⟩,
  ⟨(some 20), .ext (.tmp 17) 0, none⟩,
  ⟨(some 21), .ext (.tmp 17) 1, none⟩,
  ⟨(some 2), .alloc 0 (.agg #[.int .i64 0, .int .i64 0, .slice none 0 0, .slice none 0 0, .slice none 0 0]), none⟩,
  ⟨none, .store 5 (.tmp 2) (.tmp 20), none⟩,
  ⟨(some 3), .mov (.tmp 21), none⟩])
  (.seq
  (.reg 1 [
  ⟨(some 23), .load (some 2) (.tmp 1), none⟩,
  ⟨(some 24), .call 13 [(.tmp 23), (.const (.int .i64 0)), (.const (.int .i64 3)), (.const (.int .i64 4))], none⟩,
  ⟨(some 22), .mov (.tmp 24), none⟩,
  ⟨(some 25), .ext (.tmp 22) 0, none⟩,
  ⟨(some 26), .ext (.tmp 22) 1, none⟩,
  ⟨(some 4), .alloc 0 (.agg #[.int .i64 0, .int .i64 0, .slice none 0 0, .slice none 0 0, .slice none 0 0]), none⟩,
  ⟨none, .store 5 (.tmp 4) (.tmp 25), none⟩,
  ⟨(some 5), .mov (.tmp 26), none⟩])
  (.seq
  (.reg 1 [
  ⟨(some 28), .load (some 2) (.tmp 1), none⟩,
  ⟨(some 29), .call 13 [(.tmp 28), (.const (.int .i64 0)), (.const (.int .i64 3)), (.const (.int .i64 8))], none⟩,
  ⟨(some 27), .mov (.tmp 29), none⟩,
  ⟨(some 30), .ext (.tmp 27) 0, none⟩,
  ⟨(some 31), .ext (.tmp 27) 1, none⟩,
  ⟨(some 6), .alloc 0 (.agg #[.int .i64 0, .int .i64 0, .slice none 0 0, .slice none 0 0, .slice none 0 0]), none⟩,
  ⟨none, .store 5 (.tmp 6) (.tmp 30), none⟩,
  ⟨(some 7), .mov (.tmp 31), none⟩])
  (.seq
  (.reg 1 [
  ⟨(some 33), .load (some 2) (.tmp 1), none⟩,
  ⟨(some 34), .call 13 [(.tmp 33), (.const (.int .i64 0)), (.const (.int .i64 0)), (.const (.int .i64 1))], none⟩,
  ⟨(some 32), .mov (.tmp 34), none⟩,
  ⟨(some 35), .ext (.tmp 32) 0, none⟩,
  ⟨(some 36), .ext (.tmp 32) 1, none⟩,
  ⟨(some 8), .alloc 0 (.agg #[.int .i64 0, .int .i64 0, .slice none 0 0, .slice none 0 0, .slice none 0 0]), none⟩,
  ⟨none, .store 5 (.tmp 8) (.tmp 35), none⟩,
  ⟨(some 9), .mov (.tmp 36), none⟩])
  (.seq
  (.seq
  (.reg 0 [
  ⟨(some 37), .mov (.tmp 3), none⟩,
  ⟨(some 38), .bin .neq false (.tmp 37) (.const (.int .i64 0)), none⟩,
  ⟨(some 39), .mov (.tmp 38), none⟩,
  ⟨(some 40), .mov (.tmp 5), (some (39, false))⟩,
  ⟨(some 41), .bin .neq false (.tmp 40) (.const (.int .i64 0)), (some (39, false))⟩,
  ⟨(some 42), .pick (.tmp 39) (.const (.bool true)) (.tmp 41), none⟩,
  ⟨(some 43), .mov (.tmp 42), none⟩,
  ⟨(some 44), .mov (.tmp 7), (some (43, false))⟩,
  ⟨(some 45), .bin .neq false (.tmp 44) (.const (.int .i64 0)), (some (43, false))⟩,
  ⟨(some 46), .pick (.tmp 43) (.const (.bool true)) (.tmp 45), none⟩,
  ⟨(some 47), .mov (.tmp 46), none⟩,
  ⟨(some 48), .mov (.tmp 9), (some (47, false))⟩,
  ⟨(some 49), .bin .neq false (.tmp 48) (.const (.int .i64 1)), (some (47, false))⟩,
  ⟨(some 50), .pick (.tmp 47) (.const (.bool true)) (.tmp 49), none⟩,
  ⟨(some 51), .mov (.tmp 50), none⟩,
  ⟨(some 52), .fld 1 (.tmp 2), (some (51, false))⟩,
  ⟨(some 53), .load none (.tmp 52), (some (51, false))⟩,
  ⟨(some 54), .bin .neq false (.tmp 53) (.const (.int .i64 6)), (some (51, false))⟩,
  ⟨(some 55), .pick (.tmp 51) (.const (.bool true)) (.tmp 54), none⟩,
  ⟨(some 56), .mov (.tmp 55), none⟩,
  ⟨(some 57), .fld 1 (.tmp 4), (some (56, false))⟩,
  ⟨(some 58), .load none (.tmp 57), (some (56, false))⟩,
  ⟨(some 59), .bin .neq false (.tmp 58) (.const (.int .i64 8)), (some (56, false))⟩,
  ⟨(some 60), .pick (.tmp 56) (.const (.bool true)) (.tmp 59), none⟩,
  ⟨(some 61), .mov (.tmp 60), none⟩,
  ⟨(some 62), .fld 1 (.tmp 6), (some (61, false))⟩,
  ⟨(some 63), .load none (.tmp 62), (some (61, false))⟩,
  ⟨(some 64), .bin .neq false (.tmp 63) (.const (.int .i64 17)), (some (61, false))⟩,
  ⟨(some 65), .pick (.tmp 61) (.const (.bool true)) (.tmp 64), none⟩,
  ⟨(some 66), .mov (.tmp 65), none⟩,
  ⟨(some 67), .fld 0 (.tmp 6), (some (66, false))⟩,
  ⟨(some 68), .load none (.tmp 67), (some (66, false))⟩,
  ⟨(some 69), .bin .neq false (.tmp 68) (.const (.int .i64 7)), (some (66, false))⟩,
  ⟨(some 70), .pick (.tmp 66) (.const (.bool true)) (.tmp 69), none⟩,
  ⟨(some 71), .mov (.tmp 70), none⟩,
  ⟨(some 72), .fld 4 (.tmp 6), (some (71, false))⟩,
  ⟨(some 73), .load none (.tmp 72), (some (71, false))⟩,
  ⟨(some 74), .len (.tmp 73), (some (71, false))⟩,
  ⟨(some 75), .bin .neq false (.tmp 74) (.const (.int .i64 3)), (some (71, false))⟩,
  ⟨(some 76), .pick (.tmp 71) (.const (.bool true)) (.tmp 75), none⟩])
  (.cond (.tmp 76)
  (.seq
  (.reg 0 [
  ⟨(some 0), .mov (.const (.bool false)), none⟩])
  .ret)
  .skip))
  (.seq
  (.reg 0 [
  ⟨(some 78), .load (some 2) (.tmp 1), none⟩,
  ⟨(some 79), .load (some 5) (.tmp 2), none⟩,
  ⟨(some 80), .call 18 [(.tmp 78), (.const (.int .i64 0)), (.const (.int .i64 3)), (.tmp 79)], none⟩,
  ⟨(some 77), .mov (.tmp 80), none⟩,
  ⟨(some 81), .ext (.tmp 77) 0, none⟩,
  ⟨(some 82), .ext (.tmp 77) 1, none⟩,
  ⟨(some 10), .mov (.tmp 81), none⟩,
  ⟨(some 11), .mov (.tmp 82), none⟩])
  (.seq
  (.reg 0 [
  ⟨(some 84), .load (some 2) (.tmp 1), none⟩,
  ⟨(some 85), .load (some 5) (.tmp 4), none⟩,
  ⟨(some 86), .call 18 [(.tmp 84), (.const (.int .i64 0)), (.const (.int .i64 3)), (.tmp 85)], none⟩,
  ⟨(some 83), .mov (.tmp 86), none⟩,
  ⟨(some 87), .ext (.tmp 83) 0, none⟩,
  ⟨(some 88), .ext (.tmp 83) 1, none⟩,
  ⟨(some 12), .mov (.tmp 87), none⟩,
  ⟨(some 13), .mov (.tmp 88), none⟩])
  (.seq
  (.reg 0 [
  ⟨(some 90), .load (some 2) (.tmp 1), none⟩,
  ⟨(some 91), .load (some 5) (.tmp 6), none⟩,
  ⟨(some 92), .call 18 [(.tmp 90), (.const (.int .i64 0)), (.const (.int .i64 3)), (.tmp 91)], none⟩,
  ⟨(some 89), .mov (.tmp 92), none⟩,
  ⟨(some 93), .ext (.tmp 89) 0, none⟩,
  ⟨(some 94), .ext (.tmp 89) 1, none⟩,
  ⟨(some 14), .mov (.tmp 93), none⟩,
  ⟨(some 15), .mov (.tmp 94), none⟩])
  (.seq
  (.reg 0 [
  ⟨(some 95), .mov (.tmp 10), none⟩,
  ⟨(some 96), .bin .eql false (.tmp 95) (.const (.int .i64 2)), none⟩,
  ⟨(some 97), .mov (.tmp 96), none⟩,
  ⟨(some 98), .mov (.tmp 11), (some (97, true))⟩,
  ⟨(some 99), .pick (.tmp 97) (.tmp 98) (.const (.bool false)), none⟩,
  ⟨(some 100), .mov (.tmp 99), none⟩,
  ⟨(some 101), .mov (.tmp 12), (some (100, true))⟩,
  ⟨(some 102), .bin .eql false (.tmp 101) (.const (.int .i64 3)), (some (100, true))⟩,
  ⟨(some 103), .pick (.tmp 100) (.tmp 102) (.const (.bool false)), none⟩,
  ⟨(some 104), .mov (.tmp 103), none⟩,
  ⟨(some 105), .mov (.tmp 13), (some (104, true))⟩,
  ⟨(some 106), .pick (.tmp 104) (.tmp 105) (.const (.bool false)), none⟩,
  ⟨(some 107), .mov (.tmp 106), none⟩,
  ⟨(some 108), .mov (.tmp 15), (some (107, true))⟩,
  ⟨(some 109), .not (.tmp 108), (some (107, true))⟩,
  ⟨(some 110), .pick (.tmp 107) (.tmp 109) (.const (.bool false)), none⟩,
  ⟨(some 111), .mov (.tmp 110), none⟩,
  ⟨(some 112), .load (some 2) (.tmp 1), (some (111, true))⟩,
  ⟨(some 113), .load (some 5) (.tmp 6), (some (111, true))⟩,
  ⟨(some 114), .call 17 [(.tmp 112), (.const (.int .i64 0)), (.const (.int .i64 3)), (.const (.int .i64 8)), (.tmp 113)], (some (111, true))⟩,
  ⟨(some 115), .bin .eql false (.tmp 114) (.const (.int .i64 0)), (some (111, true))⟩,
  ⟨(some 116), .pick (.tmp 111) (.tmp 115) (.const (.bool false)), none⟩,
  ⟨(some 117), .mov (.tmp 116), none⟩,
  ⟨(some 118), .load (some 2) (.tmp 1), (some (117, true))⟩,
  ⟨(some 119), .load (some 5) (.tmp 6), (some (117, true))⟩,
  ⟨(some 120), .call 17 [(.tmp 118), (.const (.int .i64 0)), (.const (.int .i64 3)), (.const (.int .i64 7)), (.tmp 119)], (some (117, true))⟩,
  ⟨(some 121), .bin .eql false (.tmp 120) (.const (.int .i64 110)), (some (117, true))⟩,
  ⟨(some 122), .pick (.tmp 117) (.tmp 121) (.const (.bool false)), none⟩,
  ⟨(some 0), .mov (.tmp 122), none⟩])
  .ret)))))))))))
def c10 : LCode :=
  (.seq
  (.reg 1 [
  ⟨(some 1), .box 0 (.tmp 0), none⟩,
  ⟨(some 2), .mov (.const (.int .i64 0)), none⟩])
  (.seq
  (.seq
  (.reg 0 [
  ⟨(some 5), .fld 0 (.tmp 1), none⟩,
  ⟨(some 6), .load none (.tmp 5), none⟩,
  ⟨(some 7), .bin .gtr false (.tmp 6) (.const (.int .i64 256)), none⟩,
  ⟨(some 8), .mov (.tmp 7), none⟩,
  ⟨(some 9), .fld 1 (.tmp 1), (some (8, false))⟩,
  ⟨(some 10), .load none (.tmp 9), (some (8, false))⟩,
  ⟨(some 11), .len (.tmp 10), (some (8, false))⟩,
  ⟨(some 12), .bin .gtr false (.tmp 11) (.const (.int .i64 2048)), (some (8, false))⟩,
  ⟨(some 13), .pick (.tmp 8) (.const (.bool true)) (.tmp 12), none⟩])
  (.cond (.tmp 13)
  (.seq
  (.reg 0 [
  ⟨(some 2), .mov (.const (.int .i64 2)), none⟩])
  .ret)
  .skip))
  (.seq
  (.seq
  (.reg 0 [
  ⟨(some 14), .fld 0 (.tmp 1), none⟩,
  ⟨(some 15), .load none (.tmp 14), none⟩,
  ⟨(some 16), .bin .lss false (.tmp 15) (.const (.int .i64 1)), none⟩])
  (.cond (.tmp 16)
  (.seq
  (.reg 0 [
  ⟨(some 2), .mov (.const (.int .i64 1)), none⟩])
  .ret)
  .skip))
  (.seq
  (.seq
  (.reg 0 [
  ⟨(some 3), .mov (.const (.int .i64 0)), none⟩])
  (.block 0
  (.loop
  (.seq
  (.seq
  (.reg 0 [
  ⟨(some 17), .mov (.tmp 3), none⟩,
  ⟨(some 18), .fld 1 (.tmp 1), none⟩,
  ⟨(some 19), .load none (.tmp 18), none⟩,
  ⟨(some 20), .len (.tmp 19), none⟩,
  ⟨(some 21), .bin .lss false (.tmp 17) (.tmp 20), none⟩])
  (.cond (.tmp 21)
  .skip
  (.exit 0)))
  (.seq
  (.block 1
  (.seq
  (.reg 1 [
  ⟨(some 24), .fld 1 (.tmp 1), none⟩,
  ⟨(some 25), .load none (.tmp 24), none⟩,
  ⟨(some 26), .mov (.tmp 3), none⟩,
  ⟨(some 27), .idx 4 (.tmp 25) (.tmp 26), none⟩,
  ⟨(some 28), .load (some 4) (.tmp 27), none⟩,
  ⟨(some 4), .alloc 0 (.agg #[.int .i64 0, .int .i64 0, .int .i64 0, .int .i64 0]), none⟩,
  ⟨none, .store 4 (.tmp 4) (.tmp 28), none⟩])
  (.seq
  (.reg 0 [
  ⟨(some 29), .load (some 2) (.tmp 1), none⟩,
  ⟨(some 30), .fld 0 (.tmp 4), none⟩,
  ⟨(some 31), .load none (.tmp 30), none⟩,
  ⟨(some 32), .call 24 [(.tmp 29), (.tmp 31)], none⟩,
  ⟨(some 33), .not (.tmp 32), none⟩,
  ⟨(some 34), .mov (.tmp 33), none⟩,
  ⟨(some 35), .load (some 2) (.tmp 1), (some (34, false))⟩,
  ⟨(some 36), .fld 1 (.tmp 4), (some (34, false))⟩,
  ⟨(some 37), .load none (.tmp 36), (some (34, false))⟩,
  ⟨(some 38), .call 24 [(.tmp 35), (.tmp 37)], (some (34, false))⟩,
  ⟨(some 39), .not (.tmp 38), (some (34, false))⟩,
  ⟨(some 40), .pick (.tmp 34) (.const (.bool true)) (.tmp 39), none⟩,
  ⟨(some 41), .mov (.tmp 40), none⟩,
  ⟨(some 42), .fld 0 (.tmp 4), (some (41, false))⟩,
  ⟨(some 43), .load none (.tmp 42), (some (41, false))⟩,
  ⟨(some 44), .fld 1 (.tmp 4), (some (41, false))⟩,
  ⟨(some 45), .load none (.tmp 44), (some (41, false))⟩,
  ⟨(some 46), .bin .eql false (.tmp 43) (.tmp 45), (some (41, false))⟩,
  ⟨(some 47), .pick (.tmp 41) (.const (.bool true)) (.tmp 46), none⟩,
  ⟨(some 48), .mov (.tmp 47), none⟩,
  ⟨(some 49), .fld 2 (.tmp 4), (some (48, false))⟩,
  ⟨(some 50), .load none (.tmp 49), (some (48, false))⟩,
  ⟨(some 51), .bin .lss false (.tmp 50) (.const (.int .i64 0)), (some (48, false))⟩,
  ⟨(some 52), .pick (.tmp 48) (.const (.bool true)) (.tmp 51), none⟩,
  ⟨(some 53), .mov (.tmp 52), none⟩,
  ⟨(some 54), .fld 2 (.tmp 4), (some (53, false))⟩,
  ⟨(some 55), .load none (.tmp 54), (some (53, false))⟩,
  ⟨(some 56), .bin .gtr false (.tmp 55) (.const (.int .i64 1073741824)), (some (53, false))⟩,
  ⟨(some 57), .pick (.tmp 53) (.const (.bool true)) (.tmp 56), none⟩,
  ⟨(some 58), .mov (.tmp 57), none⟩,
  ⟨(some 59), .fld 3 (.tmp 4), (some (58, false))⟩,
  ⟨(some 60), .load none (.tmp 59), (some (58, false))⟩,
  ⟨(some 61), .bin .lss false (.tmp 60) (.const (.int .i64 0)), (some (58, false))⟩,
  ⟨(some 62), .pick (.tmp 58) (.const (.bool true)) (.tmp 61), none⟩,
  ⟨(some 63), .mov (.tmp 62), none⟩,
  ⟨(some 64), .fld 3 (.tmp 4), (some (63, false))⟩,
  ⟨(some 65), .load none (.tmp 64), (some (63, false))⟩,
  ⟨(some 66), .bin .gtr false (.tmp 65) (.const (.int .i64 1048576)), (some (63, false))⟩,
  ⟨(some 67), .pick (.tmp 63) (.const (.bool true)) (.tmp 66), none⟩])
  (.cond (.tmp 67)
  (.seq
  (.reg 0 [
  ⟨(some 2), .mov (.const (.int .i64 1)), none⟩])
  .ret)
  .skip))))
  (.reg 0 [
  ⟨(some 22), .mov (.tmp 3), none⟩,
  ⟨(some 23), .bin .add true (.tmp 22) (.const (.int .i64 1)), none⟩,
  ⟨(some 3), .mov (.tmp 23), none⟩]))))))
  (.seq
  (.reg 0 [
  ⟨(some 2), .mov (.const (.int .i64 0)), none⟩])
  .ret)))))
def c11 : LCode :=
  (.seq
  (.reg 1 [
  ⟨(some 1), .box 0 (.tmp 0), none⟩,
  ⟨(some 2), .mov (.const (.int .i64 0)), none⟩])
  (.seq
  (.seq
  (.reg 0 [
  ⟨(some 6), .fld 0 (.tmp 1), none⟩,
  ⟨(some 7), .load none (.tmp 6), none⟩,
  ⟨(some 8), .bin .gtr false (.tmp 7) (.const (.int .i64 256)), none⟩,
  ⟨(some 9), .mov (.tmp 8), none⟩,
  ⟨(some 10), .fld 1 (.tmp 1), (some (9, false))⟩,
  ⟨(some 11), .load none (.tmp 10), (some (9, false))⟩,
  ⟨(some 12), .len (.tmp 11), (some (9, false))⟩,
  ⟨(some 13), .bin .gtr false (.tmp 12) (.const (.int .i64 2048)), (some (9, false))⟩,
  ⟨(some 14), .pick (.tmp 9) (.const (.bool true)) (.tmp 13), none⟩])
  (.cond (.tmp 14)
  (.seq
  (.reg 0 [
  ⟨(some 2), .mov (.const (.int .i64 2)), none⟩])
  .ret)
  .skip))
  (.seq
  (.seq
  (.reg 0 [
  ⟨(some 15), .fld 0 (.tmp 1), none⟩,
  ⟨(some 16), .load none (.tmp 15), none⟩,
  ⟨(some 17), .bin .lss false (.tmp 16) (.const (.int .i64 1)), none⟩])
  (.cond (.tmp 17)
  (.seq
  (.reg 0 [
  ⟨(some 2), .mov (.const (.int .i64 1)), none⟩])
  .ret)
  .skip))
  (.seq
  (.reg 0 [
  ⟨(some 18), .fn 25 [(.tmp 1)], none⟩,
  ⟨(some 3), .mov (.tmp 18), none⟩])
  (.seq
  (.seq
  (.reg 0 [
  ⟨(some 19), .fld 1 (.tmp 1), none⟩,
  ⟨(some 20), .load none (.tmp 19), none⟩,
  ⟨(some 21), .len (.tmp 20), none⟩,
  ⟨(some 22), .mov (.const (.int .i64 0)), none⟩])
  (.block 0
  (.loop
  (.seq
  (.reg 0 [
  ⟨(some 23), .bin .lss false (.tmp 22) (.tmp 21), none⟩])
  (.seq
  (.cond (.tmp 23)
  .skip
  (.exit 0))
  (.seq
  (.block 1
  (.seq
  (.reg 1 [
  ⟨(some 24), .idx 4 (.tmp 20) (.tmp 22), none⟩,
  ⟨(some 25), .load (some 4) (.tmp 24), none⟩,
  ⟨(some 5), .alloc 0 (.agg #[.int .i64 0, .int .i64 0, .int .i64 0, .int .i64 0]), none⟩,
  ⟨none, .store 4 (.tmp 5) (.tmp 25), none⟩])
  (.seq
  (.reg 0 [
  ⟨(some 26), .mov (.tmp 3), none⟩,
  ⟨(some 27), .fld 0 (.tmp 5), none⟩,
  ⟨(some 28), .load none (.tmp 27), none⟩,
  ⟨(some 29), .callv (.tmp 26) [(.tmp 28)], none⟩,
  ⟨(some 30), .not (.tmp 29), none⟩,
  ⟨(some 31), .mov (.tmp 30), none⟩,
  ⟨(some 32), .mov (.tmp 3), (some (31, false))⟩,
  ⟨(some 33), .fld 1 (.tmp 5), (some (31, false))⟩,
  ⟨(some 34), .load none (.tmp 33), (some (31, false))⟩,
  ⟨(some 35), .callv (.tmp 32) [(.tmp 34)], (some (31, false))⟩,
  ⟨(some 36), .not (.tmp 35), (some (31, false))⟩,
  ⟨(some 37), .pick (.tmp 31) (.const (.bool true)) (.tmp 36), none⟩,
  ⟨(some 38), .mov (.tmp 37), none⟩,
  ⟨(some 39), .fld 0 (.tmp 5), (some (38, false))⟩,
  ⟨(some 40), .load none (.tmp 39), (some (38, false))⟩,
  ⟨(some 41), .fld 1 (.tmp 5), (some (38, false))⟩,
  ⟨(some 42), .load none (.tmp 41), (some (38, false))⟩,
  ⟨(some 43), .bin .eql false (.tmp 40) (.tmp 42), (some (38, false))⟩,
  ⟨(some 44), .pick (.tmp 38) (.const (.bool true)) (.tmp 43), none⟩,
  ⟨(some 45), .mov (.tmp 44), none⟩,
  ⟨(some 46), .fld 2 (.tmp 5), (some (45, false))⟩,
  ⟨(some 47), .load none (.tmp 46), (some (45, false))⟩,
  ⟨(some 48), .bin .lss false (.tmp 47) (.const (.int .i64 0)), (some (45, false))⟩,
  ⟨(some 49), .pick (.tmp 45) (.const (.bool true)) (.tmp 48), none⟩,
  ⟨(some 50), .mov (.tmp 49), none⟩,
  ⟨(some 51), .fld 2 (.tmp 5), (some (50, false))⟩,
  ⟨(some 52), .load none (.tmp 51), (some (50, false))⟩,
  ⟨(some 53), .bin .gtr false (.tmp 52) (.const (.int .i64 1073741824)), (some (50, false))⟩,
  ⟨(some 54), .pick (.tmp 50) (.const (.bool true)) (.tmp 53), none⟩,
  ⟨(some 55), .mov (.tmp 54), none⟩,
  ⟨(some 56), .fld 3 (.tmp 5), (some (55, false))⟩,
  ⟨(some 57), .load none (.tmp 56), (some (55, false))⟩,
  ⟨(some 58), .bin .lss false (.tmp 57) (.const (.int .i64 0)), (some (55, false))⟩,
  ⟨(some 59), .pick (.tmp 55) (.const (.bool true)) (.tmp 58), none⟩,
  ⟨(some 60), .mov (.tmp 59), none⟩,
  ⟨(some 61), .fld 3 (.tmp 5), (some (60, false))⟩,
  ⟨(some 62), .load none (.tmp 61), (some (60, false))⟩,
  ⟨(some 63), .bin .gtr false (.tmp 62) (.const (.int .i64 1048576)), (some (60, false))⟩,
  ⟨(some 64), .pick (.tmp 60) (.const (.bool true)) (.tmp 63), none⟩])
  (.cond (.tmp 64)
  (.seq
  (.reg 0 [
  ⟨(some 2), .mov (.const (.int .i64 1)), none⟩])
  .ret)
  .skip))))
  (.reg 0 [
  ⟨(some 65), .bin .add true (.tmp 22) (.const (.int .i64 1)), none⟩,
  ⟨(some 22), .mov (.tmp 65), none⟩])))))))
  (.seq
  (.reg 0 [
  ⟨(some 2), .mov (.const (.int .i64 0)), none⟩])
  .ret))))))
def c12 : LCode :=
  (.seq
  (.reg 1 [
  ⟨(some 4), .box 0 (.tmp 0), none⟩,
  ⟨(some 8), .mov (.const (.bool false)), none⟩])
  (.seq
  (.reg 0 [
  ⟨(some 9), .load (some 2) (.tmp 4), none⟩,
  ⟨(some 10), .call 10 [(.tmp 9)], none⟩,
  ⟨(some 11), .bin .eql false (.tmp 10) (.const (.int .i64 0)), none⟩,
  ⟨(some 12), .mov (.tmp 11), none⟩,
  ⟨(some 13), .load (some 2) (.tmp 4), (some (12, true))⟩,
  ⟨(some 14), .mov (.tmp 1), (some (12, true))⟩,
  ⟨(some 15), .call 24 [(.tmp 13), (.tmp 14)], (some (12, true))⟩,
  ⟨(some 16), .pick (.tmp 12) (.tmp 15) (.const (.bool false)), none⟩,
  ⟨(some 17), .mov (.tmp 16), none⟩,
  ⟨(some 18), .load (some 2) (.tmp 4), (some (17, true))⟩,
  ⟨(some 19), .mov (.tmp 2), (some (17, true))⟩,
  ⟨(some 20), .call 24 [(.tmp 18), (.tmp 19)], (some (17, true))⟩,
  ⟨(some 21), .pick (.tmp 17) (.tmp 20) (.const (.bool false)), none⟩,
  ⟨(some 22), .mov (.tmp 21), none⟩,
  ⟨(some 23), .mov (.tmp 1), (some (22, true))⟩,
  ⟨(some 24), .mov (.tmp 2), (some (22, true))⟩,
  ⟨(some 25), .bin .neq false (.tmp 23) (.tmp 24), (some (22, true))⟩,
  ⟨(some 26), .pick (.tmp 22) (.tmp 25) (.const (.bool false)), none⟩,
  ⟨(some 27), .mov (.tmp 26), none⟩,
  ⟨(some 28), .mov (.tmp 3), (some (27, true))⟩,
  ⟨(some 29), .bin .geq false (.tmp 28) (.const (.int .i64 0)), (some (27, true))⟩,
  ⟨(some 30), .pick (.tmp 27) (.tmp 29) (.const (.bool false)), none⟩,
  ⟨(some 31), .mov (.tmp 30), none⟩,
  ⟨(some 32), .mov (.tmp 3), (some (31, true))⟩,
  ⟨(some 33), .bin .leq false (.tmp 32) (.const (.int .i64 2199023255552)), (some (31, true))⟩,
  ⟨(some 34), .pick (.tmp 31) (.tmp 33) (.const (.bool false)), none⟩,
  ⟨(some 8), .mov (.tmp 34), none⟩])
  .ret))
def c13l1 : LCode :=
  .seq
  (.reg 0 [
  ⟨(some 56), .bin .lss false (.tmp 55) (.tmp 54), none⟩])
  (.seq
  (.cond (.tmp 56)
  .skip
  (.exit 2))
  (.seq
  (.block 3
  (.seq
  (.reg 0 [
  ⟨(some 57), .mov (.tmp 55), none⟩,
  ⟨(some 14), .mov (.tmp 57), none⟩])
  (.tail 18 0 [
  ⟨(some 58), .mov (.tmp 11), none⟩,
  ⟨(some 59), .nilc (.tmp 58), none⟩,
  ⟨(some 60), .fld 4 (.tmp 59), none⟩,
  ⟨(some 61), .load none (.tmp 60), none⟩,
  ⟨(some 62), .mov (.tmp 14), none⟩,
  ⟨(some 63), .idx 1 (.tmp 61) (.tmp 62), none⟩,
  ⟨(some 64), .load none (.tmp 63), none⟩,
  ⟨(some 65), .mov (.tmp 13), none⟩,
  ⟨(some 66), .mov (.tmp 14), none⟩,
  ⟨(some 67), .idx 1 (.tmp 65) (.tmp 66), none⟩,
  ⟨(some 68), .load none (.tmp 67), none⟩,
  ⟨(some 69), .mov (.tmp 13), none⟩,
  ⟨(some 70), .mov (.tmp 2), none⟩,
  ⟨(some 71), .idx 1 (.tmp 69) (.tmp 70), none⟩,
  ⟨(some 72), .load none (.tmp 71), none⟩,
  ⟨(some 73), .minmax false (.tmp 68) (.tmp 72), none⟩,
  ⟨(some 74), .bin .add true (.tmp 64) (.tmp 73), none⟩,
  ⟨(some 75), .idx 1 (.tmp 61) (.tmp 62), none⟩,
  ⟨none, .store 1 (.tmp 75) (.tmp 74), none⟩])))
  (.reg 0 [
  ⟨(some 76), .bin .add true (.tmp 55) (.const (.int .i64 1)), none⟩,
  ⟨(some 55), .mov (.tmp 76), none⟩])))
def c13l2 : LCode :=
  .seq
  (.seq
  (.reg 0 [
  ⟨(some 77), .mov (.tmp 15), none⟩,
  ⟨(some 78), .bin .gtr false (.tmp 77) (.const (.int .i64 0)), none⟩,
  ⟨(some 79), .mov (.tmp 78), none⟩,
  ⟨(some 80), .mov (.tmp 12), (some (79, true))⟩,
  ⟨(some 81), .mov (.tmp 3), (some (79, true))⟩,
  ⟨(some 82), .bin .lss false (.tmp 80) (.tmp 81), (some (79, true))⟩,
  ⟨(some 83), .pick (.tmp 79) (.tmp 82) (.const (.bool false)), none⟩])
  (.cond (.tmp 83)
  .skip
  (.exit 4)))
  (.block 5
  (.seq
  (.reg 0 [
  ⟨(some 84), .mov (.tmp 11), none⟩,
  ⟨(some 85), .mov (.tmp 1), none⟩,
  ⟨(some 86), .mov (.tmp 2), none⟩,
  ⟨(some 87), .mov (.tmp 3), none⟩,
  ⟨(some 88), .mov (.tmp 12), none⟩,
  ⟨(some 89), .bin .sub true (.tmp 87) (.tmp 88), none⟩,
  ⟨(some 90), .call 30 [(.tmp 84), (.tmp 85), (.tmp 86), (.tmp 89)], none⟩,
  ⟨(some 15), .mov (.tmp 90), none⟩])
  (.reg 0 [
  ⟨(some 91), .mov (.tmp 12), none⟩,
  ⟨(some 92), .mov (.tmp 15), none⟩,
  ⟨(some 93), .bin .add true (.tmp 91) (.tmp 92), none⟩,
  ⟨(some 12), .mov (.tmp 93), none⟩])))
def c13l0 : LCode :=
  .seq
  (.seq
  (.reg 0 [
  ⟨(some 35), .mov (.tmp 12), none⟩,
  ⟨(some 36), .mov (.tmp 3), none⟩,
  ⟨(some 37), .bin .lss false (.tmp 35) (.tmp 36), none⟩])
  (.cond (.tmp 37)
  .skip
  (.exit 0)))
  (.block 1
  (.seq
  (.reg 0 [
  ⟨(some 38), .mov (.tmp 11), none⟩,
  ⟨(some 39), .mov (.tmp 1), none⟩,
  ⟨(some 40), .call 28 [(.tmp 38), (.tmp 39)], none⟩,
  ⟨(some 13), .mov (.tmp 40), none⟩])
  (.seq
  (.seq
  (.reg 0 [
  ⟨(some 41), .mov (.tmp 13), none⟩,
  ⟨(some 42), .mov (.tmp 2), none⟩,
  ⟨(some 43), .idx 1 (.tmp 41) (.tmp 42), none⟩,
  ⟨(some 44), .load none (.tmp 43), none⟩,
  ⟨(some 45), .bin .eql false (.tmp 44) (.const (.int .i64 4611686018427387904)), none⟩])
  (.cond (.tmp 45)
  (.seq
  (.reg 0 [
  ⟨(some 46), .mov (.tmp 11), none⟩,
  ⟨(some 47), .mov (.tmp 12), none⟩,
  ⟨(some 48), .mov (.tmp 13), none⟩,
  ⟨(some 49), .call 29 [(.tmp 46), (.tmp 47), (.tmp 48)], none⟩,
  ⟨none, .store 5 (.tmp 8) (.tmp 49), none⟩,
  ⟨(some 9), .mov (.const (.int .i64 0)), none⟩])
  .ret)
  .skip))
  (.seq
  (.seq
  (.reg 0 [
  ⟨(some 50), .mov (.tmp 11), none⟩,
  ⟨(some 51), .nilc (.tmp 50), none⟩,
  ⟨(some 52), .fld 4 (.tmp 51), none⟩,
  ⟨(some 53), .load none (.tmp 52), none⟩,
  ⟨(some 54), .len (.tmp 53), none⟩,
  ⟨(some 55), .mov (.const (.int .i64 0)), none⟩])
  (.block 2
  (.loop c13l1)))
  (.seq
  (.reg 0 [
  ⟨(some 15), .mov (.const (.int .i64 1)), none⟩])
  (.block 4
  (.loop c13l2)))))))
def c13 : LCode :=
  (.seq
  (.reg 2 [
  ⟨(some 4), .box 0 (.tmp 0), none⟩,
  ⟨(some 8), .alloc 1 (.agg #[.int .i64 0, .int .i64 0, .slice none 0 0, .slice none 0 0, .slice none 0 0]), none⟩,
  ⟨(some 9), .mov (.const (.int .i64 0)), none⟩])
  (.seq
  (.seq
  (.reg 0 [
  ⟨(some 16), .load (some 2) (.tmp 4), none⟩,
  ⟨(some 17), .call 11 [(.tmp 16)], none⟩,
  ⟨(some 10), .mov (.tmp 17), none⟩])
  (.seq
  (.reg 0 [
  ⟨(some 18), .mov (.tmp 10), none⟩,
  ⟨(some 19), .bin .neq false (.tmp 18) (.const (.int .i64 0)), none⟩])
  (.cond (.tmp 19)
  (.seq
  (.reg 0 [
  ⟨(some 20), .build [.int .i64 0, .int .i64 0, .slice none 0 0, .slice none 0 0, .slice none 0 0] [], none⟩,
  ⟨(some 21), .mov (.tmp 10), none⟩,
  ⟨none, .store 5 (.tmp 8) (.tmp 20), none⟩,
  ⟨(some 9), .mov (.tmp 21), none⟩])
  .ret)
  .skip)))
  (.seq
  (.seq
  (.reg 0 [
  ⟨(some 22), .load (some 2) (.tmp 4), none⟩,
  ⟨(some 23), .mov (.tmp 1), none⟩,
  ⟨(some 24), .mov (.tmp 2), none⟩,
  ⟨(some 25), .mov (.tmp 3), none⟩,
  ⟨(some 26), .call 26 [(.tmp 22), (.tmp 23), (.tmp 24), (.tmp 25)], none⟩,
  ⟨(some 27), .not (.tmp 26), none⟩])
  (.cond (.tmp 27)
  (.seq
  (.reg 0 [
  ⟨(some 28), .build [.int .i64 0, .int .i64 0, .slice none 0 0, .slice none 0 0, .slice none 0 0] [], none⟩,
  ⟨none, .store 5 (.tmp 8) (.tmp 28), none⟩,
  ⟨(some 9), .mov (.const (.int .i64 1)), none⟩])
  .ret)
  .skip))
  (.seq
  (.tree 1
  (.take 0 [5, 6] ⟨(some 29), .load (some 2) (.tmp 4), none⟩
  (.take 1 [2, 3, 4, 5, 6] ⟨(some 30), .fld 1 (.tmp 4), none⟩
  (.take 2 [3, 4, 5, 6] ⟨(some 31), .load none (.tmp 30), none⟩
  (.take 3 [4, 5, 6] ⟨(some 32), .len (.tmp 31), none⟩
  (.alt 4 ⟨(some 33), .mk 0 1 8 [.int .i64 0] (.tmp 32) (.tmp 32), none⟩ true
  (.alt 5 ⟨(some 34), .call 27 [(.tmp 29), (.tmp 33)], none⟩ false
  (.take 6 [] ⟨(some 11), .mov (.tmp 34), none⟩
  .done)
  .none)
  .none))))))
  (.seq
  (.reg 0 [
  ⟨(some 12), .mov (.const (.int .i64 0)), none⟩])
  (.seq
  (.block 0
  (.loop c13l0))
  (.seq
  (.reg 0 [
  ⟨(some 94), .mov (.tmp 11), none⟩,
  ⟨(some 95), .mov (.tmp 12), none⟩,
  ⟨(some 96), .call 29 [(.tmp 94), (.tmp 95), (.const (.slice none 0 0))], none⟩,
  ⟨none, .store 5 (.tmp 8) (.tmp 96), none⟩,
  ⟨(some 9), .mov (.const (.int .i64 0)), none⟩])
  .ret)))))))
def c14 : LCode :=
  (.seq
  (.reg 1 [
  ⟨(some 2), .box 0 (.tmp 0), none⟩,
  ⟨(some 4), .mov (.const (.bool false)), none⟩])
  (.seq
  (.seq
  (.reg 0 [
  ⟨(some 6), .fld 0 (.tmp 2), none⟩,
  ⟨(some 7), .load none (.tmp 6), none⟩,
  ⟨(some 8), .bin .gtr false (.tmp 7) (.const (.int .i64 12)), none⟩,
  ⟨(some 9), .mov (.tmp 8), none⟩,
  ⟨(some 10), .fld 1 (.tmp 2), (some (9, false))⟩,
  ⟨(some 11), .load none (.tmp 10), (some (9, false))⟩,
  ⟨(some 12), .len (.tmp 11), (some (9, false))⟩,
  ⟨(some 13), .bin .gtr false (.tmp 12) (.const (.int .i64 30)), (some (9, false))⟩,
  ⟨(some 14), .pick (.tmp 9) (.const (.bool true)) (.tmp 13), none⟩,
  ⟨(some 15), .mov (.tmp 14), none⟩,
  ⟨(some 16), .load (some 2) (.tmp 2), (some (15, false))⟩,
  ⟨(some 17), .call 10 [(.tmp 16)], (some (15, false))⟩,
  ⟨(some 18), .bin .neq false (.tmp 17) (.const (.int .i64 0)), (some (15, false))⟩,
  ⟨(some 19), .pick (.tmp 15) (.const (.bool true)) (.tmp 18), none⟩])
  (.cond (.tmp 19)
  (.seq
  (.reg 0 [
  ⟨(some 4), .mov (.const (.bool false)), none⟩])
  .ret)
  .skip))
  (.seq
  (.seq
  (.reg 0 [
  ⟨(some 5), .mov (.const (.int .i64 0)), none⟩])
  (.block 0
  (.loop
  (.seq
  (.seq
  (.reg 0 [
  ⟨(some 20), .mov (.tmp 5), none⟩,
  ⟨(some 21), .fld 1 (.tmp 2), none⟩,
  ⟨(some 22), .load none (.tmp 21), none⟩,
  ⟨(some 23), .len (.tmp 22), none⟩,
  ⟨(some 24), .bin .lss false (.tmp 20) (.tmp 23), none⟩])
  (.cond (.tmp 24)
  .skip
  (.exit 0)))
  (.seq
  (.block 1
  (.seq
  (.reg 0 [
  ⟨(some 27), .fld 1 (.tmp 2), none⟩,
  ⟨(some 28), .load none (.tmp 27), none⟩,
  ⟨(some 29), .mov (.tmp 5), none⟩,
  ⟨(some 30), .idx 4 (.tmp 28) (.tmp 29), none⟩,
  ⟨(some 31), .fld 2 (.tmp 30), none⟩,
  ⟨(some 32), .load none (.tmp 31), none⟩,
  ⟨(some 33), .mov (.tmp 1), none⟩,
  ⟨(some 34), .bin .gtr false (.tmp 32) (.tmp 33), none⟩])
  (.cond (.tmp 34)
  (.seq
  (.reg 0 [
  ⟨(some 4), .mov (.const (.bool false)), none⟩])
  .ret)
  .skip)))
  (.reg 0 [
  ⟨(some 25), .mov (.tmp 5), none⟩,
  ⟨(some 26), .bin .add true (.tmp 25) (.const (.int .i64 1)), none⟩,
  ⟨(some 5), .mov (.tmp 26), none⟩]))))))
  (.seq
  (.reg 0 [
  ⟨(some 4), .mov (.const (.bool true)), none⟩])
  .ret))))
def c15l1 : LCode :=
  .seq
  (.seq
  (.reg 0 [
  ⟨(some 39), .mov (.tmp 13), none⟩,
  ⟨(some 40), .mov (.tmp 1), none⟩,
  ⟨(some 41), .bin .neq false (.tmp 39) (.tmp 40), none⟩])
  (.cond (.tmp 41)
  .skip
  (.exit 2)))
  (.block 3
  (.seq
  (.reg 0 [
  ⟨(some 42), .fld 1 (.tmp 11), none⟩,
  ⟨(some 43), .load none (.tmp 42), none⟩,
  ⟨(some 44), .mov (.tmp 13), none⟩,
  ⟨(some 45), .idx 1 (.tmp 43) (.tmp 44), none⟩,
  ⟨(some 46), .load none (.tmp 45), none⟩,
  ⟨(some 14), .mov (.tmp 46), none⟩])
  (.seq
  (.reg 0 [
  ⟨(some 47), .mov (.tmp 14), none⟩,
  ⟨(some 48), .bin .gtr false (.tmp 47) (.const (.int .i64 0)), none⟩])
  (.cond (.tmp 48)
  (.seq
  (.qui 0 [
  ⟨(some 49), .mov (.tmp 12), none⟩,
  ⟨(some 50), .fld 1 (.tmp 4), none⟩,
  ⟨(some 51), .load none (.tmp 50), none⟩,
  ⟨(some 52), .mov (.tmp 14), none⟩,
  ⟨(some 53), .bin .sub true (.tmp 52) (.const (.int .i64 1)), none⟩,
  ⟨(some 54), .idx 4 (.tmp 51) (.tmp 53), none⟩,
  ⟨(some 55), .fld 2 (.tmp 54), none⟩,
  ⟨(some 56), .load none (.tmp 55), none⟩,
  ⟨(some 57), .mov (.tmp 9), none⟩,
  ⟨(some 58), .mov (.tmp 14), none⟩,
  ⟨(some 59), .bin .sub true (.tmp 58) (.const (.int .i64 1)), none⟩,
  ⟨(some 60), .idx 1 (.tmp 57) (.tmp 59), none⟩,
  ⟨(some 61), .load none (.tmp 60), none⟩,
  ⟨(some 62), .bin .sub true (.tmp 56) (.tmp 61), none⟩,
  ⟨(some 63), .minmax false (.tmp 49) (.tmp 62), none⟩,
  ⟨(some 12), .mov (.tmp 63), none⟩])
  (.reg 0 [
  ⟨(some 64), .fld 1 (.tmp 4), none⟩,
  ⟨(some 65), .load none (.tmp 64), none⟩,
  ⟨(some 66), .mov (.tmp 14), none⟩,
  ⟨(some 67), .bin .sub true (.tmp 66) (.const (.int .i64 1)), none⟩,
  ⟨(some 68), .idx 4 (.tmp 65) (.tmp 67), none⟩,
  ⟨(some 69), .fld 0 (.tmp 68), none⟩,
  ⟨(some 70), .load none (.tmp 69), none⟩,
  ⟨(some 13), .mov (.tmp 70), none⟩]))
  (.seq
  (.reg 0 [
  ⟨(some 71), .mov (.tmp 12), none⟩,
  ⟨(some 72), .mov (.tmp 9), none⟩,
  ⟨(some 73), .mov (.tmp 14), none⟩,
  ⟨(some 74), .neg (.tmp 73), none⟩,
  ⟨(some 75), .bin .sub true (.tmp 74) (.const (.int .i64 1)), none⟩,
  ⟨(some 76), .idx 1 (.tmp 72) (.tmp 75), none⟩,
  ⟨(some 77), .load none (.tmp 76), none⟩,
  ⟨(some 78), .minmax false (.tmp 71) (.tmp 77), none⟩,
  ⟨(some 12), .mov (.tmp 78), none⟩])
  (.reg 0 [
  ⟨(some 79), .fld 1 (.tmp 4), none⟩,
  ⟨(some 80), .load none (.tmp 79), none⟩,
  ⟨(some 81), .mov (.tmp 14), none⟩,
  ⟨(some 82), .neg (.tmp 81), none⟩,
  ⟨(some 83), .bin .sub true (.tmp 82) (.const (.int .i64 1)), none⟩,
  ⟨(some 84), .idx 4 (.tmp 80) (.tmp 83), none⟩,
  ⟨(some 85), .fld 1 (.tmp 84), none⟩,
  ⟨(some 86), .load none (.tmp 85), none⟩,
  ⟨(some 13), .mov (.tmp 86), none⟩]))))))
def c15l2 : LCode :=
  .seq
  (.seq
  (.reg 0 [
  ⟨(some 88), .mov (.tmp 15), none⟩,
  ⟨(some 89), .mov (.tmp 1), none⟩,
  ⟨(some 90), .bin .neq false (.tmp 88) (.tmp 89), none⟩])
  (.cond (.tmp 90)
  .skip
  (.exit 4)))
  (.block 5
  (.seq
  (.reg 0 [
  ⟨(some 91), .fld 1 (.tmp 11), none⟩,
  ⟨(some 92), .load none (.tmp 91), none⟩,
  ⟨(some 93), .mov (.tmp 15), none⟩,
  ⟨(some 94), .idx 1 (.tmp 92) (.tmp 93), none⟩,
  ⟨(some 95), .load none (.tmp 94), none⟩,
  ⟨(some 16), .mov (.tmp 95), none⟩])
  (.seq
  (.reg 0 [
  ⟨(some 96), .mov (.tmp 16), none⟩,
  ⟨(some 97), .bin .gtr false (.tmp 96) (.const (.int .i64 0)), none⟩])
  (.cond (.tmp 97)
  (.seq
  (.reg 0 [
  ⟨(some 98), .mov (.tmp 9), none⟩,
  ⟨(some 99), .mov (.tmp 16), none⟩,
  ⟨(some 100), .bin .sub true (.tmp 99) (.const (.int .i64 1)), none⟩,
  ⟨(some 101), .mov (.tmp 9), none⟩,
  ⟨(some 102), .mov (.tmp 16), none⟩,
  ⟨(some 103), .bin .sub true (.tmp 102) (.const (.int .i64 1)), none⟩,
  ⟨(some 104), .idx 1 (.tmp 101) (.tmp 103), none⟩,
  ⟨(some 105), .load none (.tmp 104), none⟩,
  ⟨(some 106), .mov (.tmp 12), none⟩,
  ⟨(some 107), .bin .add true (.tmp 105) (.tmp 106), none⟩,
  ⟨(some 108), .idx 1 (.tmp 98) (.tmp 100), none⟩,
  ⟨none, .store 1 (.tmp 108) (.tmp 107), none⟩])
  (.reg 0 [
  ⟨(some 109), .fld 1 (.tmp 4), none⟩,
  ⟨(some 110), .load none (.tmp 109), none⟩,
  ⟨(some 111), .mov (.tmp 16), none⟩,
  ⟨(some 112), .bin .sub true (.tmp 111) (.const (.int .i64 1)), none⟩,
  ⟨(some 113), .idx 4 (.tmp 110) (.tmp 112), none⟩,
  ⟨(some 114), .fld 0 (.tmp 113), none⟩,
  ⟨(some 115), .load none (.tmp 114), none⟩,
  ⟨(some 15), .mov (.tmp 115), none⟩]))
  (.seq
  (.reg 0 [
  ⟨(some 116), .mov (.tmp 9), none⟩,
  ⟨(some 117), .mov (.tmp 16), none⟩,
  ⟨(some 118), .neg (.tmp 117), none⟩,
  ⟨(some 119), .bin .sub true (.tmp 118) (.const (.int .i64 1)), none⟩,
  ⟨(some 120), .mov (.tmp 9), none⟩,
  ⟨(some 121), .mov (.tmp 16), none⟩,
  ⟨(some 122), .neg (.tmp 121), none⟩,
  ⟨(some 123), .bin .sub true (.tmp 122) (.const (.int .i64 1)), none⟩,
  ⟨(some 124), .idx 1 (.tmp 120) (.tmp 123), none⟩,
  ⟨(some 125), .load none (.tmp 124), none⟩,
  ⟨(some 126), .mov (.tmp 12), none⟩,
  ⟨(some 127), .bin .sub true (.tmp 125) (.tmp 126), none⟩,
  ⟨(some 128), .idx 1 (.tmp 116) (.tmp 119), none⟩,
  ⟨none, .store 1 (.tmp 128) (.tmp 127), none⟩])
  (.reg 0 [
  ⟨(some 129), .fld 1 (.tmp 4), none⟩,
  ⟨(some 130), .load none (.tmp 129), none⟩,
  ⟨(some 131), .mov (.tmp 16), none⟩,
  ⟨(some 132), .neg (.tmp 131), none⟩,
  ⟨(some 133), .bin .sub true (.tmp 132) (.const (.int .i64 1)), none⟩,
  ⟨(some 134), .idx 4 (.tmp 130) (.tmp 133), none⟩,
  ⟨(some 135), .fld 1 (.tmp 134), none⟩,
  ⟨(some 136), .load none (.tmp 135), none⟩,
  ⟨(some 15), .mov (.tmp 136), none⟩]))))))
def c15l0 : LCode :=
  .seq
  (.seq
  (.reg 0 [
  ⟨(some 21), .mov (.tmp 10), none⟩,
  ⟨(some 22), .mov (.tmp 3), none⟩,
  ⟨(some 23), .bin .lss false (.tmp 21) (.tmp 22), none⟩])
  (.cond (.tmp 23)
  .skip
  (.exit 0)))
  (.block 1
  (.seq
  (.reg 1 [
  ⟨(some 24), .load (some 2) (.tmp 4), none⟩,
  ⟨(some 25), .mov (.tmp 1), none⟩,
  ⟨(some 26), .mov (.tmp 9), none⟩,
  ⟨(some 27), .call 31 [(.tmp 24), (.tmp 25), (.tmp 26)], none⟩,
  ⟨(some 11), .alloc 0 (.agg #[.slice none 0 0, .slice none 0 0]), none⟩,
  ⟨none, .store 2 (.tmp 11) (.tmp 27), none⟩])
  (.seq
  (.seq
  (.tree 0
  (.take 0 [1, 3, 4, 6] ⟨(some 28), .fld 0 (.tmp 11), none⟩
  (.take 1 [3, 4, 6] ⟨(some 29), .load none (.tmp 28), none⟩
  (.take 2 [3, 4, 6] ⟨(some 30), .mov (.tmp 2), none⟩
  (.take 3 [4, 6] ⟨(some 31), .idx 1 (.tmp 29) (.tmp 30), none⟩
  (.take 4 [6] ⟨(some 32), .load none (.tmp 31), none⟩
  (.alt 5 ⟨(some 33), .call 32 [], none⟩ true
  (.take 6 [] ⟨(some 34), .bin .eql false (.tmp 32) (.tmp 33), none⟩
  .done)
  .none)))))))
  (.cond (.tmp 34)
  (.exit 0)
  .skip))
  (.seq
  (.reg 0 [
  ⟨(some 35), .mov (.tmp 3), none⟩,
  ⟨(some 36), .mov (.tmp 10), none⟩,
  ⟨(some 37), .bin .sub true (.tmp 35) (.tmp 36), none⟩,
  ⟨(some 12), .mov (.tmp 37), none⟩])
  (.seq
  (.seq
  (.reg 0 [
  ⟨(some 38), .mov (.tmp 2), none⟩,
  ⟨(some 13), .mov (.tmp 38), none⟩])
  (.block 2
  (.loop c15l1)))
  (.seq
  (.seq
  (.reg 0 [
  ⟨(some 87), .mov (.tmp 2), none⟩,
  ⟨(some 15), .mov (.tmp 87), none⟩])
  (.block 4
  (.loop c15l2)))
  (.reg 0 [
  ⟨(some 137), .mov (.tmp 10), none⟩,
  ⟨(some 138), .mov (.tmp 12), none⟩,
  ⟨(some 139), .bin .add true (.tmp 137) (.tmp 138), none⟩,
  ⟨(some 10), .mov (.tmp 139), none⟩])))))))
def c15 : LCode :=
  (.seq
  (.reg 2 [
  ⟨(some 4), .box 0 (.tmp 0), none⟩,
  ⟨(some 8), .alloc 1 (.agg #[.int .i64 0, .int .i64 0, .slice none 0 0, .slice none 0 0, .slice none 0 0]), none⟩])
  (.seq
  (.reg 1 [
  ⟨(some 17), .fld 1 (.tmp 4), none⟩,
  ⟨(some 18), .load none (.tmp 17), none⟩,
  ⟨(some 19), .len (.tmp 18), none⟩,
  ⟨(some 20), .mk 0 1 8 [.int .i64 0] (.tmp 19) (.tmp 19), none⟩,
  ⟨(some 9), .mov (.tmp 20), none⟩])
  (.seq
  (.reg 0 [
  ⟨(some 10), .mov (.const (.int .i64 0)), none⟩])
  (.seq
  (.block 0
  (.loop c15l0))
  (.seq
  (.reg 0 [
  ⟨(some 140), .mov (.tmp 10), none⟩,
  ⟨(some 141), .load (some 2) (.tmp 4), none⟩,
  ⟨(some 142), .mov (.tmp 9), none⟩,
  ⟨(some 143), .call 22 [(.tmp 141), (.tmp 142)], none⟩,
  ⟨(some 144), .mov (.tmp 9), none⟩,
  ⟨(some 145), .build [.int .i64 0, .int .i64 0, .slice none 0 0, .slice none 0 0, .slice none 0 0] [(0, 1, (.tmp 140)), (1, 1, (.tmp 143)), (2, 1, (.tmp 144))], none⟩,
  ⟨none, .store 5 (.tmp 8) (.tmp 145), none⟩])
  .ret)))))
def c16 : LCode :=
  (.seq
  (.reg 2 [
  ⟨(some 5), .box 0 (.tmp 0), none⟩,
  ⟨(some 9), .box 1 (.tmp 4), none⟩,
  ⟨(some 10), .mov (.const (.int .i64 0)), none⟩])
  (.seq
  (.reg 0 [
  ⟨(some 13), .load (some 2) (.tmp 5), none⟩,
  ⟨(some 14), .mov (.tmp 1), none⟩,
  ⟨(some 15), .mov (.tmp 2), none⟩,
  ⟨(some 16), .fld 2 (.tmp 9), none⟩,
  ⟨(some 17), .load none (.tmp 16), none⟩,
  ⟨(some 18), .call 20 [(.tmp 13), (.tmp 14), (.tmp 15), (.tmp 17)], none⟩,
  ⟨(some 11), .mov (.tmp 18), none⟩])
  (.seq
  (.seq
  (.tree 0
  (.take 0 [1, 2, 3, 4, 5, 6, 7, 8, 9, 10, 11, 12, 13, 14, 15, 16, 17, 18, 19, 20, 21, 22, 23, 24, 25, 26, 27, 28, 29, 30, 31, 32, 33, 34, 35, 36, 37, 38] ⟨(some 19), .mov (.tmp 11), none⟩
  (.take 1 [2, 3, 4, 5, 6, 7, 8, 9, 10, 11, 12, 13, 14, 15, 16, 17, 18, 19, 20, 21, 22, 23, 24, 25, 26, 27, 28, 29, 30, 31, 32, 33, 34, 35, 36, 37, 38] ⟨(some 20), .not (.tmp 19), none⟩
  (.take 2 [3, 4, 5, 6, 7, 8, 9, 10, 11, 12, 13, 14, 15, 16, 17, 18, 19, 20, 21, 22, 23, 24, 25, 26, 27, 28, 29, 30, 31, 32, 33, 34, 35, 36, 37, 38] ⟨(some 21), .mov (.tmp 20), none⟩
  (.take 3 [4, 5, 6, 7, 8, 9, 10, 11, 12, 13, 14, 15, 16, 17, 18, 19, 20, 21, 22, 23, 24, 25, 26, 27, 28, 29, 30, 31, 32, 33, 34, 35, 36, 37, 38] ⟨(some 22), .fld 0 (.tmp 9), (some (21, false))⟩
  (.take 4 [5, 6, 7, 8, 9, 10, 11, 12, 13, 14, 15, 16, 17, 18, 19, 20, 21, 22, 23, 24, 25, 26, 27, 28, 29, 30, 31, 32, 33, 34, 35, 36, 37, 38] ⟨(some 23), .load none (.tmp 22), (some (21, false))⟩
  (.take 5 [6, 7, 8, 9, 10, 11, 12, 13, 14, 15, 16, 17, 18, 19, 20, 21, 22, 23, 24, 25, 26, 27, 28, 29, 30, 31, 32, 33, 34, 35, 36, 37, 38] ⟨(some 24), .bin .lss false (.tmp 23) (.const (.int .i64 0)), (some (21, false))⟩
  (.take 6 [7, 8, 9, 10, 11, 12, 13, 14, 15, 16, 17, 18, 19, 20, 21, 22, 23, 24, 25, 26, 27, 28, 29, 30, 31, 32, 33, 34, 35, 36, 37, 38] ⟨(some 25), .pick (.tmp 21) (.const (.bool true)) (.tmp 24), none⟩
  (.take 7 [8, 9, 10, 11, 12, 13, 14, 15, 16, 17, 18, 19, 20, 21, 22, 23, 24, 25, 26, 27, 28, 29, 30, 31, 32, 33, 34, 35, 36, 37, 38] ⟨(some 26), .mov (.tmp 25), none⟩
  (.take 8 [9, 11, 12, 13, 14, 15, 16, 17, 18, 19, 20, 21, 22, 23, 24, 25, 26, 27, 28, 29, 30, 31, 32, 33, 34, 35, 36, 37, 38] ⟨(some 27), .fld 0 (.tmp 9), (some (26, false))⟩
  (.take 9 [11, 12, 13, 14, 15, 16, 17, 18, 19, 20, 21, 22, 23, 24, 25, 26, 27, 28, 29, 30, 31, 32, 33, 34, 35, 36, 37, 38] ⟨(some 28), .load none (.tmp 27), (some (26, false))⟩
  (.take 10 [11, 12, 13, 14, 15, 16, 17, 18, 19, 20, 21, 22, 23, 24, 25, 26, 27, 28, 29, 30, 31, 32, 33, 34, 35, 36, 37, 38] ⟨(some 29), .mov (.tmp 3), (some (26, false))⟩
  (.take 11 [12, 13, 14, 15, 16, 17, 18, 19, 20, 21, 22, 23, 24, 25, 26, 27, 28, 29, 30, 31, 32, 33, 34, 35, 36, 37, 38] ⟨(some 30), .bin .gtr false (.tmp 28) (.tmp 29), (some (26, false))⟩
  (.take 12 [13, 14, 15, 16, 17, 18, 19, 20, 21, 22, 23, 24, 25, 26, 27, 28, 29, 30, 31, 32, 33, 34, 35, 36, 37, 38] ⟨(some 31), .pick (.tmp 26) (.const (.bool true)) (.tmp 30), none⟩
  (.take 13 [14, 15, 16, 17, 18, 19, 20, 21, 22, 23, 24, 25, 26, 27, 28, 29, 30, 31, 32, 33, 34, 35, 36, 37, 38] ⟨(some 32), .mov (.tmp 31), none⟩
  (.take 14 [18, 21, 22, 23, 24, 25, 26, 27, 28, 29, 30, 31, 32, 33, 34, 35, 36, 37, 38] ⟨(some 33), .load (some 2) (.tmp 5), (some (32, false))⟩
  (.take 15 [16, 18, 21, 22, 23, 24, 25, 26, 27, 28, 29, 30, 31, 32, 33, 34, 35, 36, 37, 38] ⟨(some 34), .fld 2 (.tmp 9), (some (32, false))⟩
  (.take 16 [18, 21, 22, 23, 24, 25, 26, 27, 28, 29, 30, 31, 32, 33, 34, 35, 36, 37, 38] ⟨(some 35), .load none (.tmp 34), (some (32, false))⟩
  (.take 17 [18, 21, 22, 23, 24, 25, 26, 27, 28, 29, 30, 31, 32, 33, 34, 35, 36, 37, 38] ⟨(some 36), .mov (.tmp 1), (some (32, false))⟩
  (.take 19 [20, 21, 22, 23, 24, 25, 26, 27, 28, 29, 30, 31, 32, 33, 34, 35, 36, 37, 38] ⟨(some 38), .fld 0 (.tmp 9), (some (32, false))⟩
  (.take 20 [21, 22, 23, 24, 25, 26, 27, 28, 29, 30, 31, 32, 33, 34, 35, 36, 37, 38] ⟨(some 39), .load none (.tmp 38), (some (32, false))⟩
  (.alt 18 ⟨(some 37), .call 21 [(.tmp 33), (.tmp 35), (.tmp 36)], (some (32, false))⟩ true
  (.take 21 [22, 23, 24, 25, 26, 27, 28, 29, 30, 31, 32, 33, 34, 35, 36, 37, 38] ⟨(some 40), .bin .neq false (.tmp 37) (.tmp 39), (some (32, false))⟩
  (.take 22 [23, 24, 25, 26, 27, 28, 29, 30, 31, 32, 33, 34, 35, 36, 37, 38] ⟨(some 41), .pick (.tmp 32) (.const (.bool true)) (.tmp 40), none⟩
  (.take 23 [24, 25, 26, 27, 28, 29, 30, 31, 32, 33, 34, 35, 36, 37, 38] ⟨(some 42), .mov (.tmp 41), none⟩
  (.take 24 [27, 30, 31, 32, 33, 34, 35, 36, 37, 38] ⟨(some 43), .load (some 2) (.tmp 5), (some (42, false))⟩
  (.take 25 [26, 27, 30, 31, 32, 33, 34, 35, 36, 37, 38] ⟨(some 44), .fld 2 (.tmp 9), (some (42, false))⟩
  (.take 26 [27, 30, 31, 32, 33, 34, 35, 36, 37, 38] ⟨(some 45), .load none (.tmp 44), (some (42, false))⟩
  (.take 28 [29, 30, 31, 32, 33, 34, 35, 36, 37, 38] ⟨(some 47), .fld 1 (.tmp 9), (some (42, false))⟩
  (.take 29 [30, 31, 32, 33, 34, 35, 36, 37, 38] ⟨(some 48), .load none (.tmp 47), (some (42, false))⟩
  (.alt 27 ⟨(some 46), .call 22 [(.tmp 43), (.tmp 45)], (some (42, false))⟩ true
  (.take 30 [31, 32, 33, 34, 35, 36, 37, 38] ⟨(some 49), .bin .neq false (.tmp 46) (.tmp 48), (some (42, false))⟩
  (.take 31 [32, 33, 34, 35, 36, 37, 38] ⟨(some 50), .pick (.tmp 42) (.const (.bool true)) (.tmp 49), none⟩
  (.take 32 [33, 34, 35, 36, 37, 38] ⟨(some 51), .mov (.tmp 50), none⟩
  (.take 33 [36, 37, 38] ⟨(some 52), .load (some 2) (.tmp 5), (some (51, false))⟩
  (.take 34 [36, 37, 38] ⟨(some 53), .mov (.tmp 1), (some (51, false))⟩
  (.take 35 [36, 37, 38] ⟨(some 54), .load (some 5) (.tmp 9), (some (51, false))⟩
  (.alt 36 ⟨(some 55), .call 33 [(.tmp 52), (.tmp 53), (.tmp 54)], (some (51, false))⟩ false
  (.take 37 [38] ⟨(some 56), .not (.tmp 55), (some (51, false))⟩
  (.take 38 [] ⟨(some 57), .pick (.tmp 51) (.const (.bool true)) (.tmp 56), none⟩
  .done))
  .none)))))))
  .none)))))))))
  .none))))))))))))))))))))))
  (.cond (.tmp 57)
  (.seq
  (.reg 0 [
  ⟨(some 10), .mov (.const (.int .i64 110)), none⟩])
  .ret)
  .skip))
  (.seq
  (.seq
  (.reg 0 [
  ⟨(some 58), .fld 0 (.tmp 9), none⟩,
  ⟨(some 59), .load none (.tmp 58), none⟩,
  ⟨(some 60), .mov (.tmp 3), none⟩,
  ⟨(some 61), .bin .eql false (.tmp 59) (.tmp 60), none⟩])
  (.cond (.tmp 61)
  (.seq
  (.seq
  (.reg 0 [
  ⟨(some 62), .fld 4 (.tmp 9), none⟩,
  ⟨(some 63), .load none (.tmp 62), none⟩,
  ⟨(some 64), .len (.tmp 63), none⟩,
  ⟨(some 65), .bin .gtr false (.tmp 64) (.const (.int .i64 0)), none⟩])
  (.cond (.tmp 65)
  (.seq
  (.reg 0 [
  ⟨(some 10), .mov (.const (.int .i64 110)), none⟩])
  .ret)
  .skip))
  (.seq
  (.reg 0 [
  ⟨(some 10), .mov (.const (.int .i64 0)), none⟩])
  .ret))
  .skip))
  (.seq
  (.reg 0 [
  ⟨(some 66), .load (some 2) (.tmp 5), none⟩,
  ⟨(some 67), .mov (.tmp 1), none⟩,
  ⟨(some 68), .mov (.tmp 2), none⟩,
  ⟨(some 69), .load (some 5) (.tmp 9), none⟩,
  ⟨(some 70), .call 34 [(.tmp 66), (.tmp 67), (.tmp 68), (.tmp 69)], none⟩,
  ⟨(some 12), .mov (.tmp 70), none⟩])
  (.seq
  (.seq
  (.reg 0 [
  ⟨(some 71), .mov (.tmp 12), none⟩,
  ⟨(some 72), .not (.tmp 71), none⟩])
  (.cond (.tmp 72)
  (.seq
  (.reg 0 [
  ⟨(some 10), .mov (.const (.int .i64 110)), none⟩])
  .ret)
  .skip))
  (.seq
  (.reg 0 [
  ⟨(some 10), .mov (.const (.int .i64 0)), none⟩])
  .ret)))))))
def c17 : LCode :=
  (.seq
  (.reg 2 [
  ⟨(some 5), .box 0 (.tmp 0), none⟩,
  ⟨(some 9), .box 1 (.tmp 4), none⟩,
  ⟨(some 10), .mov (.const (.int .i64 0)), none⟩])
  (.seq
  (.block 0
  (.seq
  (.reg 0 [
  ⟨(some 12), .fld 0 (.tmp 9), none⟩,
  ⟨(some 13), .load none (.tmp 12), none⟩,
  ⟨(some 14), .bin .lss false (.tmp 13) (.const (.int .i64 0)), none⟩,
  ⟨(some 15), .mov (.tmp 14), none⟩,
  ⟨(some 16), .fld 0 (.tmp 9), (some (15, false))⟩,
  ⟨(some 17), .load none (.tmp 16), (some (15, false))⟩,
  ⟨(some 18), .mov (.tmp 3), (some (15, false))⟩,
  ⟨(some 19), .bin .gtr false (.tmp 17) (.tmp 18), (some (15, false))⟩,
  ⟨(some 20), .pick (.tmp 15) (.const (.bool true)) (.tmp 19), none⟩,
  ⟨(some 21), .mov (.tmp 20), none⟩,
  ⟨(some 22), .load (some 2) (.tmp 5), (some (21, false))⟩,
  ⟨(some 23), .mov (.tmp 1), (some (21, false))⟩,
  ⟨(some 24), .mov (.tmp 2), (some (21, false))⟩,
  ⟨(some 25), .load (some 5) (.tmp 9), (some (21, false))⟩,
  ⟨(some 26), .call 35 [(.tmp 22), (.tmp 23), (.tmp 24), (.tmp 25)], (some (21, false))⟩,
  ⟨(some 27), .not (.tmp 26), (some (21, false))⟩,
  ⟨(some 28), .pick (.tmp 21) (.const (.bool true)) (.tmp 27), none⟩,
  ⟨(some 29), .mov (.tmp 28), none⟩,
  ⟨(some 30), .load (some 2) (.tmp 5), (some (29, false))⟩,
  ⟨(some 31), .mov (.tmp 1), (some (29, false))⟩,
  ⟨(some 32), .load (some 5) (.tmp 9), (some (29, false))⟩,
  ⟨(some 33), .call 36 [(.tmp 30), (.tmp 31), (.tmp 32)], (some (29, false))⟩,
  ⟨(some 34), .not (.tmp 33), (some (29, false))⟩,
  ⟨(some 35), .pick (.tmp 29) (.const (.bool true)) (.tmp 34), none⟩,
  ⟨(some 11), .mov (.tmp 35), none⟩])
  (.cond (.tmp 11)
  (.seq
  (.reg 0 [
  ⟨(some 10), .mov (.const (.int .i64 110)), none⟩])
  .ret)
  (.seq
  (.reg 0 [
  ⟨(some 37), .fld 0 (.tmp 9), none⟩,
  ⟨(some 38), .load none (.tmp 37), none⟩,
  ⟨(some 39), .mov (.tmp 3), none⟩,
  ⟨(some 40), .bin .eql false (.tmp 38) (.tmp 39), none⟩,
  ⟨(some 41), .mov (.tmp 40), none⟩,
  ⟨(some 42), .fld 4 (.tmp 9), (some (41, true))⟩,
  ⟨(some 43), .load none (.tmp 42), (some (41, true))⟩,
  ⟨(some 44), .len (.tmp 43), (some (41, true))⟩,
  ⟨(some 45), .bin .eql false (.tmp 44) (.const (.int .i64 0)), (some (41, true))⟩,
  ⟨(some 46), .pick (.tmp 41) (.tmp 45) (.const (.bool false)), none⟩,
  ⟨(some 47), .mov (.tmp 46), none⟩,
  ⟨(some 48), .fld 0 (.tmp 9), (some (47, false))⟩,
  ⟨(some 49), .load none (.tmp 48), (some (47, false))⟩,
  ⟨(some 50), .mov (.tmp 3), (some (47, false))⟩,
  ⟨(some 51), .bin .lss false (.tmp 49) (.tmp 50), (some (47, false))⟩,
  ⟨(some 52), .mov (.tmp 51), (some (47, false))⟩,
  ⟨(some 53), .load (some 2) (.tmp 5), (some (52, true))⟩,
  ⟨(some 54), .mov (.tmp 1), (some (52, true))⟩,
  ⟨(some 55), .mov (.tmp 2), (some (52, true))⟩,
  ⟨(some 56), .load (some 5) (.tmp 9), (some (52, true))⟩,
  ⟨(some 57), .call 37 [(.tmp 53), (.tmp 54), (.tmp 55), (.tmp 56)], (some (52, true))⟩,
  ⟨(some 58), .pick (.tmp 52) (.tmp 57) (.const (.bool false)), (some (47, false))⟩,
  ⟨(some 59), .pick (.tmp 47) (.const (.bool true)) (.tmp 58), none⟩,
  ⟨(some 36), .mov (.tmp 59), none⟩])
  (.cond (.tmp 36)
  (.seq
  (.reg 0 [
  ⟨(some 10), .mov (.const (.int .i64 0)), none⟩])
  .ret)
  .skip)))))
  (.seq
  (.reg 0 [
  ⟨(some 10), .mov (.const (.int .i64 110)), none⟩])
  .ret)))
def c18 : LCode :=
  (.seq
  (.reg 2 [
  ⟨(some 4), .box 0 (.tmp 0), none⟩,
  ⟨(some 7), .box 1 (.tmp 3), none⟩,
  ⟨(some 8), .mov (.const (.int .i64 0)), none⟩,
  ⟨(some 9), .mov (.const (.bool false)), none⟩])
  (.seq
  (.reg 0 [
  ⟨(some 12), .load (some 2) (.tmp 4), none⟩,
  ⟨(some 13), .fld 2 (.tmp 7), none⟩,
  ⟨(some 14), .load none (.tmp 13), none⟩,
  ⟨(some 15), .call 27 [(.tmp 12), (.tmp 14)], none⟩,
  ⟨(some 10), .mov (.tmp 15), none⟩])
  (.seq
  (.tail 6 0 [
  ⟨(some 16), .mov (.tmp 10), none⟩,
  ⟨(some 17), .nilc (.tmp 16), none⟩,
  ⟨(some 18), .fld 4 (.tmp 17), none⟩,
  ⟨(some 19), .load none (.tmp 18), none⟩,
  ⟨(some 20), .fld 3 (.tmp 7), none⟩,
  ⟨(some 21), .load none (.tmp 20), none⟩,
  ⟨(some 22), .copy 1 (.tmp 19) (.tmp 21), none⟩])
  (.seq
  (.reg 0 [
  ⟨(some 23), .mov (.tmp 10), none⟩,
  ⟨(some 24), .mov (.tmp 1), none⟩,
  ⟨(some 25), .call 28 [(.tmp 23), (.tmp 24)], none⟩,
  ⟨(some 11), .mov (.tmp 25), none⟩])
  (.seq
  (.seq
  (.reg 0 [
  ⟨(some 26), .mov (.tmp 11), none⟩,
  ⟨(some 27), .mov (.tmp 2), none⟩,
  ⟨(some 28), .idx 1 (.tmp 26) (.tmp 27), none⟩,
  ⟨(some 29), .load none (.tmp 28), none⟩,
  ⟨(some 30), .bin .eql false (.tmp 29) (.const (.int .i64 4611686018427387904)), none⟩])
  (.cond (.tmp 30)
  (.seq
  (.reg 0 [
  ⟨(some 8), .mov (.const (.int .i64 0)), none⟩,
  ⟨(some 9), .mov (.const (.bool false)), none⟩])
  .ret)
  .skip))
  (.seq
  (.qui 0 [
  ⟨(some 31), .mov (.tmp 11), none⟩,
  ⟨(some 32), .mov (.tmp 2), none⟩,
  ⟨(some 33), .idx 1 (.tmp 31) (.tmp 32), none⟩,
  ⟨(some 34), .load none (.tmp 33), none⟩,
  ⟨(some 35), .mov (.tmp 10), none⟩,
  ⟨(some 36), .nilc (.tmp 35), none⟩,
  ⟨(some 37), .fld 4 (.tmp 36), none⟩,
  ⟨(some 38), .load none (.tmp 37), none⟩,
  ⟨(some 39), .mov (.tmp 2), none⟩,
  ⟨(some 40), .idx 1 (.tmp 38) (.tmp 39), none⟩,
  ⟨(some 41), .load none (.tmp 40), none⟩,
  ⟨(some 42), .bin .add true (.tmp 34) (.tmp 41), none⟩,
  ⟨(some 8), .mov (.tmp 42), none⟩,
  ⟨(some 9), .mov (.const (.bool true)), none⟩])
  .ret))))))
def c19 : LCode :=
  (.seq
  (.reg 2 [
  ⟨(some 4), .box 0 (.tmp 0), none⟩,
  ⟨(some 8), .alloc 1 (.agg #[.int .i64 0, .bool false]), none⟩])
  (.seq
  (.reg 1 [
  ⟨(some 10), .load (some 2) (.tmp 4), none⟩,
  ⟨(some 11), .mov (.tmp 1), none⟩,
  ⟨(some 12), .mov (.tmp 3), none⟩,
  ⟨(some 13), .call 31 [(.tmp 10), (.tmp 11), (.tmp 12)], none⟩,
  ⟨(some 9), .alloc 0 (.agg #[.slice none 0 0, .slice none 0 0]), none⟩,
  ⟨none, .store 2 (.tmp 9) (.tmp 13), none⟩])
  (.seq
  (.seq
  (.tree 0
  (.take 0 [1, 3, 4, 6] ⟨(some 14), .fld 0 (.tmp 9), none⟩
  (.take 1 [3, 4, 6] ⟨(some 15), .load none (.tmp 14), none⟩
  (.take 2 [3, 4, 6] ⟨(some 16), .mov (.tmp 2), none⟩
  (.take 3 [4, 6] ⟨(some 17), .idx 1 (.tmp 15) (.tmp 16), none⟩
  (.take 4 [6] ⟨(some 18), .load none (.tmp 17), none⟩
  (.alt 5 ⟨(some 19), .call 32 [], none⟩ true
  (.take 6 [] ⟨(some 20), .bin .eql false (.tmp 18) (.tmp 19), none⟩
  .done)
  .none)))))))
  (.cond (.tmp 20)
  (.seq
  (.reg 0 [
  ⟨(some 21), .build [.int .i64 0, .bool false] [], none⟩,
  ⟨none, .store 2 (.tmp 8) (.tmp 21), none⟩])
  .ret)
  .skip))
  (.seq
  (.reg 0 [
  ⟨(some 22), .fld 0 (.tmp 9), none⟩,
  ⟨(some 23), .load none (.tmp 22), none⟩,
  ⟨(some 24), .mov (.tmp 2), none⟩,
  ⟨(some 25), .idx 1 (.tmp 23) (.tmp 24), none⟩,
  ⟨(some 26), .load none (.tmp 25), none⟩,
  ⟨(some 27), .build [.int .i64 0, .bool false] [(0, 1, (.tmp 26)), (1, 1, (.const (.bool true)))], none⟩,
  ⟨none, .store 2 (.tmp 8) (.tmp 27), none⟩])
  .ret))))
def c20 : LCode :=
  (.seq
  (.reg 1 [
  ⟨(some 4), .box 0 (.tmp 0), none⟩,
  ⟨(some 8), .mov (.const (.bool false)), none⟩])
  (.seq
  (.seq
  (.reg 0 [
  ⟨(some 11), .mov (.tmp 3), none⟩,
  ⟨(some 12), .len (.tmp 11), none⟩,
  ⟨(some 13), .fld 1 (.tmp 4), none⟩,
  ⟨(some 14), .load none (.tmp 13), none⟩,
  ⟨(some 15), .len (.tmp 14), none⟩,
  ⟨(some 16), .bin .neq false (.tmp 12) (.tmp 15), none⟩])
  (.cond (.tmp 16)
  (.seq
  (.reg 0 [
  ⟨(some 8), .mov (.const (.bool false)), none⟩])
  .ret)
  .skip))
  (.seq
  (.seq
  (.reg 0 [
  ⟨(some 9), .mov (.const (.int .i64 0)), none⟩])
  (.block 0
  (.loop
  (.seq
  (.seq
  (.reg 0 [
  ⟨(some 17), .mov (.tmp 9), none⟩,
  ⟨(some 18), .mov (.tmp 3), none⟩,
  ⟨(some 19), .len (.tmp 18), none⟩,
  ⟨(some 20), .bin .lss false (.tmp 17) (.tmp 19), none⟩])
  (.cond (.tmp 20)
  .skip
  (.exit 0)))
  (.seq
  (.block 1
  (.seq
  (.qui 0 [
  ⟨(some 23), .mov (.tmp 3), none⟩,
  ⟨(some 24), .mov (.tmp 9), none⟩,
  ⟨(some 25), .idx 1 (.tmp 23) (.tmp 24), none⟩,
  ⟨(some 26), .load none (.tmp 25), none⟩,
  ⟨(some 27), .bin .lss false (.tmp 26) (.const (.int .i64 0)), none⟩,
  ⟨(some 28), .mov (.tmp 27), none⟩,
  ⟨(some 29), .mov (.tmp 3), (some (28, false))⟩,
  ⟨(some 30), .mov (.tmp 9), (some (28, false))⟩,
  ⟨(some 31), .idx 1 (.tmp 29) (.tmp 30), (some (28, false))⟩,
  ⟨(some 32), .load none (.tmp 31), (some (28, false))⟩,
  ⟨(some 33), .fld 1 (.tmp 4), (some (28, false))⟩,
  ⟨(some 34), .load none (.tmp 33), (some (28, false))⟩,
  ⟨(some 35), .mov (.tmp 9), (some (28, false))⟩,
  ⟨(some 36), .idx 4 (.tmp 34) (.tmp 35), (some (28, false))⟩,
  ⟨(some 37), .fld 2 (.tmp 36), (some (28, false))⟩,
  ⟨(some 38), .load none (.tmp 37), (some (28, false))⟩,
  ⟨(some 39), .bin .gtr false (.tmp 32) (.tmp 38), (some (28, false))⟩,
  ⟨(some 40), .pick (.tmp 28) (.const (.bool true)) (.tmp 39), none⟩])
  (.cond (.tmp 40)
  (.seq
  (.reg 0 [
  ⟨(some 8), .mov (.const (.bool false)), none⟩])
  .ret)
  .skip)))
  (.reg 0 [
  ⟨(some 21), .mov (.tmp 9), none⟩,
  ⟨(some 22), .bin .add true (.tmp 21) (.const (.int .i64 1)), none⟩,
  ⟨(some 9), .mov (.tmp 22), none⟩]))))))
  (.seq
  (.seq
  (.reg 0 [
  ⟨(some 10), .mov (.const (.int .i64 0)), none⟩])
  (.block 2
  (.loop
  (.seq
  (.seq
  (.reg 0 [
  ⟨(some 41), .mov (.tmp 10), none⟩,
  ⟨(some 42), .fld 0 (.tmp 4), none⟩,
  ⟨(some 43), .load none (.tmp 42), none⟩,
  ⟨(some 44), .bin .lss false (.tmp 41) (.tmp 43), none⟩])
  (.cond (.tmp 44)
  .skip
  (.exit 2)))
  (.seq
  (.block 3
  (.seq
  (.reg 0 [
  ⟨(some 47), .mov (.tmp 10), none⟩,
  ⟨(some 48), .mov (.tmp 1), none⟩,
  ⟨(some 49), .bin .neq false (.tmp 47) (.tmp 48), none⟩,
  ⟨(some 50), .mov (.tmp 49), none⟩,
  ⟨(some 51), .mov (.tmp 10), (some (50, true))⟩,
  ⟨(some 52), .mov (.tmp 2), (some (50, true))⟩,
  ⟨(some 53), .bin .neq false (.tmp 51) (.tmp 52), (some (50, true))⟩,
  ⟨(some 54), .pick (.tmp 50) (.tmp 53) (.const (.bool false)), none⟩,
  ⟨(some 55), .mov (.tmp 54), none⟩,
  ⟨(some 56), .load (some 2) (.tmp 4), (some (55, true))⟩,
  ⟨(some 57), .mov (.tmp 3), (some (55, true))⟩,
  ⟨(some 58), .mov (.tmp 10), (some (55, true))⟩,
  ⟨(some 59), .call 21 [(.tmp 56), (.tmp 57), (.tmp 58)], (some (55, true))⟩,
  ⟨(some 60), .bin .neq false (.tmp 59) (.const (.int .i64 0)), (some (55, true))⟩,
  ⟨(some 61), .pick (.tmp 55) (.tmp 60) (.const (.bool false)), none⟩])
  (.cond (.tmp 61)
  (.seq
  (.reg 0 [
  ⟨(some 8), .mov (.const (.bool false)), none⟩])
  .ret)
  .skip)))
  (.reg 0 [
  ⟨(some 45), .mov (.tmp 10), none⟩,
  ⟨(some 46), .bin .add true (.tmp 45) (.const (.int .i64 1)), none⟩,
  ⟨(some 10), .mov (.tmp 46), none⟩]))))))
  (.seq
  (.reg 0 [
  ⟨(some 8), .mov (.const (.bool true)), none⟩])
  .ret)))))
def c21 : LCode :=
  (.seq
  (.reg 1 [
  ⟨(some 3), .box 0 (.tmp 0), none⟩,
  ⟨(some 6), .mov (.const (.int .i64 0)), none⟩])
  (.seq
  (.reg 0 [
  ⟨(some 7), .mov (.const (.int .i64 0)), none⟩])
  (.seq
  (.seq
  (.reg 0 [
  ⟨(some 8), .mov (.const (.int .i64 0)), none⟩])
  (.block 0
  (.loop
  (.seq
  (.seq
  (.reg 0 [
  ⟨(some 9), .mov (.tmp 8), none⟩,
  ⟨(some 10), .fld 1 (.tmp 3), none⟩,
  ⟨(some 11), .load none (.tmp 10), none⟩,
  ⟨(some 12), .len (.tmp 11), none⟩,
  ⟨(some 13), .bin .lss false (.tmp 9) (.tmp 12), none⟩])
  (.cond (.tmp 13)
  .skip
  (.exit 0)))
  (.seq
  (.block 1
  (.seq
  (.seq
  (.reg 0 [
  ⟨(some 16), .fld 1 (.tmp 3), none⟩,
  ⟨(some 17), .load none (.tmp 16), none⟩,
  ⟨(some 18), .mov (.tmp 8), none⟩,
  ⟨(some 19), .idx 4 (.tmp 17) (.tmp 18), none⟩,
  ⟨(some 20), .fld 0 (.tmp 19), none⟩,
  ⟨(some 21), .load none (.tmp 20), none⟩,
  ⟨(some 22), .mov (.tmp 2), none⟩,
  ⟨(some 23), .bin .eql false (.tmp 21) (.tmp 22), none⟩])
  (.cond (.tmp 23)
  (.reg 0 [
  ⟨(some 24), .mov (.tmp 7), none⟩,
  ⟨(some 25), .mov (.tmp 1), none⟩,
  ⟨(some 26), .mov (.tmp 8), none⟩,
  ⟨(some 27), .idx 1 (.tmp 25) (.tmp 26), none⟩,
  ⟨(some 28), .load none (.tmp 27), none⟩,
  ⟨(some 29), .bin .add true (.tmp 24) (.tmp 28), none⟩,
  ⟨(some 7), .mov (.tmp 29), none⟩])
  .skip))
  (.seq
  (.reg 0 [
  ⟨(some 30), .fld 1 (.tmp 3), none⟩,
  ⟨(some 31), .load none (.tmp 30), none⟩,
  ⟨(some 32), .mov (.tmp 8), none⟩,
  ⟨(some 33), .idx 4 (.tmp 31) (.tmp 32), none⟩,
  ⟨(some 34), .fld 1 (.tmp 33), none⟩,
  ⟨(some 35), .load none (.tmp 34), none⟩,
  ⟨(some 36), .mov (.tmp 2), none⟩,
  ⟨(some 37), .bin .eql false (.tmp 35) (.tmp 36), none⟩])
  (.cond (.tmp 37)
  (.reg 0 [
  ⟨(some 38), .mov (.tmp 7), none⟩,
  ⟨(some 39), .mov (.tmp 1), none⟩,
  ⟨(some 40), .mov (.tmp 8), none⟩,
  ⟨(some 41), .idx 1 (.tmp 39) (.tmp 40), none⟩,
  ⟨(some 42), .load none (.tmp 41), none⟩,
  ⟨(some 43), .bin .sub true (.tmp 38) (.tmp 42), none⟩,
  ⟨(some 7), .mov (.tmp 43), none⟩])
  .skip))))
  (.reg 0 [
  ⟨(some 14), .mov (.tmp 8), none⟩,
  ⟨(some 15), .bin .add true (.tmp 14) (.const (.int .i64 1)), none⟩,
  ⟨(some 8), .mov (.tmp 15), none⟩]))))))
  (.seq
  (.reg 0 [
  ⟨(some 44), .mov (.tmp 7), none⟩,
  ⟨(some 6), .mov (.tmp 44), none⟩])
  .ret))))
def c22 : LCode :=
  (.seq
  (.reg 1 [
  ⟨(some 2), .box 0 (.tmp 0), none⟩,
  ⟨(some 4), .mov (.const (.int .i64 0)), none⟩])
  (.seq
  (.reg 0 [
  ⟨(some 5), .mov (.const (.int .i64 0)), none⟩])
  (.seq
  (.seq
  (.reg 0 [
  ⟨(some 6), .mov (.const (.int .i64 0)), none⟩])
  (.block 0
  (.loop
  (.seq
  (.seq
  (.reg 0 [
  ⟨(some 7), .mov (.tmp 6), none⟩,
  ⟨(some 8), .mov (.tmp 1), none⟩,
  ⟨(some 9), .len (.tmp 8), none⟩,
  ⟨(some 10), .bin .lss false (.tmp 7) (.tmp 9), none⟩])
  (.cond (.tmp 10)
  .skip
  (.exit 0)))
  (.seq
  (.block 1
  (.qui 0 [
  ⟨(some 13), .mov (.tmp 5), none⟩,
  ⟨(some 14), .mov (.tmp 1), none⟩,
  ⟨(some 15), .mov (.tmp 6), none⟩,
  ⟨(some 16), .idx 1 (.tmp 14) (.tmp 15), none⟩,
  ⟨(some 17), .load none (.tmp 16), none⟩,
  ⟨(some 18), .fld 1 (.tmp 2), none⟩,
  ⟨(some 19), .load none (.tmp 18), none⟩,
  ⟨(some 20), .mov (.tmp 6), none⟩,
  ⟨(some 21), .idx 4 (.tmp 19) (.tmp 20), none⟩,
  ⟨(some 22), .fld 3 (.tmp 21), none⟩,
  ⟨(some 23), .load none (.tmp 22), none⟩,
  ⟨(some 24), .bin .mul true (.tmp 17) (.tmp 23), none⟩,
  ⟨(some 25), .bin .add true (.tmp 13) (.tmp 24), none⟩,
  ⟨(some 5), .mov (.tmp 25), none⟩]))
  (.reg 0 [
  ⟨(some 11), .mov (.tmp 6), none⟩,
  ⟨(some 12), .bin .add true (.tmp 11) (.const (.int .i64 1)), none⟩,
  ⟨(some 6), .mov (.tmp 12), none⟩]))))))
  (.seq
  (.reg 0 [
  ⟨(some 26), .mov (.tmp 5), none⟩,
  ⟨(some 4), .mov (.tmp 26), none⟩])
  .ret))))
def c23 : LCode :=
  (.seq
  (.reg 1 [
  ⟨(some 0), .alloc 0 (.agg #[.int .i64 0, .slice none 0 0]), none⟩])
  (.seq
  (.reg 1 [
  ⟨(some 1), .build [.int .i64 0, .int .i64 0, .int .i64 0, .int .i64 0] [(0, 1, (.const (.int .i64 0))), (1, 1, (.const (.int .i64 1))), (2, 1, (.const (.int .i64 4))), (3, 1, (.const (.int .i64 1)))], none⟩,
  ⟨(some 2), .build [.int .i64 0, .int .i64 0, .int .i64 0, .int .i64 0] [(0, 1, (.const (.int .i64 0))), (1, 1, (.const (.int .i64 2))), (2, 1, (.const (.int .i64 4))), (3, 1, (.const (.int .i64 2)))], none⟩,
  ⟨(some 3), .build [.int .i64 0, .int .i64 0, .int .i64 0, .int .i64 0] [(0, 1, (.const (.int .i64 1))), (1, 1, (.const (.int .i64 3))), (2, 1, (.const (.int .i64 3))), (3, 1, (.const (.int .i64 1)))], none⟩,
  ⟨(some 4), .build [.int .i64 0, .int .i64 0, .int .i64 0, .int .i64 0] [(0, 1, (.const (.int .i64 2))), (1, 1, (.const (.int .i64 3))), (2, 1, (.const (.int .i64 4))), (3, 1, (.const (.int .i64 1)))], none⟩,
  ⟨(some 5), .build [.int .i64 0, .int .i64 0, .int .i64 0, .int .i64 0] [(0, 1, (.const (.int .i64 1))), (1, 1, (.const (.int .i64 2))), (2, 1, (.const (.int .i64 4))), (3, 1, (.const (.int .i64 0)))], none⟩,
  ⟨(some 6), .lits 0 4 5 [.int .i64 0, .int .i64 0, .int .i64 0, .int .i64 0] [(0, (.tmp 1)), (1, (.tmp 2)), (2, (.tmp 3)), (3, (.tmp 4)), (4, (.tmp 5))], none⟩,
  ⟨(some 7), .build [.int .i64 0, .slice none 0 0] [(0, 1, (.const (.int .i64 4))), (1, 1, (.tmp 6))], none⟩,
  ⟨none, .store 2 (.tmp 0) (.tmp 7), none⟩])
  .ret))
def c24 : LCode :=
  (.seq
  (.reg 1 [
  ⟨(some 2), .box 0 (.tmp 0), none⟩,
  ⟨(some 4), .mov (.const (.bool false)), none⟩])
  (.seq
  (.reg 0 [
  ⟨(some 5), .mov (.tmp 1), none⟩,
  ⟨(some 6), .bin .geq false (.tmp 5) (.const (.int .i64 0)), none⟩,
  ⟨(some 7), .mov (.tmp 6), none⟩,
  ⟨(some 8), .mov (.tmp 1), (some (7, true))⟩,
  ⟨(some 9), .fld 0 (.tmp 2), (some (7, true))⟩,
  ⟨(some 10), .load none (.tmp 9), (some (7, true))⟩,
  ⟨(some 11), .bin .lss false (.tmp 8) (.tmp 10), (some (7, true))⟩,
  ⟨(some 12), .pick (.tmp 7) (.tmp 11) (.const (.bool false)), none⟩,
  ⟨(some 4), .mov (.tmp 12), none⟩])
  .ret))
def c25 : LCode :=
  (.seq
  (.reg 0 [
  ⟨(some 3), .mov (.const (.bool false)), none⟩])
  (.seq
  (.reg 0 [
  ⟨(some 4), .mov (.tmp 0), none⟩,
  ⟨(some 5), .bin .geq false (.tmp 4) (.const (.int .i64 0)), none⟩,
  ⟨(some 6), .mov (.tmp 5), none⟩,
  ⟨(some 7), .mov (.tmp 0), (some (6, true))⟩,
  ⟨(some 8), .fld 0 (.tmp 1), (some (6, true))⟩,
  ⟨(some 9), .load none (.tmp 8), (some (6, true))⟩,
  ⟨(some 10), .bin .lss false (.tmp 7) (.tmp 9), (some (6, true))⟩,
  ⟨(some 11), .pick (.tmp 6) (.tmp 10) (.const (.bool false)), none⟩,
  ⟨(some 3), .mov (.tmp 11), none⟩])
  .ret))
def c26 : LCode :=
  (.seq
  (.reg 1 [
  ⟨(some 4), .box 0 (.tmp 0), none⟩,
  ⟨(some 8), .mov (.const (.bool false)), none⟩])
  (.seq
  (.reg 0 [
  ⟨(some 9), .mov (.tmp 1), none⟩,
  ⟨(some 10), .bin .geq false (.tmp 9) (.const (.int .i64 0)), none⟩,
  ⟨(some 11), .mov (.tmp 10), none⟩,
  ⟨(some 12), .mov (.tmp 1), (some (11, true))⟩,
  ⟨(some 13), .fld 0 (.tmp 4), (some (11, true))⟩,
  ⟨(some 14), .load none (.tmp 13), (some (11, true))⟩,
  ⟨(some 15), .bin .lss false (.tmp 12) (.tmp 14), (some (11, true))⟩,
  ⟨(some 16), .pick (.tmp 11) (.tmp 15) (.const (.bool false)), none⟩,
  ⟨(some 17), .mov (.tmp 16), none⟩,
  ⟨(some 18), .mov (.tmp 2), (some (17, true))⟩,
  ⟨(some 19), .bin .geq false (.tmp 18) (.const (.int .i64 0)), (some (17, true))⟩,
  ⟨(some 20), .pick (.tmp 17) (.tmp 19) (.const (.bool false)), none⟩,
  ⟨(some 21), .mov (.tmp 20), none⟩,
  ⟨(some 22), .mov (.tmp 2), (some (21, true))⟩,
  ⟨(some 23), .fld 0 (.tmp 4), (some (21, true))⟩,
  ⟨(some 24), .load none (.tmp 23), (some (21, true))⟩,
  ⟨(some 25), .bin .lss false (.tmp 22) (.tmp 24), (some (21, true))⟩,
  ⟨(some 26), .pick (.tmp 21) (.tmp 25) (.const (.bool false)), none⟩,
  ⟨(some 27), .mov (.tmp 26), none⟩,
  ⟨(some 28), .mov (.tmp 1), (some (27, true))⟩,
  ⟨(some 29), .mov (.tmp 2), (some (27, true))⟩,
  ⟨(some 30), .bin .neq false (.tmp 28) (.tmp 29), (some (27, true))⟩,
  ⟨(some 31), .pick (.tmp 27) (.tmp 30) (.const (.bool false)), none⟩,
  ⟨(some 32), .mov (.tmp 31), none⟩,
  ⟨(some 33), .mov (.tmp 3), (some (32, true))⟩,
  ⟨(some 34), .bin .geq false (.tmp 33) (.const (.int .i64 0)), (some (32, true))⟩,
  ⟨(some 35), .pick (.tmp 32) (.tmp 34) (.const (.bool false)), none⟩,
  ⟨(some 36), .mov (.tmp 35), none⟩,
  ⟨(some 37), .mov (.tmp 3), (some (36, true))⟩,
  ⟨(some 38), .bin .leq false (.tmp 37) (.const (.int .i64 2199023255552)), (some (36, true))⟩,
  ⟨(some 39), .pick (.tmp 36) (.tmp 38) (.const (.bool false)), none⟩,
  ⟨(some 8), .mov (.tmp 39), none⟩])
  .ret))
def c27l0 : LCode :=
  .seq
  (.reg 0 [
  ⟨(some 22), .bin .lss false (.tmp 21) (.tmp 20), none⟩])
  (.seq
  (.cond (.tmp 22)
  .skip
  (.exit 0))
  (.seq
  (.block 1
  (.seq
  (.reg 1 [
  ⟨(some 23), .mov (.tmp 21), none⟩,
  ⟨(some 24), .idx 4 (.tmp 19) (.tmp 21), none⟩,
  ⟨(some 25), .load (some 4) (.tmp 24), none⟩,
  ⟨(some 7), .alloc 0 (.agg #[.int .i64 0, .int .i64 0, .int .i64 0, .int .i64 0]), none⟩,
  ⟨(some 6), .mov (.tmp 23), none⟩,
  ⟨none, .store 4 (.tmp 7) (.tmp 25), none⟩])
  (.seq
  (.tree 2
  (.take 0 [1, 2, 3, 17, 18] ⟨(some 26), .mov (.tmp 5), none⟩
  (.take 1 [2, 3, 17, 18] ⟨(some 27), .nilc (.tmp 26), none⟩
  (.take 2 [3, 17, 18] ⟨(some 28), .fld 3 (.tmp 27), none⟩
  (.take 3 [17, 18] ⟨(some 29), .load none (.tmp 28), none⟩
  (.take 4 [5, 17, 18] ⟨(some 30), .fld 0 (.tmp 7), none⟩
  (.take 5 [17, 18] ⟨(some 31), .load none (.tmp 30), none⟩
  (.take 6 [7, 8, 9, 12, 13, 16, 17, 18] ⟨(some 32), .mov (.tmp 5), none⟩
  (.take 7 [8, 9, 12, 13, 16, 17, 18] ⟨(some 33), .nilc (.tmp 32), none⟩
  (.take 8 [9, 12, 13, 16, 17, 18] ⟨(some 34), .fld 3 (.tmp 33), none⟩
  (.take 9 [12, 13, 16, 17, 18] ⟨(some 35), .load none (.tmp 34), none⟩
  (.take 10 [11, 12, 13, 16, 17, 18] ⟨(some 36), .fld 0 (.tmp 7), none⟩
  (.take 11 [12, 13, 16, 17, 18] ⟨(some 37), .load none (.tmp 36), none⟩
  (.take 12 [13, 16, 17, 18] ⟨(some 38), .idx 1 (.tmp 35) (.tmp 37), none⟩
  (.take 13 [16, 17, 18] ⟨(some 39), .load none (.tmp 38), none⟩
  (.take 14 [15, 16, 17, 18] ⟨(some 40), .mov (.tmp 6), none⟩
  (.alt 15 ⟨(some 41), .lits 0 1 1 [.int .i64 0] [(0, (.tmp 40))], none⟩ true
  (.alt 16 ⟨(some 42), .append 1 1 8 (.tmp 39) (.tmp 41), none⟩ true
  (.take 17 [18] ⟨(some 43), .idx 1 (.tmp 29) (.tmp 31), none⟩
  (.alt 18 ⟨none, .store 1 (.tmp 43) (.tmp 42), none⟩ false
  .done
  .none))
  .none)
  .none)))))))))))))))))
  (.tree 2
  (.take 0 [1, 2, 3, 17, 18] ⟨(some 44), .mov (.tmp 5), none⟩
  (.take 1 [2, 3, 17, 18] ⟨(some 45), .nilc (.tmp 44), none⟩
  (.take 2 [3, 17, 18] ⟨(some 46), .fld 3 (.tmp 45), none⟩
  (.take 3 [17, 18] ⟨(some 47), .load none (.tmp 46), none⟩
  (.take 4 [5, 17, 18] ⟨(some 48), .fld 1 (.tmp 7), none⟩
  (.take 5 [17, 18] ⟨(some 49), .load none (.tmp 48), none⟩
  (.take 6 [7, 8, 9, 12, 13, 16, 17, 18] ⟨(some 50), .mov (.tmp 5), none⟩
  (.take 7 [8, 9, 12, 13, 16, 17, 18] ⟨(some 51), .nilc (.tmp 50), none⟩
  (.take 8 [9, 12, 13, 16, 17, 18] ⟨(some 52), .fld 3 (.tmp 51), none⟩
  (.take 9 [12, 13, 16, 17, 18] ⟨(some 53), .load none (.tmp 52), none⟩
  (.take 10 [11, 12, 13, 16, 17, 18] ⟨(some 54), .fld 1 (.tmp 7), none⟩
  (.take 11 [12, 13, 16, 17, 18] ⟨(some 55), .load none (.tmp 54), none⟩
  (.take 12 [13, 16, 17, 18] ⟨(some 56), .idx 1 (.tmp 53) (.tmp 55), none⟩
  (.take 13 [16, 17, 18] ⟨(some 57), .load none (.tmp 56), none⟩
  (.take 14 [15, 16, 17, 18] ⟨(some 58), .mov (.tmp 6), none⟩
  (.alt 15 ⟨(some 59), .lits 0 1 1 [.int .i64 0] [(0, (.tmp 58))], none⟩ true
  (.alt 16 ⟨(some 60), .append 1 1 8 (.tmp 57) (.tmp 59), none⟩ true
  (.take 17 [18] ⟨(some 61), .idx 1 (.tmp 47) (.tmp 49), none⟩
  (.alt 18 ⟨none, .store 1 (.tmp 61) (.tmp 60), none⟩ false
  .done
  .none))
  .none)
  .none))))))))))))))))))))
  (.reg 0 [
  ⟨(some 62), .bin .add true (.tmp 21) (.const (.int .i64 1)), none⟩,
  ⟨(some 21), .mov (.tmp 62), none⟩])))
def c27 : LCode :=
  (.seq
  (.reg 1 [
  ⟨(some 2), .box 0 (.tmp 0), none⟩,
  ⟨(some 4), .mov (.const (.pointer none)), none⟩])
  (.seq
  (.tree 3
  (.take 0 [8, 9, 10] ⟨(some 8), .load (some 2) (.tmp 2), none⟩
  (.take 1 [8, 9, 10] ⟨(some 9), .mov (.tmp 1), none⟩
  (.take 2 [3, 4, 8, 9, 10] ⟨(some 10), .fld 0 (.tmp 2), none⟩
  (.take 3 [4, 8, 9, 10] ⟨(some 11), .load none (.tmp 10), none⟩
  (.take 5 [6, 7, 8, 9, 10] ⟨(some 13), .fld 0 (.tmp 2), none⟩
  (.take 6 [7, 8, 9, 10] ⟨(some 14), .load none (.tmp 13), none⟩
  (.alt 4 ⟨(some 12), .mkv 0 1 24 [.slice none 0 0] (.tmp 11) (.tmp 11), none⟩ true
  (.alt 7 ⟨(some 15), .mk 1 1 8 [.int .i64 0] (.tmp 14) (.tmp 14), none⟩ true
  (.take 8 [9, 10] ⟨(some 16), .build [.int .i64 0, .slice none 0 0, .slice none 0 0, .slice none 0 0, .slice none 0 0] [(0, 2, (.tmp 8)), (2, 1, (.tmp 9)), (3, 1, (.tmp 12)), (4, 1, (.tmp 15))], none⟩
  (.alt 9 ⟨(some 17), .box 2 (.tmp 16), none⟩ false
  (.take 10 [] ⟨(some 5), .mov (.tmp 17), none⟩
  .done)
  .none))
  .none)
  (.alt 7 ⟨(some 15), .mk 1 1 8 [.int .i64 0] (.tmp 14) (.tmp 14), none⟩ true
  (.alt 4 ⟨(some 12), .mkv 0 1 24 [.slice none 0 0] (.tmp 11) (.tmp 11), none⟩ true
  (.take 8 [9, 10] ⟨(some 16), .build [.int .i64 0, .slice none 0 0, .slice none 0 0, .slice none 0 0, .slice none 0 0] [(0, 2, (.tmp 8)), (2, 1, (.tmp 9)), (3, 1, (.tmp 12)), (4, 1, (.tmp 15))], none⟩
  (.alt 9 ⟨(some 17), .box 2 (.tmp 16), none⟩ false
  (.take 10 [] ⟨(some 5), .mov (.tmp 17), none⟩
  .done)
  .none))
  .none)
  .none)))))))))
  (.seq
  (.seq
  (.reg 0 [
  ⟨(some 18), .fld 1 (.tmp 2), none⟩,
  ⟨(some 19), .load none (.tmp 18), none⟩,
  ⟨(some 20), .len (.tmp 19), none⟩,
  ⟨(some 21), .mov (.const (.int .i64 0)), none⟩])
  (.block 0
  (.loop c27l0)))
  (.seq
  (.reg 0 [
  ⟨(some 63), .mov (.tmp 5), none⟩,
  ⟨(some 4), .mov (.tmp 63), none⟩])
  .ret))))
def c28a0 : LCode :=
  .reg 1 [
  ⟨(some 9), .alloc 0 (.agg #[.int .i64 0, .int .i64 0, .int .i64 0, .int .i64 0, .bool false]), none⟩,
  ⟨none, .store 5 (.tmp 9) (.tmp 46), none⟩]
def c28r0 : LCode :=
  .block 3
  (.seq
  (.tree 0
  (.take 0 [5, 6] ⟨(some 47), .load none (.tmp 7), none⟩
  (.take 1 [4, 5, 6] ⟨(some 48), .load none (.tmp 2), none⟩
  (.take 2 [4, 5, 6] ⟨(some 49), .load none (.tmp 8), none⟩
  (.take 3 [4, 5, 6] ⟨(some 50), .load (some 5) (.tmp 9), none⟩
  (.alt 4 ⟨(some 51), .call 42 [(.tmp 48), (.tmp 49), (.tmp 50)], none⟩ true
  (.take 5 [6] ⟨(some 52), .bin .add true (.tmp 47) (.tmp 51), none⟩
  (.take 6 [] ⟨(some 10), .mov (.tmp 52), none⟩
  .done))
  .none))))))
  (.seq
  (.reg 0 [
  ⟨(some 53), .mov (.tmp 10), none⟩,
  ⟨(some 54), .load none (.tmp 5), none⟩,
  ⟨(some 55), .fld 1 (.tmp 9), none⟩,
  ⟨(some 56), .load none (.tmp 55), none⟩,
  ⟨(some 57), .idx 1 (.tmp 54) (.tmp 56), none⟩,
  ⟨(some 58), .load none (.tmp 57), none⟩,
  ⟨(some 59), .bin .lss false (.tmp 53) (.tmp 58), none⟩])
  (.cond (.tmp 59)
  (.seq
  (.reg 0 [
  ⟨(some 60), .load none (.tmp 5), none⟩,
  ⟨(some 61), .fld 1 (.tmp 9), none⟩,
  ⟨(some 62), .load none (.tmp 61), none⟩,
  ⟨(some 63), .mov (.tmp 10), none⟩,
  ⟨(some 64), .idx 1 (.tmp 60) (.tmp 62), none⟩,
  ⟨none, .store 1 (.tmp 64) (.tmp 63), none⟩])
  (.reg 0 [
  ⟨(some 65), .load none (.tmp 6), none⟩,
  ⟨(some 66), .mov (.tmp 10), none⟩,
  ⟨(some 67), .fld 1 (.tmp 9), none⟩,
  ⟨(some 68), .load none (.tmp 67), none⟩,
  ⟨(some 69), .call 39 [(.tmp 65), (.tmp 66), (.tmp 68)], none⟩]))
  .skip)))
def c28l0 : LCode :=
  .seq
  (.seq
  (.reg 0 [
  ⟨(some 26), .load none (.tmp 6), none⟩,
  ⟨(some 27), .nilc (.tmp 26), none⟩,
  ⟨(some 28), .fld 0 (.tmp 27), none⟩,
  ⟨(some 29), .load none (.tmp 28), none⟩,
  ⟨(some 30), .len (.tmp 29), none⟩,
  ⟨(some 31), .bin .gtr false (.tmp 30) (.const (.int .i64 0)), none⟩])
  (.cond (.tmp 31)
  .skip
  (.exit 0)))
  (.block 1
  (.seq
  (.reg 2 [
  ⟨(some 33), .load none (.tmp 6), none⟩,
  ⟨(some 34), .call 40 [(.tmp 33)], none⟩,
  ⟨(some 32), .mov (.tmp 34), none⟩,
  ⟨(some 35), .ext (.tmp 32) 0, none⟩,
  ⟨(some 36), .ext (.tmp 32) 1, none⟩,
  ⟨(some 7), .alloc 0 (.int .i64 0), none⟩,
  ⟨(some 8), .alloc 1 (.int .i64 0), none⟩,
  ⟨none, .store 1 (.tmp 7) (.tmp 35), none⟩,
  ⟨none, .store 1 (.tmp 8) (.tmp 36), none⟩])
  (.seq
  (.seq
  (.qui 0 [
  ⟨(some 37), .load none (.tmp 7), none⟩,
  ⟨(some 38), .load none (.tmp 5), none⟩,
  ⟨(some 39), .load none (.tmp 8), none⟩,
  ⟨(some 40), .idx 1 (.tmp 38) (.tmp 39), none⟩,
  ⟨(some 41), .load none (.tmp 40), none⟩,
  ⟨(some 42), .bin .gtr false (.tmp 37) (.tmp 41), none⟩])
  (.cond (.tmp 42)
  (.exit 1)
  .skip))
  (.seq
  (.reg 0 [
  ⟨(some 43), .load none (.tmp 2), none⟩,
  ⟨(some 44), .load none (.tmp 8), none⟩,
  ⟨(some 45), .call 41 [(.tmp 43), (.tmp 44)], none⟩])
  (.block 2
  (.rfn (.tmp 45) [46]
  c28a0 c28r0))))))
def c28 : LCode :=
  (.seq
  (.reg 1 [
  ⟨(some 2), .box 0 (.tmp 0), none⟩,
  ⟨(some 4), .mov (.const (.slice none 0 0)), none⟩])
  (.seq
  (.reg 2 [
  ⟨(some 11), .lits 0 1 1 [.int .i64 0] [(0, (.const (.int .i64 4611686018427387904)))], none⟩,
  ⟨(some 12), .load none (.tmp 2), none⟩,
  ⟨(some 13), .nilc (.tmp 12), none⟩,
  ⟨(some 14), .fld 0 (.tmp 13), none⟩,
  ⟨(some 15), .fld 0 (.tmp 14), none⟩,
  ⟨(some 16), .load none (.tmp 15), none⟩,
  ⟨(some 17), .call 38 [(.tmp 11), (.tmp 16)], none⟩,
  ⟨(some 5), .alloc 1 (.slice none 0 0), none⟩,
  ⟨none, .store 1 (.tmp 5) (.tmp 17), none⟩])
  (.seq
  (.reg 0 [
  ⟨(some 18), .load none (.tmp 5), none⟩,
  ⟨(some 19), .mov (.tmp 1), none⟩,
  ⟨(some 20), .idx 1 (.tmp 18) (.tmp 19), none⟩,
  ⟨none, .store 1 (.tmp 20) (.const (.int .i64 0)), none⟩])
  (.seq
  (.reg 2 [
  ⟨(some 21), .build [.slice none 0 0, .slice none 0 0] [], none⟩,
  ⟨(some 22), .box 0 (.tmp 21), none⟩,
  ⟨(some 6), .alloc 1 (.pointer none), none⟩,
  ⟨none, .store 1 (.tmp 6) (.tmp 22), none⟩])
  (.seq
  (.reg 0 [
  ⟨(some 23), .load none (.tmp 6), none⟩,
  ⟨(some 24), .mov (.tmp 1), none⟩,
  ⟨(some 25), .call 39 [(.tmp 23), (.const (.int .i64 0)), (.tmp 24)], none⟩])
  (.seq
  (.block 0
  (.loop c28l0))
  (.seq
  (.reg 0 [
  ⟨(some 70), .load none (.tmp 5), none⟩,
  ⟨(some 4), .mov (.tmp 70), none⟩])
  .ret)))))))
def c29l0 : LCode :=
  .seq
  (.reg 0 [
  ⟨(some 25), .bin .lss false (.tmp 24) (.tmp 23), none⟩])
  (.seq
  (.cond (.tmp 25)
  .skip
  (.exit 0))
  (.seq
  (.block 1
  (.seq
  (.reg 0 [
  ⟨(some 26), .mov (.tmp 24), none⟩,
  ⟨(some 27), .idx 1 (.tmp 22) (.tmp 24), none⟩,
  ⟨(some 28), .load none (.tmp 27), none⟩,
  ⟨(some 8), .mov (.tmp 26), none⟩,
  ⟨(some 9), .mov (.tmp 28), none⟩])
  (.seq
  (.reg 0 [
  ⟨(some 29), .mov (.tmp 9), none⟩,
  ⟨(some 30), .bin .lss false (.tmp 29) (.const (.int .i64 4611686018427387904)), none⟩])
  (.cond (.tmp 30)
  (.reg 2 [
  ⟨(some 31), .fld 4 (.tmp 7), none⟩,
  ⟨(some 32), .load none (.tmp 31), none⟩,
  ⟨(some 33), .mov (.tmp 8), none⟩,
  ⟨(some 34), .lits 0 1 1 [.int .i64 0] [(0, (.tmp 33))], none⟩,
  ⟨(some 35), .append 1 1 8 (.tmp 32) (.tmp 34), none⟩,
  ⟨(some 36), .fld 4 (.tmp 7), none⟩,
  ⟨none, .store 1 (.tmp 36) (.tmp 35), none⟩])
  .skip))))
  (.reg 0 [
  ⟨(some 37), .bin .add true (.tmp 24) (.const (.int .i64 1)), none⟩,
  ⟨(some 24), .mov (.tmp 37), none⟩])))
def c29 : LCode :=
  (.seq
  (.reg 1 [
  ⟨(some 6), .alloc 0 (.agg #[.int .i64 0, .int .i64 0, .slice none 0 0, .slice none 0 0, .slice none 0 0]), none⟩])
  (.seq
  (.tree 1
  (.take 0 [11, 13] ⟨(some 10), .mov (.tmp 1), none⟩
  (.take 1 [2, 11, 13] ⟨(some 11), .mov (.tmp 0), none⟩
  (.take 3 [4, 5, 6, 11, 13] ⟨(some 13), .mov (.tmp 0), none⟩
  (.take 4 [5, 6, 11, 13] ⟨(some 14), .nilc (.tmp 13), none⟩
  (.take 5 [6, 11, 13] ⟨(some 15), .fld 2 (.tmp 14), none⟩
  (.take 7 [8, 9, 10, 11, 13] ⟨(some 17), .mov (.tmp 0), none⟩
  (.take 8 [9, 10, 11, 13] ⟨(some 18), .nilc (.tmp 17), none⟩
  (.take 9 [10, 11, 13] ⟨(some 19), .fld 4 (.tmp 18), none⟩
  (.alt 2 ⟨(some 12), .call 43 [(.tmp 11)], none⟩ true
  (.take 6 [11, 13] ⟨(some 16), .load none (.tmp 15), none⟩
  (.take 10 [11, 13] ⟨(some 20), .load none (.tmp 19), none⟩
  (.take 11 [13] ⟨(some 21), .build [.int .i64 0, .int .i64 0, .slice none 0 0, .slice none 0 0, .slice none 0 0] [(0, 1, (.tmp 10)), (1, 1, (.tmp 12)), (2, 1, (.tmp 16)), (3, 1, (.tmp 20))], none⟩
  (.alt 12 ⟨(some 7), .alloc 0 (.agg #[.int .i64 0, .int .i64 0, .slice none 0 0, .slice none 0 0, .slice none 0 0]), none⟩ true
  (.alt 13 ⟨none, .store 5 (.tmp 7) (.tmp 21), none⟩ false
  .done
  .none)
  .none))))
  (.alt 6 ⟨(some 16), .load none (.tmp 15), none⟩ true
  (.alt 2 ⟨(some 12), .call 43 [(.tmp 11)], none⟩ true
  (.take 10 [11, 13] ⟨(some 20), .load none (.tmp 19), none⟩
  (.take 11 [13] ⟨(some 21), .build [.int .i64 0, .int .i64 0, .slice none 0 0, .slice none 0 0, .slice none 0 0] [(0, 1, (.tmp 10)), (1, 1, (.tmp 12)), (2, 1, (.tmp 16)), (3, 1, (.tmp 20))], none⟩
  (.alt 12 ⟨(some 7), .alloc 0 (.agg #[.int .i64 0, .int .i64 0, .slice none 0 0, .slice none 0 0, .slice none 0 0]), none⟩ true
  (.alt 13 ⟨none, .store 5 (.tmp 7) (.tmp 21), none⟩ false
  .done
  .none)
  .none)))
  (.alt 10 ⟨(some 20), .load none (.tmp 19), none⟩ true
  (.alt 2 ⟨(some 12), .call 43 [(.tmp 11)], none⟩ true
  (.take 11 [13] ⟨(some 21), .build [.int .i64 0, .int .i64 0, .slice none 0 0, .slice none 0 0, .slice none 0 0] [(0, 1, (.tmp 10)), (1, 1, (.tmp 12)), (2, 1, (.tmp 16)), (3, 1, (.tmp 20))], none⟩
  (.alt 12 ⟨(some 7), .alloc 0 (.agg #[.int .i64 0, .int .i64 0, .slice none 0 0, .slice none 0 0, .slice none 0 0]), none⟩ true
  (.alt 13 ⟨none, .store 5 (.tmp 7) (.tmp 21), none⟩ false
  .done
  .none)
  .none))
  (.alt 12 ⟨(some 7), .alloc 0 (.agg #[.int .i64 0, .int .i64 0, .slice none 0 0, .slice none 0 0, .slice none 0 0]), none⟩ true
  (.alt 2 ⟨(some 12), .call 43 [(.tmp 11)], none⟩ true
  (.take 11 [13] ⟨(some 21), .build [.int .i64 0, .int .i64 0, .slice none 0 0, .slice none 0 0, .slice none 0 0] [(0, 1, (.tmp 10)), (1, 1, (.tmp 12)), (2, 1, (.tmp 16)), (3, 1, (.tmp 20))], none⟩
  (.alt 13 ⟨none, .store 5 (.tmp 7) (.tmp 21), none⟩ false
  .done
  .none))
  .none)
  .none))
  (.alt 12 ⟨(some 7), .alloc 0 (.agg #[.int .i64 0, .int .i64 0, .slice none 0 0, .slice none 0 0, .slice none 0 0]), none⟩ true
  (.alt 2 ⟨(some 12), .call 43 [(.tmp 11)], none⟩ true
  (.take 10 [11, 13] ⟨(some 20), .load none (.tmp 19), none⟩
  (.take 11 [13] ⟨(some 21), .build [.int .i64 0, .int .i64 0, .slice none 0 0, .slice none 0 0, .slice none 0 0] [(0, 1, (.tmp 10)), (1, 1, (.tmp 12)), (2, 1, (.tmp 16)), (3, 1, (.tmp 20))], none⟩
  (.alt 13 ⟨none, .store 5 (.tmp 7) (.tmp 21), none⟩ false
  .done
  .none)))
  (.alt 10 ⟨(some 20), .load none (.tmp 19), none⟩ true
  (.alt 2 ⟨(some 12), .call 43 [(.tmp 11)], none⟩ true
  (.take 11 [13] ⟨(some 21), .build [.int .i64 0, .int .i64 0, .slice none 0 0, .slice none 0 0, .slice none 0 0] [(0, 1, (.tmp 10)), (1, 1, (.tmp 12)), (2, 1, (.tmp 16)), (3, 1, (.tmp 20))], none⟩
  (.alt 13 ⟨none, .store 5 (.tmp 7) (.tmp 21), none⟩ false
  .done
  .none))
  .none)
  .none))
  .none)))
  (.alt 10 ⟨(some 20), .load none (.tmp 19), none⟩ true
  (.alt 2 ⟨(some 12), .call 43 [(.tmp 11)], none⟩ true
  (.take 6 [11, 13] ⟨(some 16), .load none (.tmp 15), none⟩
  (.take 11 [13] ⟨(some 21), .build [.int .i64 0, .int .i64 0, .slice none 0 0, .slice none 0 0, .slice none 0 0] [(0, 1, (.tmp 10)), (1, 1, (.tmp 12)), (2, 1, (.tmp 16)), (3, 1, (.tmp 20))], none⟩
  (.alt 12 ⟨(some 7), .alloc 0 (.agg #[.int .i64 0, .int .i64 0, .slice none 0 0, .slice none 0 0, .slice none 0 0]), none⟩ true
  (.alt 13 ⟨none, .store 5 (.tmp 7) (.tmp 21), none⟩ false
  .done
  .none)
  .none)))
  (.alt 6 ⟨(some 16), .load none (.tmp 15), none⟩ true
  (.alt 2 ⟨(some 12), .call 43 [(.tmp 11)], none⟩ true
  (.take 11 [13] ⟨(some 21), .build [.int .i64 0, .int .i64 0, .slice none 0 0, .slice none 0 0, .slice none 0 0] [(0, 1, (.tmp 10)), (1, 1, (.tmp 12)), (2, 1, (.tmp 16)), (3, 1, (.tmp 20))], none⟩
  (.alt 12 ⟨(some 7), .alloc 0 (.agg #[.int .i64 0, .int .i64 0, .slice none 0 0, .slice none 0 0, .slice none 0 0]), none⟩ true
  (.alt 13 ⟨none, .store 5 (.tmp 7) (.tmp 21), none⟩ false
  .done
  .none)
  .none))
  (.alt 12 ⟨(some 7), .alloc 0 (.agg #[.int .i64 0, .int .i64 0, .slice none 0 0, .slice none 0 0, .slice none 0 0]), none⟩ true
  (.alt 2 ⟨(some 12), .call 43 [(.tmp 11)], none⟩ true
  (.take 11 [13] ⟨(some 21), .build [.int .i64 0, .int .i64 0, .slice none 0 0, .slice none 0 0, .slice none 0 0] [(0, 1, (.tmp 10)), (1, 1, (.tmp 12)), (2, 1, (.tmp 16)), (3, 1, (.tmp 20))], none⟩
  (.alt 13 ⟨none, .store 5 (.tmp 7) (.tmp 21), none⟩ false
  .done
  .none))
  .none)
  .none))
  (.alt 12 ⟨(some 7), .alloc 0 (.agg #[.int .i64 0, .int .i64 0, .slice none 0 0, .slice none 0 0, .slice none 0 0]), none⟩ true
  (.alt 2 ⟨(some 12), .call 43 [(.tmp 11)], none⟩ true
  (.take 6 [11, 13] ⟨(some 16), .load none (.tmp 15), none⟩
  (.take 11 [13] ⟨(some 21), .build [.int .i64 0, .int .i64 0, .slice none 0 0, .slice none 0 0, .slice none 0 0] [(0, 1, (.tmp 10)), (1, 1, (.tmp 12)), (2, 1, (.tmp 16)), (3, 1, (.tmp 20))], none⟩
  (.alt 13 ⟨none, .store 5 (.tmp 7) (.tmp 21), none⟩ false
  .done
  .none)))
  (.alt 6 ⟨(some 16), .load none (.tmp 15), none⟩ true
  (.alt 2 ⟨(some 12), .call 43 [(.tmp 11)], none⟩ true
  (.take 11 [13] ⟨(some 21), .build [.int .i64 0, .int .i64 0, .slice none 0 0, .slice none 0 0, .slice none 0 0] [(0, 1, (.tmp 10)), (1, 1, (.tmp 12)), (2, 1, (.tmp 16)), (3, 1, (.tmp 20))], none⟩
  (.alt 13 ⟨none, .store 5 (.tmp 7) (.tmp 21), none⟩ false
  .done
  .none))
  .none)
  .none))
  .none)))
  (.alt 12 ⟨(some 7), .alloc 0 (.agg #[.int .i64 0, .int .i64 0, .slice none 0 0, .slice none 0 0, .slice none 0 0]), none⟩ true
  (.alt 2 ⟨(some 12), .call 43 [(.tmp 11)], none⟩ true
  (.take 6 [11, 13] ⟨(some 16), .load none (.tmp 15), none⟩
  (.take 10 [11, 13] ⟨(some 20), .load none (.tmp 19), none⟩
  (.take 11 [13] ⟨(some 21), .build [.int .i64 0, .int .i64 0, .slice none 0 0, .slice none 0 0, .slice none 0 0] [(0, 1, (.tmp 10)), (1, 1, (.tmp 12)), (2, 1, (.tmp 16)), (3, 1, (.tmp 20))], none⟩
  (.alt 13 ⟨none, .store 5 (.tmp 7) (.tmp 21), none⟩ false
  .done
  .none))))
  (.alt 6 ⟨(some 16), .load none (.tmp 15), none⟩ true
  (.alt 2 ⟨(some 12), .call 43 [(.tmp 11)], none⟩ true
  (.take 10 [11, 13] ⟨(some 20), .load none (.tmp 19), none⟩
  (.take 11 [13] ⟨(some 21), .build [.int .i64 0, .int .i64 0, .slice none 0 0, .slice none 0 0, .slice none 0 0] [(0, 1, (.tmp 10)), (1, 1, (.tmp 12)), (2, 1, (.tmp 16)), (3, 1, (.tmp 20))], none⟩
  (.alt 13 ⟨none, .store 5 (.tmp 7) (.tmp 21), none⟩ false
  .done
  .none)))
  (.alt 10 ⟨(some 20), .load none (.tmp 19), none⟩ true
  (.alt 2 ⟨(some 12), .call 43 [(.tmp 11)], none⟩ true
  (.take 11 [13] ⟨(some 21), .build [.int .i64 0, .int .i64 0, .slice none 0 0, .slice none 0 0, .slice none 0 0] [(0, 1, (.tmp 10)), (1, 1, (.tmp 12)), (2, 1, (.tmp 16)), (3, 1, (.tmp 20))], none⟩
  (.alt 13 ⟨none, .store 5 (.tmp 7) (.tmp 21), none⟩ false
  .done
  .none))
  .none)
  .none))
  (.alt 10 ⟨(some 20), .load none (.tmp 19), none⟩ true
  (.alt 2 ⟨(some 12), .call 43 [(.tmp 11)], none⟩ true
  (.take 6 [11, 13] ⟨(some 16), .load none (.tmp 15), none⟩
  (.take 11 [13] ⟨(some 21), .build [.int .i64 0, .int .i64 0, .slice none 0 0, .slice none 0 0, .slice none 0 0] [(0, 1, (.tmp 10)), (1, 1, (.tmp 12)), (2, 1, (.tmp 16)), (3, 1, (.tmp 20))], none⟩
  (.alt 13 ⟨none, .store 5 (.tmp 7) (.tmp 21), none⟩ false
  .done
  .none)))
  (.alt 6 ⟨(some 16), .load none (.tmp 15), none⟩ true
  (.alt 2 ⟨(some 12), .call 43 [(.tmp 11)], none⟩ true
  (.take 11 [13] ⟨(some 21), .build [.int .i64 0, .int .i64 0, .slice none 0 0, .slice none 0 0, .slice none 0 0] [(0, 1, (.tmp 10)), (1, 1, (.tmp 12)), (2, 1, (.tmp 16)), (3, 1, (.tmp 20))], none⟩
  (.alt 13 ⟨none, .store 5 (.tmp 7) (.tmp 21), none⟩ false
  .done
  .none))
  .none)
  .none))
  .none)))
  .none)))))))))))))
  (.seq
  (.seq
  (.reg 0 [
  ⟨(some 22), .mov (.tmp 2), none⟩,
  ⟨(some 23), .len (.tmp 22), none⟩,
  ⟨(some 24), .mov (.const (.int .i64 0)), none⟩])
  (.block 0
  (.loop c29l0)))
  (.seq
  (.reg 0 [
  ⟨(some 38), .load (some 5) (.tmp 7), none⟩,
  ⟨none, .store 5 (.tmp 6) (.tmp 38), none⟩])
  .ret))))
def c30 : LCode :=
  (.seq
  (.reg 2 [
  ⟨(some 4), .box 0 (.tmp 0), none⟩,
  ⟨(some 6), .box 1 (.tmp 2), none⟩,
  ⟨(some 8), .mov (.const (.int .i64 0)), none⟩])
  (.seq
  (.reg 2 [
  ⟨(some 11), .load none (.tmp 4), none⟩,
  ⟨(some 12), .nilc (.tmp 11), none⟩,
  ⟨(some 13), .fld 0 (.tmp 12), none⟩,
  ⟨(some 14), .fld 0 (.tmp 13), none⟩,
  ⟨(some 15), .load none (.tmp 14), none⟩,
  ⟨(some 16), .mk 0 1 1 [.bool false] (.tmp 15) (.tmp 15), none⟩,
  ⟨(some 9), .alloc 1 (.slice none 0 0), none⟩,
  ⟨none, .store 1 (.tmp 9) (.tmp 16), none⟩])
  (.seq
  (.reg 1 [
  ⟨(some 10), .alloc 0 (.nilFunc), none⟩])
  (.seq
  (.reg 0 [
  ⟨(some 17), .fn 44 [(.tmp 6), (.tmp 9), (.tmp 4), (.tmp 10)], none⟩,
  ⟨none, .store 1 (.tmp 10) (.tmp 17), none⟩])
  (.seq
  (.reg 0 [
  ⟨(some 18), .load none (.tmp 10), none⟩,
  ⟨(some 19), .mov (.tmp 1), none⟩,
  ⟨(some 20), .mov (.tmp 3), none⟩,
  ⟨(some 21), .callv (.tmp 18) [(.tmp 19), (.tmp 20)], none⟩,
  ⟨(some 8), .mov (.tmp 21), none⟩])
  .ret)))))
def c31l0 : LCode :=
  .seq
  (.seq
  (.reg 0 [
  ⟨(some 14), .mov (.tmp 8), none⟩,
  ⟨(some 15), .fld 0 (.tmp 3), none⟩,
  ⟨(some 16), .load none (.tmp 15), none⟩,
  ⟨(some 17), .bin .lss false (.tmp 14) (.tmp 16), none⟩])
  (.cond (.tmp 17)
  .skip
  (.exit 0)))
  (.seq
  (.block 1
  (.seq
  (.tree 2
  (.take 0 [1, 4, 5, 6] ⟨(some 20), .fld 0 (.tmp 7), none⟩
  (.take 1 [4, 5, 6] ⟨(some 21), .load none (.tmp 20), none⟩
  (.alt 2 ⟨(some 22), .call 32 [], none⟩ true
  (.alt 3 ⟨(some 23), .lits 0 1 1 [.int .i64 0] [(0, (.tmp 22))], none⟩ true
  (.alt 4 ⟨(some 24), .append 1 1 8 (.tmp 21) (.tmp 23), none⟩ false
  (.take 5 [6] ⟨(some 25), .fld 0 (.tmp 7), none⟩
  (.alt 6 ⟨none, .store 1 (.tmp 25) (.tmp 24), none⟩ false
  .done
  .none))
  .none)
  .none)
  .none))))
  (.reg 2 [
  ⟨(some 26), .fld 1 (.tmp 7), none⟩,
  ⟨(some 27), .load none (.tmp 26), none⟩,
  ⟨(some 28), .lits 0 1 1 [.int .i64 0] [(0, (.const (.int .i64 0)))], none⟩,
  ⟨(some 29), .append 1 1 8 (.tmp 27) (.tmp 28), none⟩,
  ⟨(some 30), .fld 1 (.tmp 7), none⟩,
  ⟨none, .store 1 (.tmp 30) (.tmp 29), none⟩])))
  (.reg 0 [
  ⟨(some 18), .mov (.tmp 8), none⟩,
  ⟨(some 19), .bin .add true (.tmp 18) (.const (.int .i64 1)), none⟩,
  ⟨(some 8), .mov (.tmp 19), none⟩]))
def c31l2 : LCode :=
  .seq
  (.seq
  (.reg 0 [
  ⟨(some 41), .mov (.tmp 11), none⟩,
  ⟨(some 42), .fld 1 (.tmp 3), none⟩,
  ⟨(some 43), .load none (.tmp 42), none⟩,
  ⟨(some 44), .len (.tmp 43), none⟩,
  ⟨(some 45), .bin .lss false (.tmp 41) (.tmp 44), none⟩])
  (.cond (.tmp 45)
  .skip
  (.exit 4)))
  (.seq
  (.block 5
  (.seq
  (.reg 1 [
  ⟨(some 48), .fld 1 (.tmp 3), none⟩,
  ⟨(some 49), .load none (.tmp 48), none⟩,
  ⟨(some 50), .mov (.tmp 11), none⟩,
  ⟨(some 51), .idx 4 (.tmp 49) (.tmp 50), none⟩,
  ⟨(some 52), .load (some 4) (.tmp 51), none⟩,
  ⟨(some 12), .alloc 0 (.agg #[.int .i64 0, .int .i64 0, .int .i64 0, .int .i64 0]), none⟩,
  ⟨none, .store 4 (.tmp 12) (.tmp 52), none⟩])
  (.seq
  (.seq
  (.tree 0
  (.take 0 [2, 3, 6, 7, 8, 9, 10, 11, 12, 13, 14, 15, 16, 17, 18, 19, 20, 21, 22, 23, 24, 25, 26, 27, 28, 29, 30, 31, 32, 33, 34] ⟨(some 53), .mov (.tmp 2), none⟩
  (.take 1 [2, 3, 6, 7, 8, 9, 10, 11, 12, 13, 14, 15, 16, 17, 18, 19, 20, 21, 22, 23, 24, 25, 26, 27, 28, 29, 30, 31, 32, 33, 34] ⟨(some 54), .mov (.tmp 11), none⟩
  (.take 2 [3, 6, 7, 8, 9, 10, 11, 12, 13, 14, 15, 16, 17, 18, 19, 20, 21, 22, 23, 24, 25, 26, 27, 28, 29, 30, 31, 32, 33, 34] ⟨(some 55), .idx 1 (.tmp 53) (.tmp 54), none⟩
  (.take 3 [6, 7, 8, 9, 10, 11, 12, 13, 14, 15, 16, 17, 18, 19, 20, 21, 22, 23, 24, 25, 26, 27, 28, 29, 30, 31, 32, 33, 34] ⟨(some 56), .load none (.tmp 55), none⟩
  (.take 4 [5, 6, 7, 8, 9, 10, 11, 12, 13, 14, 15, 16, 17, 18, 19, 20, 21, 22, 23, 24, 25, 26, 27, 28, 29, 30, 31, 32, 33, 34] ⟨(some 57), .fld 2 (.tmp 12), none⟩
  (.take 5 [6, 7, 8, 9, 10, 11, 12, 13, 14, 15, 16, 17, 18, 19, 20, 21, 22, 23, 24, 25, 26, 27, 28, 29, 30, 31, 32, 33, 34] ⟨(some 58), .load none (.tmp 57), none⟩
  (.take 6 [7, 8, 9, 10, 11, 12, 13, 14, 15, 16, 17, 18, 19, 20, 21, 22, 23, 24, 25, 26, 27, 28, 29, 30, 31, 32, 33, 34] ⟨(some 59), .bin .lss false (.tmp 56) (.tmp 58), none⟩
  (.take 7 [8, 9, 10, 11, 12, 13, 14, 15, 16, 17, 18, 19, 20, 21, 22, 23, 24, 25, 26, 27, 28, 29, 30, 31, 32, 33, 34] ⟨(some 60), .mov (.tmp 59), none⟩
  (.take 8 [9, 12, 13, 15, 16, 17, 18, 19, 20, 21, 22, 23, 24, 25, 26, 27, 28, 29, 30, 31, 32, 33, 34] ⟨(some 61), .fld 0 (.tmp 7), (some (60, true))⟩
  (.take 9 [12, 13, 15, 16, 17, 18, 19, 20, 21, 22, 23, 24, 25, 26, 27, 28, 29, 30, 31, 32, 33, 34] ⟨(some 62), .load none (.tmp 61), (some (60, true))⟩
  (.take 10 [11, 12, 13, 15, 16, 17, 18, 19, 20, 21, 22, 23, 24, 25, 26, 27, 28, 29, 30, 31, 32, 33, 34] ⟨(some 63), .fld 0 (.tmp 12), (some (60, true))⟩
  (.take 11 [12, 13, 15, 16, 17, 18, 19, 20, 21, 22, 23, 24, 25, 26, 27, 28, 29, 30, 31, 32, 33, 34] ⟨(some 64), .load none (.tmp 63), (some (60, true))⟩
  (.take 12 [13, 15, 16, 17, 18, 19, 20, 21, 22, 23, 24, 25, 26, 27, 28, 29, 30, 31, 32, 33, 34] ⟨(some 65), .idx 1 (.tmp 62) (.tmp 64), (some (60, true))⟩
  (.take 13 [15, 16, 17, 18, 19, 20, 21, 22, 23, 24, 25, 26, 27, 28, 29, 30, 31, 32, 33, 34] ⟨(some 66), .load none (.tmp 65), (some (60, true))⟩
  (.alt 14 ⟨(some 67), .call 32 [], (some (60, true))⟩ true
  (.take 15 [16, 17, 18, 19, 20, 21, 22, 23, 24, 25, 26, 27, 28, 29, 30, 31, 32, 33, 34] ⟨(some 68), .bin .lss false (.tmp 66) (.tmp 67), (some (60, true))⟩
  (.take 16 [17, 18, 19, 20, 21, 22, 23, 24, 25, 26, 27, 28, 29, 30, 31, 32, 33, 34] ⟨(some 69), .pick (.tmp 60) (.tmp 68) (.const (.bool false)), none⟩
  (.take 17 [18, 19, 20, 21, 22, 23, 24, 25, 26, 27, 28, 29, 30, 31, 32, 33, 34] ⟨(some 70), .mov (.tmp 69), none⟩
  (.take 18 [19, 22, 23, 26, 33, 34] ⟨(some 71), .fld 0 (.tmp 7), (some (70, true))⟩
  (.take 19 [22, 23, 26, 33, 34] ⟨(some 72), .load none (.tmp 71), (some (70, true))⟩
  (.take 20 [21, 22, 23, 26, 33, 34] ⟨(some 73), .fld 0 (.tmp 12), (some (70, true))⟩
  (.take 21 [22, 23, 26, 33, 34] ⟨(some 74), .load none (.tmp 73), (some (70, true))⟩
  (.take 22 [23, 26, 33, 34] ⟨(some 75), .idx 1 (.tmp 72) (.tmp 74), (some (70, true))⟩
  (.take 23 [26, 33, 34] ⟨(some 76), .load none (.tmp 75), (some (70, true))⟩
  (.take 24 [25, 26, 33, 34] ⟨(some 77), .fld 3 (.tmp 12), (some (70, true))⟩
  (.take 25 [26, 33, 34] ⟨(some 78), .load none (.tmp 77), (some (70, true))⟩
  (.take 26 [33, 34] ⟨(some 79), .bin .add true (.tmp 76) (.tmp 78), (some (70, true))⟩
  (.take 27 [28, 31, 32, 33, 34] ⟨(some 80), .fld 0 (.tmp 7), (some (70, true))⟩
  (.take 28 [31, 32, 33, 34] ⟨(some 81), .load none (.tmp 80), (some (70, true))⟩
  (.take 29 [30, 31, 32, 33, 34] ⟨(some 82), .fld 1 (.tmp 12), (some (70, true))⟩
  (.take 30 [31, 32, 33, 34] ⟨(some 83), .load none (.tmp 82), (some (70, true))⟩
  (.take 31 [32, 33, 34] ⟨(some 84), .idx 1 (.tmp 81) (.tmp 83), (some (70, true))⟩
  (.take 32 [33, 34] ⟨(some 85), .load none (.tmp 84), (some (70, true))⟩
  (.take 33 [34] ⟨(some 86), .bin .lss false (.tmp 79) (.tmp 85), (some (70, true))⟩
  (.take 34 [] ⟨(some 87), .pick (.tmp 70) (.tmp 86) (.const (.bool false)), none⟩
  .done))))))))))))))))))))
  .none))))))))))))))))
  (.cond (.tmp 87)
  (.seq
  (.tail 14 0 [
  ⟨(some 88), .fld 0 (.tmp 7), none⟩,
  ⟨(some 89), .load none (.tmp 88), none⟩,
  ⟨(some 90), .fld 1 (.tmp 12), none⟩,
  ⟨(some 91), .load none (.tmp 90), none⟩,
  ⟨(some 92), .fld 0 (.tmp 7), none⟩,
  ⟨(some 93), .load none (.tmp 92), none⟩,
  ⟨(some 94), .fld 0 (.tmp 12), none⟩,
  ⟨(some 95), .load none (.tmp 94), none⟩,
  ⟨(some 96), .idx 1 (.tmp 93) (.tmp 95), none⟩,
  ⟨(some 97), .load none (.tmp 96), none⟩,
  ⟨(some 98), .fld 3 (.tmp 12), none⟩,
  ⟨(some 99), .load none (.tmp 98), none⟩,
  ⟨(some 100), .bin .add true (.tmp 97) (.tmp 99), none⟩,
  ⟨(some 101), .idx 1 (.tmp 89) (.tmp 91), none⟩,
  ⟨none, .store 1 (.tmp 101) (.tmp 100), none⟩])
  (.seq
  (.reg 0 [
  ⟨(some 102), .fld 1 (.tmp 7), none⟩,
  ⟨(some 103), .load none (.tmp 102), none⟩,
  ⟨(some 104), .fld 1 (.tmp 12), none⟩,
  ⟨(some 105), .load none (.tmp 104), none⟩,
  ⟨(some 106), .mov (.tmp 11), none⟩,
  ⟨(some 107), .bin .add true (.tmp 106) (.const (.int .i64 1)), none⟩,
  ⟨(some 108), .idx 1 (.tmp 103) (.tmp 105), none⟩,
  ⟨none, .store 1 (.tmp 108) (.tmp 107), none⟩])
  (.reg 0 [
  ⟨(some 10), .mov (.const (.bool true)), none⟩])))
  .skip))
  (.seq
  (.tree 0
  (.take 0 [2, 3, 4, 5, 6, 7, 8, 9, 10, 11, 12, 13, 14, 15, 16, 17, 18, 19, 20, 21, 22, 23, 24, 25, 26, 27, 28, 29, 30, 31, 32] ⟨(some 109), .mov (.tmp 2), none⟩
  (.take 1 [2, 3, 4, 5, 6, 7, 8, 9, 10, 11, 12, 13, 14, 15, 16, 17, 18, 19, 20, 21, 22, 23, 24, 25, 26, 27, 28, 29, 30, 31, 32] ⟨(some 110), .mov (.tmp 11), none⟩
  (.take 2 [3, 4, 5, 6, 7, 8, 9, 10, 11, 12, 13, 14, 15, 16, 17, 18, 19, 20, 21, 22, 23, 24, 25, 26, 27, 28, 29, 30, 31, 32] ⟨(some 111), .idx 1 (.tmp 109) (.tmp 110), none⟩
  (.take 3 [4, 5, 6, 7, 8, 9, 10, 11, 12, 13, 14, 15, 16, 17, 18, 19, 20, 21, 22, 23, 24, 25, 26, 27, 28, 29, 30, 31, 32] ⟨(some 112), .load none (.tmp 111), none⟩
  (.take 4 [5, 6, 7, 8, 9, 10, 11, 12, 13, 14, 15, 16, 17, 18, 19, 20, 21, 22, 23, 24, 25, 26, 27, 28, 29, 30, 31, 32] ⟨(some 113), .bin .gtr false (.tmp 112) (.const (.int .i64 0)), none⟩
  (.take 5 [6, 7, 8, 9, 10, 11, 12, 13, 14, 15, 16, 17, 18, 19, 20, 21, 22, 23, 24, 25, 26, 27, 28, 29, 30, 31, 32] ⟨(some 114), .mov (.tmp 113), none⟩
  (.take 6 [7, 10, 11, 13, 14, 15, 16, 17, 18, 19, 20, 21, 22, 23, 24, 25, 26, 27, 28, 29, 30, 31, 32] ⟨(some 115), .fld 0 (.tmp 7), (some (114, true))⟩
  (.take 7 [10, 11, 13, 14, 15, 16, 17, 18, 19, 20, 21, 22, 23, 24, 25, 26, 27, 28, 29, 30, 31, 32] ⟨(some 116), .load none (.tmp 115), (some (114, true))⟩
  (.take 8 [9, 10, 11, 13, 14, 15, 16, 17, 18, 19, 20, 21, 22, 23, 24, 25, 26, 27, 28, 29, 30, 31, 32] ⟨(some 117), .fld 1 (.tmp 12), (some (114, true))⟩
  (.take 9 [10, 11, 13, 14, 15, 16, 17, 18, 19, 20, 21, 22, 23, 24, 25, 26, 27, 28, 29, 30, 31, 32] ⟨(some 118), .load none (.tmp 117), (some (114, true))⟩
  (.take 10 [11, 13, 14, 15, 16, 17, 18, 19, 20, 21, 22, 23, 24, 25, 26, 27, 28, 29, 30, 31, 32] ⟨(some 119), .idx 1 (.tmp 116) (.tmp 118), (some (114, true))⟩
  (.take 11 [13, 14, 15, 16, 17, 18, 19, 20, 21, 22, 23, 24, 25, 26, 27, 28, 29, 30, 31, 32] ⟨(some 120), .load none (.tmp 119), (some (114, true))⟩
  (.alt 12 ⟨(some 121), .call 32 [], (some (114, true))⟩ true
  (.take 13 [14, 15, 16, 17, 18, 19, 20, 21, 22, 23, 24, 25, 26, 27, 28, 29, 30, 31, 32] ⟨(some 122), .bin .lss false (.tmp 120) (.tmp 121), (some (114, true))⟩
  (.take 14 [15, 16, 17, 18, 19, 20, 21, 22, 23, 24, 25, 26, 27, 28, 29, 30, 31, 32] ⟨(some 123), .pick (.tmp 114) (.tmp 122) (.const (.bool false)), none⟩
  (.take 15 [16, 17, 18, 19, 20, 21, 22, 23, 24, 25, 26, 27, 28, 29, 30, 31, 32] ⟨(some 124), .mov (.tmp 123), none⟩
  (.take 16 [17, 20, 21, 24, 31, 32] ⟨(some 125), .fld 0 (.tmp 7), (some (124, true))⟩
  (.take 17 [20, 21, 24, 31, 32] ⟨(some 126), .load none (.tmp 125), (some (124, true))⟩
  (.take 18 [19, 20, 21, 24, 31, 32] ⟨(some 127), .fld 1 (.tmp 12), (some (124, true))⟩
  (.take 19 [20, 21, 24, 31, 32] ⟨(some 128), .load none (.tmp 127), (some (124, true))⟩
  (.take 20 [21, 24, 31, 32] ⟨(some 129), .idx 1 (.tmp 126) (.tmp 128), (some (124, true))⟩
  (.take 21 [24, 31, 32] ⟨(some 130), .load none (.tmp 129), (some (124, true))⟩
  (.take 22 [23, 24, 31, 32] ⟨(some 131), .fld 3 (.tmp 12), (some (124, true))⟩
  (.take 23 [24, 31, 32] ⟨(some 132), .load none (.tmp 131), (some (124, true))⟩
  (.take 24 [31, 32] ⟨(some 133), .bin .sub true (.tmp 130) (.tmp 132), (some (124, true))⟩
  (.take 25 [26, 29, 30, 31, 32] ⟨(some 134), .fld 0 (.tmp 7), (some (124, true))⟩
  (.take 26 [29, 30, 31, 32] ⟨(some 135), .load none (.tmp 134), (some (124, true))⟩
  (.take 27 [28, 29, 30, 31, 32] ⟨(some 136), .fld 0 (.tmp 12), (some (124, true))⟩
  (.take 28 [29, 30, 31, 32] ⟨(some 137), .load none (.tmp 136), (some (124, true))⟩
  (.take 29 [30, 31, 32] ⟨(some 138), .idx 1 (.tmp 135) (.tmp 137), (some (124, true))⟩
  (.take 30 [31, 32] ⟨(some 139), .load none (.tmp 138), (some (124, true))⟩
  (.take 31 [32] ⟨(some 140), .bin .lss false (.tmp 133) (.tmp 139), (some (124, true))⟩
  (.take 32 [] ⟨(some 141), .pick (.tmp 124) (.tmp 140) (.const (.bool false)), none⟩
  .done))))))))))))))))))))
  .none))))))))))))))
  (.cond (.tmp 141)
  (.seq
  (.tail 14 0 [
  ⟨(some 142), .fld 0 (.tmp 7), none⟩,
  ⟨(some 143), .load none (.tmp 142), none⟩,
  ⟨(some 144), .fld 0 (.tmp 12), none⟩,
  ⟨(some 145), .load none (.tmp 144), none⟩,
  ⟨(some 146), .fld 0 (.tmp 7), none⟩,
  ⟨(some 147), .load none (.tmp 146), none⟩,
  ⟨(some 148), .fld 1 (.tmp 12), none⟩,
  ⟨(some 149), .load none (.tmp 148), none⟩,
  ⟨(some 150), .idx 1 (.tmp 147) (.tmp 149), none⟩,
  ⟨(some 151), .load none (.tmp 150), none⟩,
  ⟨(some 152), .fld 3 (.tmp 12), none⟩,
  ⟨(some 153), .load none (.tmp 152), none⟩,
  ⟨(some 154), .bin .sub true (.tmp 151) (.tmp 153), none⟩,
  ⟨(some 155), .idx 1 (.tmp 143) (.tmp 145), none⟩,
  ⟨none, .store 1 (.tmp 155) (.tmp 154), none⟩])
  (.seq
  (.reg 0 [
  ⟨(some 156), .fld 1 (.tmp 7), none⟩,
  ⟨(some 157), .load none (.tmp 156), none⟩,
  ⟨(some 158), .fld 0 (.tmp 12), none⟩,
  ⟨(some 159), .load none (.tmp 158), none⟩,
  ⟨(some 160), .mov (.tmp 11), none⟩,
  ⟨(some 161), .neg (.tmp 160), none⟩,
  ⟨(some 162), .bin .sub true (.tmp 161) (.const (.int .i64 1)), none⟩,
  ⟨(some 163), .idx 1 (.tmp 157) (.tmp 159), none⟩,
  ⟨none, .store 1 (.tmp 163) (.tmp 162), none⟩])
  (.reg 0 [
  ⟨(some 10), .mov (.const (.bool true)), none⟩])))
  .skip)))))
  (.reg 0 [
  ⟨(some 46), .mov (.tmp 11), none⟩,
  ⟨(some 47), .bin .add true (.tmp 46) (.const (.int .i64 1)), none⟩,
  ⟨(some 11), .mov (.tmp 47), none⟩]))
def c31l1 : LCode :=
  .seq
  (.seq
  (.reg 0 [
  ⟨(some 35), .mov (.tmp 9), none⟩,
  ⟨(some 36), .fld 0 (.tmp 3), none⟩,
  ⟨(some 37), .load none (.tmp 36), none⟩,
  ⟨(some 38), .bin .leq false (.tmp 35) (.tmp 37), none⟩])
  (.cond (.tmp 38)
  .skip
  (.exit 2)))
  (.seq
  (.block 3
  (.seq
  (.reg 0 [
  ⟨(some 10), .mov (.const (.bool false)), none⟩])
  (.seq
  (.seq
  (.reg 0 [
  ⟨(some 11), .mov (.const (.int .i64 0)), none⟩])
  (.block 4
  (.loop c31l2)))
  (.seq
  (.reg 0 [
  ⟨(some 164), .mov (.tmp 10), none⟩,
  ⟨(some 165), .not (.tmp 164), none⟩])
  (.cond (.tmp 165)
  (.seq
  (.reg 0 [
  ⟨(some 166), .load (some 2) (.tmp 7), none⟩,
  ⟨none, .store 2 (.tmp 6) (.tmp 166), none⟩])
  .ret)
  .skip)))))
  (.reg 0 [
  ⟨(some 39), .mov (.tmp 9), none⟩,
  ⟨(some 40), .bin .add true (.tmp 39) (.const (.int .i64 1)), none⟩,
  ⟨(some 9), .mov (.tmp 40), none⟩]))
def c31 : LCode :=
  (.seq
  (.reg 2 [
  ⟨(some 3), .box 0 (.tmp 0), none⟩,
  ⟨(some 6), .alloc 1 (.agg #[.slice none 0 0, .slice none 0 0]), none⟩])
  (.seq
  (.reg 1 [
  ⟨(some 13), .build [.slice none 0 0, .slice none 0 0] [], none⟩,
  ⟨(some 7), .alloc 0 (.agg #[.slice none 0 0, .slice none 0 0]), none⟩,
  ⟨none, .store 2 (.tmp 7) (.tmp 13), none⟩])
  (.seq
  (.seq
  (.reg 0 [
  ⟨(some 8), .mov (.const (.int .i64 0)), none⟩])
  (.block 0
  (.loop c31l0)))
  (.seq
  (.reg 0 [
  ⟨(some 31), .fld 0 (.tmp 7), none⟩,
  ⟨(some 32), .load none (.tmp 31), none⟩,
  ⟨(some 33), .mov (.tmp 1), none⟩,
  ⟨(some 34), .idx 1 (.tmp 32) (.tmp 33), none⟩,
  ⟨none, .store 1 (.tmp 34) (.const (.int .i64 0)), none⟩])
  (.seq
  (.seq
  (.reg 0 [
  ⟨(some 9), .mov (.const (.int .i64 0)), none⟩])
  (.block 2
  (.loop c31l1)))
  (.seq
  (.reg 0 [
  ⟨(some 167), .load (some 2) (.tmp 7), none⟩,
  ⟨none, .store 2 (.tmp 6) (.tmp 167), none⟩])
  .ret))))))
def c32 : LCode :=
  (.seq
  (.reg 0 [
  ⟨(some 0), .mov (.const (.int .i64 0)), none⟩])
  (.seq
  (.reg 0 [
  ⟨(some 0), .mov (.const (.int .i64 1152921504606846976)), none⟩])
  .ret))
def c33 : LCode :=
  (.seq
  (.reg 2 [
  ⟨(some 3), .box 0 (.tmp 0), none⟩,
  ⟨(some 5), .box 1 (.tmp 2), none⟩,
  ⟨(some 6), .mov (.const (.bool false)), none⟩])
  (.seq
  (.seq
  (.reg 0 [
  ⟨(some 11), .fld 3 (.tmp 5), none⟩,
  ⟨(some 12), .load none (.tmp 11), none⟩,
  ⟨(some 13), .len (.tmp 12), none⟩,
  ⟨(some 14), .fld 0 (.tmp 3), none⟩,
  ⟨(some 15), .load none (.tmp 14), none⟩,
  ⟨(some 16), .bin .neq false (.tmp 13) (.tmp 15), none⟩,
  ⟨(some 17), .mov (.tmp 16), none⟩,
  ⟨(some 18), .fld 3 (.tmp 5), (some (17, false))⟩,
  ⟨(some 19), .load none (.tmp 18), (some (17, false))⟩,
  ⟨(some 20), .mov (.tmp 1), (some (17, false))⟩,
  ⟨(some 21), .idx 1 (.tmp 19) (.tmp 20), (some (17, false))⟩,
  ⟨(some 22), .load none (.tmp 21), (some (17, false))⟩,
  ⟨(some 23), .bin .neq false (.tmp 22) (.const (.int .i64 0)), (some (17, false))⟩,
  ⟨(some 24), .pick (.tmp 17) (.const (.bool true)) (.tmp 23), none⟩])
  (.cond (.tmp 24)
  (.seq
  (.reg 0 [
  ⟨(some 6), .mov (.const (.bool false)), none⟩])
  .ret)
  .skip))
  (.seq
  (.seq
  (.reg 0 [
  ⟨(some 7), .mov (.const (.int .i64 0)), none⟩])
  (.block 0
  (.loop
  (.seq
  (.seq
  (.reg 0 [
  ⟨(some 25), .mov (.tmp 7), none⟩,
  ⟨(some 26), .fld 0 (.tmp 3), none⟩,
  ⟨(some 27), .load none (.tmp 26), none⟩,
  ⟨(some 28), .bin .lss false (.tmp 25) (.tmp 27), none⟩])
  (.cond (.tmp 28)
  .skip
  (.exit 0)))
  (.seq
  (.block 1
  (.seq
  (.reg 0 [
  ⟨(some 31), .fld 3 (.tmp 5), none⟩,
  ⟨(some 32), .load none (.tmp 31), none⟩,
  ⟨(some 33), .mov (.tmp 7), none⟩,
  ⟨(some 34), .idx 1 (.tmp 32) (.tmp 33), none⟩,
  ⟨(some 35), .load none (.tmp 34), none⟩,
  ⟨(some 36), .bin .lss false (.tmp 35) (.const (.int .i64 0)), none⟩,
  ⟨(some 37), .mov (.tmp 36), none⟩,
  ⟨(some 38), .fld 3 (.tmp 5), (some (37, false))⟩,
  ⟨(some 39), .load none (.tmp 38), (some (37, false))⟩,
  ⟨(some 40), .mov (.tmp 7), (some (37, false))⟩,
  ⟨(some 41), .idx 1 (.tmp 39) (.tmp 40), (some (37, false))⟩,
  ⟨(some 42), .load none (.tmp 41), (some (37, false))⟩,
  ⟨(some 43), .bin .gtr false (.tmp 42) (.const (.int .i64 1073741824)), (some (37, false))⟩,
  ⟨(some 44), .pick (.tmp 37) (.const (.bool true)) (.tmp 43), none⟩])
  (.cond (.tmp 44)
  (.seq
  (.reg 0 [
  ⟨(some 6), .mov (.const (.bool false)), none⟩])
  .ret)
  .skip)))
  (.reg 0 [
  ⟨(some 29), .mov (.tmp 7), none⟩,
  ⟨(some 30), .bin .add true (.tmp 29) (.const (.int .i64 1)), none⟩,
  ⟨(some 7), .mov (.tmp 30), none⟩]))))))
  (.seq
  (.seq
  (.reg 0 [
  ⟨(some 8), .mov (.const (.int .i64 0)), none⟩])
  (.block 2
  (.loop
  (.seq
  (.seq
  (.reg 0 [
  ⟨(some 45), .mov (.tmp 8), none⟩,
  ⟨(some 46), .fld 1 (.tmp 3), none⟩,
  ⟨(some 47), .load none (.tmp 46), none⟩,
  ⟨(some 48), .len (.tmp 47), none⟩,
  ⟨(some 49), .bin .lss false (.tmp 45) (.tmp 48), none⟩])
  (.cond (.tmp 49)
  .skip
  (.exit 2)))
  (.seq
  (.block 3
  (.seq
  (.reg 1 [
  ⟨(some 52), .fld 1 (.tmp 3), none⟩,
  ⟨(some 53), .load none (.tmp 52), none⟩,
  ⟨(some 54), .mov (.tmp 8), none⟩,
  ⟨(some 55), .idx 4 (.tmp 53) (.tmp 54), none⟩,
  ⟨(some 56), .load (some 4) (.tmp 55), none⟩,
  ⟨(some 9), .alloc 0 (.agg #[.int .i64 0, .int .i64 0, .int .i64 0, .int .i64 0]), none⟩,
  ⟨none, .store 4 (.tmp 9) (.tmp 56), none⟩])
  (.seq
  (.qui 0 [
  ⟨(some 57), .fld 3 (.tmp 9), none⟩,
  ⟨(some 58), .load none (.tmp 57), none⟩,
  ⟨(some 59), .fld 3 (.tmp 5), none⟩,
  ⟨(some 60), .load none (.tmp 59), none⟩,
  ⟨(some 61), .fld 0 (.tmp 9), none⟩,
  ⟨(some 62), .load none (.tmp 61), none⟩,
  ⟨(some 63), .idx 1 (.tmp 60) (.tmp 62), none⟩,
  ⟨(some 64), .load none (.tmp 63), none⟩,
  ⟨(some 65), .bin .add true (.tmp 58) (.tmp 64), none⟩,
  ⟨(some 66), .fld 3 (.tmp 5), none⟩,
  ⟨(some 67), .load none (.tmp 66), none⟩,
  ⟨(some 68), .fld 1 (.tmp 9), none⟩,
  ⟨(some 69), .load none (.tmp 68), none⟩,
  ⟨(some 70), .idx 1 (.tmp 67) (.tmp 69), none⟩,
  ⟨(some 71), .load none (.tmp 70), none⟩,
  ⟨(some 72), .bin .sub true (.tmp 65) (.tmp 71), none⟩,
  ⟨(some 10), .mov (.tmp 72), none⟩])
  (.seq
  (.qui 0 [
  ⟨(some 73), .mov (.tmp 10), none⟩,
  ⟨(some 74), .bin .lss false (.tmp 73) (.const (.int .i64 0)), none⟩,
  ⟨(some 75), .mov (.tmp 74), none⟩,
  ⟨(some 76), .fld 2 (.tmp 5), (some (75, true))⟩,
  ⟨(some 77), .load none (.tmp 76), (some (75, true))⟩,
  ⟨(some 78), .mov (.tmp 8), (some (75, true))⟩,
  ⟨(some 79), .idx 1 (.tmp 77) (.tmp 78), (some (75, true))⟩,
  ⟨(some 80), .load none (.tmp 79), (some (75, true))⟩,
  ⟨(some 81), .fld 2 (.tmp 9), (some (75, true))⟩,
  ⟨(some 82), .load none (.tmp 81), (some (75, true))⟩,
  ⟨(some 83), .bin .lss false (.tmp 80) (.tmp 82), (some (75, true))⟩,
  ⟨(some 84), .pick (.tmp 75) (.tmp 83) (.const (.bool false)), none⟩,
  ⟨(some 85), .mov (.tmp 84), none⟩,
  ⟨(some 86), .mov (.tmp 10), (some (85, false))⟩,
  ⟨(some 87), .bin .gtr false (.tmp 86) (.const (.int .i64 0)), (some (85, false))⟩,
  ⟨(some 88), .mov (.tmp 87), (some (85, false))⟩,
  ⟨(some 89), .fld 2 (.tmp 5), (some (88, true))⟩,
  ⟨(some 90), .load none (.tmp 89), (some (88, true))⟩,
  ⟨(some 91), .mov (.tmp 8), (some (88, true))⟩,
  ⟨(some 92), .idx 1 (.tmp 90) (.tmp 91), (some (88, true))⟩,
  ⟨(some 93), .load none (.tmp 92), (some (88, true))⟩,
  ⟨(some 94), .bin .gtr false (.tmp 93) (.const (.int .i64 0)), (some (88, true))⟩,
  ⟨(some 95), .pick (.tmp 88) (.tmp 94) (.const (.bool false)), (some (85, false))⟩,
  ⟨(some 96), .pick (.tmp 85) (.const (.bool true)) (.tmp 95), none⟩])
  (.cond (.tmp 96)
  (.seq
  (.reg 0 [
  ⟨(some 6), .mov (.const (.bool false)), none⟩])
  .ret)
  .skip)))))
  (.reg 0 [
  ⟨(some 50), .mov (.tmp 8), none⟩,
  ⟨(some 51), .bin .add true (.tmp 50) (.const (.int .i64 1)), none⟩,
  ⟨(some 8), .mov (.tmp 51), none⟩]))))))
  (.seq
  (.reg 0 [
  ⟨(some 6), .mov (.const (.bool true)), none⟩])
  .ret)))))
def c34 : LCode :=
  (.seq
  (.reg 2 [
  ⟨(some 4), .box 0 (.tmp 0), none⟩,
  ⟨(some 7), .box 1 (.tmp 3), none⟩,
  ⟨(some 8), .mov (.const (.bool false)), none⟩])
  (.seq
  (.seq
  (.reg 0 [
  ⟨(some 9), .mov (.const (.int .i64 0)), none⟩])
  (.block 0
  (.loop
  (.seq
  (.seq
  (.reg 0 [
  ⟨(some 14), .mov (.tmp 9), none⟩,
  ⟨(some 15), .fld 4 (.tmp 7), none⟩,
  ⟨(some 16), .load none (.tmp 15), none⟩,
  ⟨(some 17), .len (.tmp 16), none⟩,
  ⟨(some 18), .bin .lss false (.tmp 14) (.tmp 17), none⟩])
  (.cond (.tmp 18)
  .skip
  (.exit 0)))
  (.seq
  (.block 1
  (.seq
  (.tree 0
  (.take 0 [6, 7, 8, 9, 10, 11, 12, 13, 14, 15, 16, 17, 18, 19, 20, 21, 22, 23, 24, 25] ⟨(some 21), .load (some 2) (.tmp 4), none⟩
  (.take 1 [2, 4, 5, 6, 7, 8, 9, 10, 11, 12, 13, 14, 15, 16, 17, 18, 19, 20, 21, 22, 23, 24, 25] ⟨(some 22), .fld 4 (.tmp 7), none⟩
  (.take 2 [4, 5, 6, 7, 8, 9, 10, 11, 12, 13, 14, 15, 16, 17, 18, 19, 20, 21, 22, 23, 24, 25] ⟨(some 23), .load none (.tmp 22), none⟩
  (.take 3 [4, 5, 6, 7, 8, 9, 10, 11, 12, 13, 14, 15, 16, 17, 18, 19, 20, 21, 22, 23, 24, 25] ⟨(some 24), .mov (.tmp 9), none⟩
  (.take 4 [5, 6, 7, 8, 9, 10, 11, 12, 13, 14, 15, 16, 17, 18, 19, 20, 21, 22, 23, 24, 25] ⟨(some 25), .idx 1 (.tmp 23) (.tmp 24), none⟩
  (.take 5 [6, 7, 8, 9, 10, 11, 12, 13, 14, 15, 16, 17, 18, 19, 20, 21, 22, 23, 24, 25] ⟨(some 26), .load none (.tmp 25), none⟩
  (.alt 6 ⟨(some 27), .call 24 [(.tmp 21), (.tmp 26)], none⟩ false
  (.take 7 [8, 9, 10, 11, 12, 13, 14, 15, 16, 17, 18, 19, 20, 21, 22, 23, 24, 25] ⟨(some 28), .not (.tmp 27), none⟩
  (.take 8 [9, 10, 11, 12, 13, 14, 15, 16, 17, 18, 19, 20, 21, 22, 23, 24, 25] ⟨(some 29), .mov (.tmp 28), none⟩
  (.take 9 [10, 11, 12, 13, 14, 15, 16, 17, 18, 19, 20, 21, 22, 23, 24, 25] ⟨(some 30), .mov (.tmp 9), (some (29, false))⟩
  (.take 10 [11, 12, 13, 14, 15, 16, 17, 18, 19, 20, 21, 22, 23, 24, 25] ⟨(some 31), .bin .gtr false (.tmp 30) (.const (.int .i64 0)), (some (29, false))⟩
  (.take 11 [12, 13, 14, 15, 16, 17, 18, 19, 20, 21, 22, 23, 24, 25] ⟨(some 32), .mov (.tmp 31), (some (29, false))⟩
  (.take 12 [13, 15, 16, 23, 24, 25] ⟨(some 33), .fld 4 (.tmp 7), (some (32, true))⟩
  (.take 13 [15, 16, 23, 24, 25] ⟨(some 34), .load none (.tmp 33), (some (32, true))⟩
  (.take 14 [15, 16, 23, 24, 25] ⟨(some 35), .mov (.tmp 9), (some (32, true))⟩
  (.take 15 [16, 23, 24, 25] ⟨(some 36), .idx 1 (.tmp 34) (.tmp 35), (some (32, true))⟩
  (.take 16 [23, 24, 25] ⟨(some 37), .load none (.tmp 36), (some (32, true))⟩
  (.take 17 [18, 21, 22, 23, 24, 25] ⟨(some 38), .fld 4 (.tmp 7), (some (32, true))⟩
  (.take 18 [21, 22, 23, 24, 25] ⟨(some 39), .load none (.tmp 38), (some (32, true))⟩
  (.take 19 [20, 21, 22, 23, 24, 25] ⟨(some 40), .mov (.tmp 9), (some (32, true))⟩
  (.take 20 [21, 22, 23, 24, 25] ⟨(some 41), .bin .sub true (.tmp 40) (.const (.int .i64 1)), (some (32, true))⟩
  (.take 21 [22, 23, 24, 25] ⟨(some 42), .idx 1 (.tmp 39) (.tmp 41), (some (32, true))⟩
  (.take 22 [23, 24, 25] ⟨(some 43), .load none (.tmp 42), (some (32, true))⟩
  (.take 23 [24, 25] ⟨(some 44), .bin .leq false (.tmp 37) (.tmp 43), (some (32, true))⟩
  (.take 24 [25] ⟨(some 45), .pick (.tmp 32) (.tmp 44) (.const (.bool false)), (some (29, false))⟩
  (.take 25 [] ⟨(some 46), .pick (.tmp 29) (.const (.bool true)) (.tmp 45), none⟩
  .done)))))))))))))))))))
  .none))))))))
  (.cond (.tmp 46)
  (.seq
  (.reg 0 [
  ⟨(some 8), .mov (.const (.bool false)), none⟩])
  .ret)
  .skip)))
  (.reg 0 [
  ⟨(some 19), .mov (.tmp 9), none⟩,
  ⟨(some 20), .bin .add true (.tmp 19) (.const (.int .i64 1)), none⟩,
  ⟨(some 9), .mov (.tmp 20), none⟩]))))))
  (.seq
  (.seq
  (.reg 0 [
  ⟨(some 47), .fld 4 (.tmp 7), none⟩,
  ⟨(some 48), .load none (.tmp 47), none⟩,
  ⟨(some 49), .mov (.tmp 1), none⟩,
  ⟨(some 50), .call 45 [(.tmp 48), (.tmp 49)], none⟩,
  ⟨(some 51), .not (.tmp 50), none⟩,
  ⟨(some 52), .mov (.tmp 51), none⟩,
  ⟨(some 53), .fld 4 (.tmp 7), (some (52, false))⟩,
  ⟨(some 54), .load none (.tmp 53), (some (52, false))⟩,
  ⟨(some 55), .mov (.tmp 2), (some (52, false))⟩,
  ⟨(some 56), .call 45 [(.tmp 54), (.tmp 55)], (some (52, false))⟩,
  ⟨(some 57), .pick (.tmp 52) (.const (.bool true)) (.tmp 56), none⟩])
  (.cond (.tmp 57)
  (.seq
  (.reg 0 [
  ⟨(some 8), .mov (.const (.bool false)), none⟩])
  .ret)
  .skip))
  (.seq
  (.seq
  (.reg 0 [
  ⟨(some 10), .mov (.const (.int .i64 0)), none⟩])
  (.block 2
  (.loop
  (.seq
  (.seq
  (.reg 0 [
  ⟨(some 58), .mov (.tmp 10), none⟩,
  ⟨(some 59), .fld 1 (.tmp 4), none⟩,
  ⟨(some 60), .load none (.tmp 59), none⟩,
  ⟨(some 61), .len (.tmp 60), none⟩,
  ⟨(some 62), .bin .lss false (.tmp 58) (.tmp 61), none⟩])
  (.cond (.tmp 62)
  .skip
  (.exit 2)))
  (.seq
  (.block 3
  (.seq
  (.reg 1 [
  ⟨(some 65), .fld 1 (.tmp 4), none⟩,
  ⟨(some 66), .load none (.tmp 65), none⟩,
  ⟨(some 67), .mov (.tmp 10), none⟩,
  ⟨(some 68), .idx 4 (.tmp 66) (.tmp 67), none⟩,
  ⟨(some 69), .load (some 4) (.tmp 68), none⟩,
  ⟨(some 11), .alloc 0 (.agg #[.int .i64 0, .int .i64 0, .int .i64 0, .int .i64 0]), none⟩,
  ⟨none, .store 4 (.tmp 11) (.tmp 69), none⟩])
  (.seq
  (.reg 0 [
  ⟨(some 70), .fld 4 (.tmp 7), none⟩,
  ⟨(some 71), .load none (.tmp 70), none⟩,
  ⟨(some 72), .fld 0 (.tmp 11), none⟩,
  ⟨(some 73), .load none (.tmp 72), none⟩,
  ⟨(some 74), .call 45 [(.tmp 71), (.tmp 73)], none⟩,
  ⟨(some 12), .mov (.tmp 74), none⟩])
  (.seq
  (.reg 0 [
  ⟨(some 75), .fld 4 (.tmp 7), none⟩,
  ⟨(some 76), .load none (.tmp 75), none⟩,
  ⟨(some 77), .fld 1 (.tmp 11), none⟩,
  ⟨(some 78), .load none (.tmp 77), none⟩,
  ⟨(some 79), .call 45 [(.tmp 76), (.tmp 78)], none⟩,
  ⟨(some 13), .mov (.tmp 79), none⟩])
  (.seq
  (.qui 0 [
  ⟨(some 80), .mov (.tmp 12), none⟩,
  ⟨(some 81), .mov (.tmp 80), none⟩,
  ⟨(some 82), .mov (.tmp 13), (some (81, true))⟩,
  ⟨(some 83), .not (.tmp 82), (some (81, true))⟩,
  ⟨(some 84), .pick (.tmp 81) (.tmp 83) (.const (.bool false)), none⟩,
  ⟨(some 85), .mov (.tmp 84), none⟩,
  ⟨(some 86), .fld 2 (.tmp 7), (some (85, true))⟩,
  ⟨(some 87), .load none (.tmp 86), (some (85, true))⟩,
  ⟨(some 88), .mov (.tmp 10), (some (85, true))⟩,
  ⟨(some 89), .idx 1 (.tmp 87) (.tmp 88), (some (85, true))⟩,
  ⟨(some 90), .load none (.tmp 89), (some (85, true))⟩,
  ⟨(some 91), .fld 2 (.tmp 11), (some (85, true))⟩,
  ⟨(some 92), .load none (.tmp 91), (some (85, true))⟩,
  ⟨(some 93), .bin .neq false (.tmp 90) (.tmp 92), (some (85, true))⟩,
  ⟨(some 94), .pick (.tmp 85) (.tmp 93) (.const (.bool false)), none⟩,
  ⟨(some 95), .mov (.tmp 94), none⟩,
  ⟨(some 96), .mov (.tmp 13), (some (95, false))⟩,
  ⟨(some 97), .mov (.tmp 96), (some (95, false))⟩,
  ⟨(some 98), .mov (.tmp 12), (some (97, true))⟩,
  ⟨(some 99), .not (.tmp 98), (some (97, true))⟩,
  ⟨(some 100), .pick (.tmp 97) (.tmp 99) (.const (.bool false)), (some (95, false))⟩,
  ⟨(some 101), .mov (.tmp 100), (some (95, false))⟩,
  ⟨(some 102), .fld 2 (.tmp 7), (some (101, true))⟩,
  ⟨(some 103), .load none (.tmp 102), (some (101, true))⟩,
  ⟨(some 104), .mov (.tmp 10), (some (101, true))⟩,
  ⟨(some 105), .idx 1 (.tmp 103) (.tmp 104), (some (101, true))⟩,
  ⟨(some 106), .load none (.tmp 105), (some (101, true))⟩,
  ⟨(some 107), .bin .neq false (.tmp 106) (.const (.int .i64 0)), (some (101, true))⟩,
  ⟨(some 108), .pick (.tmp 101) (.tmp 107) (.const (.bool false)), (some (95, false))⟩,
  ⟨(some 109), .pick (.tmp 95) (.const (.bool true)) (.tmp 108), none⟩])
  (.cond (.tmp 109)
  (.seq
  (.reg 0 [
  ⟨(some 8), .mov (.const (.bool false)), none⟩])
  .ret)
  .skip))))))
  (.reg 0 [
  ⟨(some 63), .mov (.tmp 10), none⟩,
  ⟨(some 64), .bin .add true (.tmp 63) (.const (.int .i64 1)), none⟩,
  ⟨(some 10), .mov (.tmp 64), none⟩]))))))
  (.seq
  (.reg 0 [
  ⟨(some 8), .mov (.const (.bool true)), none⟩])
  .ret)))))
def c35 : LCode :=
  (.seq
  (.reg 2 [
  ⟨(some 4), .box 0 (.tmp 0), none⟩,
  ⟨(some 7), .box 1 (.tmp 3), none⟩,
  ⟨(some 8), .mov (.const (.bool false)), none⟩])
  (.seq
  (.seq
  (.reg 0 [
  ⟨(some 16), .fld 2 (.tmp 7), none⟩,
  ⟨(some 17), .load none (.tmp 16), none⟩,
  ⟨(some 18), .len (.tmp 17), none⟩,
  ⟨(some 19), .fld 1 (.tmp 4), none⟩,
  ⟨(some 20), .load none (.tmp 19), none⟩,
  ⟨(some 21), .len (.tmp 20), none⟩,
  ⟨(some 22), .bin .neq false (.tmp 18) (.tmp 21), none⟩])
  (.cond (.tmp 22)
  (.seq
  (.reg 0 [
  ⟨(some 8), .mov (.const (.bool false)), none⟩])
  .ret)
  .skip))
  (.seq
  (.reg 1 [
  ⟨(some 23), .fld 0 (.tmp 4), none⟩,
  ⟨(some 24), .load none (.tmp 23), none⟩,
  ⟨(some 25), .mk 0 1 8 [.int .i64 0] (.tmp 24) (.tmp 24), none⟩,
  ⟨(some 9), .mov (.tmp 25), none⟩])
  (.seq
  (.reg 0 [
  ⟨(some 10), .mov (.const (.int .i64 0)), none⟩])
  (.seq
  (.seq
  (.reg 0 [
  ⟨(some 26), .fld 1 (.tmp 4), none⟩,
  ⟨(some 27), .load none (.tmp 26), none⟩,
  ⟨(some 28), .len (.tmp 27), none⟩,
  ⟨(some 29), .mov (.const (.int .i64 0)), none⟩])
  (.block 0
  (.loop
  (.seq
  (.reg 0 [
  ⟨(some 30), .bin .lss false (.tmp 29) (.tmp 28), none⟩])
  (.seq
  (.cond (.tmp 30)
  .skip
  (.exit 0))
  (.seq
  (.block 1
  (.seq
  (.reg 1 [
  ⟨(some 31), .mov (.tmp 29), none⟩,
  ⟨(some 32), .idx 4 (.tmp 27) (.tmp 29), none⟩,
  ⟨(some 33), .load (some 4) (.tmp 32), none⟩,
  ⟨(some 12), .alloc 0 (.agg #[.int .i64 0, .int .i64 0, .int .i64 0, .int .i64 0]), none⟩,
  ⟨(some 11), .mov (.tmp 31), none⟩,
  ⟨none, .store 4 (.tmp 12) (.tmp 33), none⟩])
  (.seq
  (.reg 0 [
  ⟨(some 34), .fld 2 (.tmp 7), none⟩,
  ⟨(some 35), .load none (.tmp 34), none⟩,
  ⟨(some 36), .mov (.tmp 11), none⟩,
  ⟨(some 37), .idx 1 (.tmp 35) (.tmp 36), none⟩,
  ⟨(some 38), .load none (.tmp 37), none⟩,
  ⟨(some 13), .mov (.tmp 38), none⟩])
  (.seq
  (.seq
  (.reg 0 [
  ⟨(some 39), .mov (.tmp 13), none⟩,
  ⟨(some 40), .bin .lss false (.tmp 39) (.const (.int .i64 0)), none⟩,
  ⟨(some 41), .mov (.tmp 40), none⟩,
  ⟨(some 42), .mov (.tmp 13), (some (41, false))⟩,
  ⟨(some 43), .fld 2 (.tmp 12), (some (41, false))⟩,
  ⟨(some 44), .load none (.tmp 43), (some (41, false))⟩,
  ⟨(some 45), .bin .gtr false (.tmp 42) (.tmp 44), (some (41, false))⟩,
  ⟨(some 46), .pick (.tmp 41) (.const (.bool true)) (.tmp 45), none⟩])
  (.cond (.tmp 46)
  (.seq
  (.reg 0 [
  ⟨(some 8), .mov (.const (.bool false)), none⟩])
  .ret)
  .skip))
  (.seq
  (.reg 0 [
  ⟨(some 47), .mov (.tmp 9), none⟩,
  ⟨(some 48), .fld 0 (.tmp 12), none⟩,
  ⟨(some 49), .load none (.tmp 48), none⟩,
  ⟨(some 50), .idx 1 (.tmp 47) (.tmp 49), none⟩,
  ⟨(some 51), .load none (.tmp 50), none⟩,
  ⟨(some 52), .mov (.tmp 13), none⟩,
  ⟨(some 53), .bin .add true (.tmp 51) (.tmp 52), none⟩,
  ⟨(some 54), .idx 1 (.tmp 47) (.tmp 49), none⟩,
  ⟨none, .store 1 (.tmp 54) (.tmp 53), none⟩])
  (.seq
  (.reg 0 [
  ⟨(some 55), .mov (.tmp 9), none⟩,
  ⟨(some 56), .fld 1 (.tmp 12), none⟩,
  ⟨(some 57), .load none (.tmp 56), none⟩,
  ⟨(some 58), .idx 1 (.tmp 55) (.tmp 57), none⟩,
  ⟨(some 59), .load none (.tmp 58), none⟩,
  ⟨(some 60), .mov (.tmp 13), none⟩,
  ⟨(some 61), .bin .sub true (.tmp 59) (.tmp 60), none⟩,
  ⟨(some 62), .idx 1 (.tmp 55) (.tmp 57), none⟩,
  ⟨none, .store 1 (.tmp 62) (.tmp 61), none⟩])
  (.reg 0 [
  ⟨(some 63), .mov (.tmp 10), none⟩,
  ⟨(some 64), .mov (.tmp 13), none⟩,
  ⟨(some 65), .fld 3 (.tmp 12), none⟩,
  ⟨(some 66), .load none (.tmp 65), none⟩,
  ⟨(some 67), .bin .mul true (.tmp 64) (.tmp 66), none⟩,
  ⟨(some 68), .bin .add true (.tmp 63) (.tmp 67), none⟩,
  ⟨(some 10), .mov (.tmp 68), none⟩])))))))
  (.reg 0 [
  ⟨(some 69), .bin .add true (.tmp 29) (.const (.int .i64 1)), none⟩,
  ⟨(some 29), .mov (.tmp 69), none⟩])))))))
  (.seq
  (.seq
  (.reg 0 [
  ⟨(some 70), .mov (.tmp 9), none⟩,
  ⟨(some 71), .len (.tmp 70), none⟩,
  ⟨(some 72), .mov (.const (.int .i64 0)), none⟩])
  (.block 2
  (.loop
  (.seq
  (.reg 0 [
  ⟨(some 73), .bin .lss false (.tmp 72) (.tmp 71), none⟩])
  (.seq
  (.cond (.tmp 73)
  .skip
  (.exit 2))
  (.seq
  (.block 3
  (.seq
  (.reg 0 [
  ⟨(some 74), .mov (.tmp 72), none⟩,
  ⟨(some 75), .idx 1 (.tmp 70) (.tmp 72), none⟩,
  ⟨(some 76), .load none (.tmp 75), none⟩,
  ⟨(some 14), .mov (.tmp 74), none⟩,
  ⟨(some 15), .mov (.tmp 76), none⟩])
  (.seq
  (.reg 0 [
  ⟨(some 77), .mov (.tmp 14), none⟩,
  ⟨(some 78), .mov (.tmp 1), none⟩,
  ⟨(some 79), .bin .eql false (.tmp 77) (.tmp 78), none⟩,
  ⟨(some 80), .mov (.tmp 79), none⟩,
  ⟨(some 81), .mov (.tmp 15), (some (80, true))⟩,
  ⟨(some 82), .fld 0 (.tmp 7), (some (80, true))⟩,
  ⟨(some 83), .load none (.tmp 82), (some (80, true))⟩,
  ⟨(some 84), .bin .neq false (.tmp 81) (.tmp 83), (some (80, true))⟩,
  ⟨(some 85), .pick (.tmp 80) (.tmp 84) (.const (.bool false)), none⟩,
  ⟨(some 86), .mov (.tmp 85), none⟩,
  ⟨(some 87), .mov (.tmp 14), (some (86, false))⟩,
  ⟨(some 88), .mov (.tmp 1), (some (86, false))⟩,
  ⟨(some 89), .bin .neq false (.tmp 87) (.tmp 88), (some (86, false))⟩,
  ⟨(some 90), .mov (.tmp 89), (some (86, false))⟩,
  ⟨(some 91), .mov (.tmp 14), (some (90, true))⟩,
  ⟨(some 92), .mov (.tmp 2), (some (90, true))⟩,
  ⟨(some 93), .bin .neq false (.tmp 91) (.tmp 92), (some (90, true))⟩,
  ⟨(some 94), .pick (.tmp 90) (.tmp 93) (.const (.bool false)), (some (86, false))⟩,
  ⟨(some 95), .mov (.tmp 94), (some (86, false))⟩,
  ⟨(some 96), .mov (.tmp 15), (some (95, true))⟩,
  ⟨(some 97), .bin .neq false (.tmp 96) (.const (.int .i64 0)), (some (95, true))⟩,
  ⟨(some 98), .pick (.tmp 95) (.tmp 97) (.const (.bool false)), (some (86, false))⟩,
  ⟨(some 99), .pick (.tmp 86) (.const (.bool true)) (.tmp 98), none⟩])
  (.cond (.tmp 99)
  (.seq
  (.reg 0 [
  ⟨(some 8), .mov (.const (.bool false)), none⟩])
  .ret)
  .skip))))
  (.reg 0 [
  ⟨(some 100), .bin .add true (.tmp 72) (.const (.int .i64 1)), none⟩,
  ⟨(some 72), .mov (.tmp 100), none⟩])))))))
  (.seq
  (.reg 0 [
  ⟨(some 101), .mov (.tmp 10), none⟩,
  ⟨(some 102), .fld 1 (.tmp 7), none⟩,
  ⟨(some 103), .load none (.tmp 102), none⟩,
  ⟨(some 104), .bin .eql false (.tmp 101) (.tmp 103), none⟩,
  ⟨(some 8), .mov (.tmp 104), none⟩])
  .ret)))))))
def c36 : LCode :=
  (.seq
  (.reg 2 [
  ⟨(some 3), .box 0 (.tmp 0), none⟩,
  ⟨(some 5), .box 1 (.tmp 2), none⟩,
  ⟨(some 6), .mov (.const (.bool false)), none⟩])
  (.seq
  (.seq
  (.reg 0 [
  ⟨(some 10), .fld 3 (.tmp 5), none⟩,
  ⟨(some 11), .load none (.tmp 10), none⟩,
  ⟨(some 12), .len (.tmp 11), none⟩,
  ⟨(some 13), .fld 0 (.tmp 3), none⟩,
  ⟨(some 14), .load none (.tmp 13), none⟩,
  ⟨(some 15), .bin .neq false (.tmp 12) (.tmp 14), none⟩,
  ⟨(some 16), .mov (.tmp 15), none⟩,
  ⟨(some 17), .fld 3 (.tmp 5), (some (16, false))⟩,
  ⟨(some 18), .load none (.tmp 17), (some (16, false))⟩,
  ⟨(some 19), .mov (.tmp 1), (some (16, false))⟩,
  ⟨(some 20), .idx 1 (.tmp 18) (.tmp 19), (some (16, false))⟩,
  ⟨(some 21), .load none (.tmp 20), (some (16, false))⟩,
  ⟨(some 22), .bin .neq false (.tmp 21) (.const (.int .i64 0)), (some (16, false))⟩,
  ⟨(some 23), .pick (.tmp 16) (.const (.bool true)) (.tmp 22), none⟩,
  ⟨(some 24), .mov (.tmp 23), none⟩,
  ⟨(some 25), .fld 3 (.tmp 5), (some (24, false))⟩,
  ⟨(some 26), .load none (.tmp 25), (some (24, false))⟩,
  ⟨(some 27), .call 46 [(.tmp 26), (.func 47)], (some (24, false))⟩,
  ⟨(some 28), .pick (.tmp 24) (.const (.bool true)) (.tmp 27), none⟩])
  (.cond (.tmp 28)
  (.seq
  (.reg 0 [
  ⟨(some 6), .mov (.const (.bool false)), none⟩])
  .ret)
  .skip))
  (.seq
  (.seq
  (.reg 0 [
  ⟨(some 29), .fld 1 (.tmp 3), none⟩,
  ⟨(some 30), .load none (.tmp 29), none⟩,
  ⟨(some 31), .len (.tmp 30), none⟩,
  ⟨(some 32), .mov (.const (.int .i64 0)), none⟩])
  (.block 0
  (.loop
  (.seq
  (.reg 0 [
  ⟨(some 33), .bin .lss false (.tmp 32) (.tmp 31), none⟩])
  (.seq
  (.cond (.tmp 33)
  .skip
  (.exit 0))
  (.seq
  (.block 1
  (.seq
  (.reg 1 [
  ⟨(some 34), .mov (.tmp 32), none⟩,
  ⟨(some 35), .idx 4 (.tmp 30) (.tmp 32), none⟩,
  ⟨(some 36), .load (some 4) (.tmp 35), none⟩,
  ⟨(some 8), .alloc 0 (.agg #[.int .i64 0, .int .i64 0, .int .i64 0, .int .i64 0]), none⟩,
  ⟨(some 7), .mov (.tmp 34), none⟩,
  ⟨none, .store 4 (.tmp 8) (.tmp 36), none⟩])
  (.seq
  (.qui 0 [
  ⟨(some 37), .fld 3 (.tmp 8), none⟩,
  ⟨(some 38), .load none (.tmp 37), none⟩,
  ⟨(some 39), .fld 3 (.tmp 5), none⟩,
  ⟨(some 40), .load none (.tmp 39), none⟩,
  ⟨(some 41), .fld 0 (.tmp 8), none⟩,
  ⟨(some 42), .load none (.tmp 41), none⟩,
  ⟨(some 43), .idx 1 (.tmp 40) (.tmp 42), none⟩,
  ⟨(some 44), .load none (.tmp 43), none⟩,
  ⟨(some 45), .bin .add true (.tmp 38) (.tmp 44), none⟩,
  ⟨(some 46), .fld 3 (.tmp 5), none⟩,
  ⟨(some 47), .load none (.tmp 46), none⟩,
  ⟨(some 48), .fld 1 (.tmp 8), none⟩,
  ⟨(some 49), .load none (.tmp 48), none⟩,
  ⟨(some 50), .idx 1 (.tmp 47) (.tmp 49), none⟩,
  ⟨(some 51), .load none (.tmp 50), none⟩,
  ⟨(some 52), .bin .sub true (.tmp 45) (.tmp 51), none⟩,
  ⟨(some 9), .mov (.tmp 52), none⟩])
  (.seq
  (.qui 0 [
  ⟨(some 53), .fld 2 (.tmp 5), none⟩,
  ⟨(some 54), .load none (.tmp 53), none⟩,
  ⟨(some 55), .mov (.tmp 7), none⟩,
  ⟨(some 56), .idx 1 (.tmp 54) (.tmp 55), none⟩,
  ⟨(some 57), .load none (.tmp 56), none⟩,
  ⟨(some 58), .fld 2 (.tmp 8), none⟩,
  ⟨(some 59), .load none (.tmp 58), none⟩,
  ⟨(some 60), .bin .lss false (.tmp 57) (.tmp 59), none⟩,
  ⟨(some 61), .mov (.tmp 60), none⟩,
  ⟨(some 62), .mov (.tmp 9), (some (61, true))⟩,
  ⟨(some 63), .bin .lss false (.tmp 62) (.const (.int .i64 0)), (some (61, true))⟩,
  ⟨(some 64), .pick (.tmp 61) (.tmp 63) (.const (.bool false)), none⟩,
  ⟨(some 65), .mov (.tmp 64), none⟩,
  ⟨(some 66), .fld 2 (.tmp 5), (some (65, false))⟩,
  ⟨(some 67), .load none (.tmp 66), (some (65, false))⟩,
  ⟨(some 68), .mov (.tmp 7), (some (65, false))⟩,
  ⟨(some 69), .idx 1 (.tmp 67) (.tmp 68), (some (65, false))⟩,
  ⟨(some 70), .load none (.tmp 69), (some (65, false))⟩,
  ⟨(some 71), .bin .gtr false (.tmp 70) (.const (.int .i64 0)), (some (65, false))⟩,
  ⟨(some 72), .mov (.tmp 71), (some (65, false))⟩,
  ⟨(some 73), .mov (.tmp 9), (some (72, true))⟩,
  ⟨(some 74), .bin .gtr false (.tmp 73) (.const (.int .i64 0)), (some (72, true))⟩,
  ⟨(some 75), .pick (.tmp 72) (.tmp 74) (.const (.bool false)), (some (65, false))⟩,
  ⟨(some 76), .pick (.tmp 65) (.const (.bool true)) (.tmp 75), none⟩])
  (.cond (.tmp 76)
  (.seq
  (.reg 0 [
  ⟨(some 6), .mov (.const (.bool false)), none⟩])
  .ret)
  .skip)))))
  (.reg 0 [
  ⟨(some 77), .bin .add true (.tmp 32) (.const (.int .i64 1)), none⟩,
  ⟨(some 32), .mov (.tmp 77), none⟩])))))))
  (.seq
  (.reg 0 [
  ⟨(some 6), .mov (.const (.bool true)), none⟩])
  .ret))))
def c37 : LCode :=
  (.seq
  (.reg 2 [
  ⟨(some 4), .box 0 (.tmp 0), none⟩,
  ⟨(some 7), .box 1 (.tmp 3), none⟩,
  ⟨(some 8), .mov (.const (.bool false)), none⟩])
  (.seq
  (.reg 1 [
  ⟨(some 14), .fld 0 (.tmp 4), none⟩,
  ⟨(some 15), .load none (.tmp 14), none⟩,
  ⟨(some 16), .mk 0 1 1 [.bool false] (.tmp 15) (.tmp 15), none⟩,
  ⟨(some 9), .mov (.tmp 16), none⟩])
  (.seq
  (.seq
  (.reg 0 [
  ⟨(some 17), .fld 4 (.tmp 7), none⟩,
  ⟨(some 18), .load none (.tmp 17), none⟩,
  ⟨(some 19), .len (.tmp 18), none⟩,
  ⟨(some 20), .mov (.const (.int .i64 0)), none⟩])
  (.block 0
  (.loop
  (.seq
  (.reg 0 [
  ⟨(some 21), .bin .lss false (.tmp 20) (.tmp 19), none⟩])
  (.seq
  (.cond (.tmp 21)
  .skip
  (.exit 0))
  (.seq
  (.block 1
  (.seq
  (.reg 0 [
  ⟨(some 22), .mov (.tmp 20), none⟩,
  ⟨(some 23), .idx 1 (.tmp 18) (.tmp 20), none⟩,
  ⟨(some 24), .load none (.tmp 23), none⟩,
  ⟨(some 10), .mov (.tmp 22), none⟩,
  ⟨(some 11), .mov (.tmp 24), none⟩])
  (.seq
  (.seq
  (.reg 0 [
  ⟨(some 25), .mov (.tmp 11), none⟩,
  ⟨(some 26), .bin .lss false (.tmp 25) (.const (.int .i64 0)), none⟩,
  ⟨(some 27), .mov (.tmp 26), none⟩,
  ⟨(some 28), .mov (.tmp 11), (some (27, false))⟩,
  ⟨(some 29), .fld 0 (.tmp 4), (some (27, false))⟩,
  ⟨(some 30), .load none (.tmp 29), (some (27, false))⟩,
  ⟨(some 31), .bin .geq false (.tmp 28) (.tmp 30), (some (27, false))⟩,
  ⟨(some 32), .pick (.tmp 27) (.const (.bool true)) (.tmp 31), none⟩,
  ⟨(some 33), .mov (.tmp 32), none⟩,
  ⟨(some 34), .mov (.tmp 10), (some (33, false))⟩,
  ⟨(some 35), .bin .gtr false (.tmp 34) (.const (.int .i64 0)), (some (33, false))⟩,
  ⟨(some 36), .mov (.tmp 35), (some (33, false))⟩,
  ⟨(some 37), .mov (.tmp 11), (some (36, true))⟩,
  ⟨(some 38), .fld 4 (.tmp 7), (some (36, true))⟩,
  ⟨(some 39), .load none (.tmp 38), (some (36, true))⟩,
  ⟨(some 40), .mov (.tmp 10), (some (36, true))⟩,
  ⟨(some 41), .bin .sub true (.tmp 40) (.const (.int .i64 1)), (some (36, true))⟩,
  ⟨(some 42), .idx 1 (.tmp 39) (.tmp 41), (some (36, true))⟩,
  ⟨(some 43), .load none (.tmp 42), (some (36, true))⟩,
  ⟨(some 44), .bin .leq false (.tmp 37) (.tmp 43), (some (36, true))⟩,
  ⟨(some 45), .pick (.tmp 36) (.tmp 44) (.const (.bool false)), (some (33, false))⟩,
  ⟨(some 46), .pick (.tmp 33) (.const (.bool true)) (.tmp 45), none⟩])
  (.cond (.tmp 46)
  (.seq
  (.reg 0 [
  ⟨(some 8), .mov (.const (.bool false)), none⟩])
  .ret)
  .skip))
  (.reg 0 [
  ⟨(some 47), .mov (.tmp 9), none⟩,
  ⟨(some 48), .mov (.tmp 11), none⟩,
  ⟨(some 49), .idx 1 (.tmp 47) (.tmp 48), none⟩,
  ⟨none, .store 1 (.tmp 49) (.const (.bool true)), none⟩]))))
  (.reg 0 [
  ⟨(some 50), .bin .add true (.tmp 20) (.const (.int .i64 1)), none⟩,
  ⟨(some 20), .mov (.tmp 50), none⟩])))))))
  (.seq
  (.seq
  (.reg 0 [
  ⟨(some 51), .mov (.tmp 9), none⟩,
  ⟨(some 52), .mov (.tmp 1), none⟩,
  ⟨(some 53), .idx 1 (.tmp 51) (.tmp 52), none⟩,
  ⟨(some 54), .load none (.tmp 53), none⟩,
  ⟨(some 55), .not (.tmp 54), none⟩,
  ⟨(some 56), .mov (.tmp 55), none⟩,
  ⟨(some 57), .mov (.tmp 9), (some (56, false))⟩,
  ⟨(some 58), .mov (.tmp 2), (some (56, false))⟩,
  ⟨(some 59), .idx 1 (.tmp 57) (.tmp 58), (some (56, false))⟩,
  ⟨(some 60), .load none (.tmp 59), (some (56, false))⟩,
  ⟨(some 61), .pick (.tmp 56) (.const (.bool true)) (.tmp 60), none⟩])
  (.cond (.tmp 61)
  (.seq
  (.reg 0 [
  ⟨(some 8), .mov (.const (.bool false)), none⟩])
  .ret)
  .skip))
  (.seq
  (.seq
  (.reg 0 [
  ⟨(some 62), .fld 1 (.tmp 4), none⟩,
  ⟨(some 63), .load none (.tmp 62), none⟩,
  ⟨(some 64), .len (.tmp 63), none⟩,
  ⟨(some 65), .mov (.const (.int .i64 0)), none⟩])
  (.block 2
  (.loop
  (.seq
  (.reg 0 [
  ⟨(some 66), .bin .lss false (.tmp 65) (.tmp 64), none⟩])
  (.seq
  (.cond (.tmp 66)
  .skip
  (.exit 2))
  (.seq
  (.block 3
  (.seq
  (.reg 1 [
  ⟨(some 67), .mov (.tmp 65), none⟩,
  ⟨(some 68), .idx 4 (.tmp 63) (.tmp 65), none⟩,
  ⟨(some 69), .load (some 4) (.tmp 68), none⟩,
  ⟨(some 13), .alloc 0 (.agg #[.int .i64 0, .int .i64 0, .int .i64 0, .int .i64 0]), none⟩,
  ⟨(some 12), .mov (.tmp 67), none⟩,
  ⟨none, .store 4 (.tmp 13) (.tmp 69), none⟩])
  (.seq
  (.qui 0 [
  ⟨(some 70), .mov (.tmp 9), none⟩,
  ⟨(some 71), .fld 0 (.tmp 13), none⟩,
  ⟨(some 72), .load none (.tmp 71), none⟩,
  ⟨(some 73), .idx 1 (.tmp 70) (.tmp 72), none⟩,
  ⟨(some 74), .load none (.tmp 73), none⟩,
  ⟨(some 75), .mov (.tmp 74), none⟩,
  ⟨(some 76), .mov (.tmp 9), (some (75, true))⟩,
  ⟨(some 77), .fld 1 (.tmp 13), (some (75, true))⟩,
  ⟨(some 78), .load none (.tmp 77), (some (75, true))⟩,
  ⟨(some 79), .idx 1 (.tmp 76) (.tmp 78), (some (75, true))⟩,
  ⟨(some 80), .load none (.tmp 79), (some (75, true))⟩,
  ⟨(some 81), .not (.tmp 80), (some (75, true))⟩,
  ⟨(some 82), .pick (.tmp 75) (.tmp 81) (.const (.bool false)), none⟩,
  ⟨(some 83), .mov (.tmp 82), none⟩,
  ⟨(some 84), .fld 2 (.tmp 7), (some (83, true))⟩,
  ⟨(some 85), .load none (.tmp 84), (some (83, true))⟩,
  ⟨(some 86), .mov (.tmp 12), (some (83, true))⟩,
  ⟨(some 87), .idx 1 (.tmp 85) (.tmp 86), (some (83, true))⟩,
  ⟨(some 88), .load none (.tmp 87), (some (83, true))⟩,
  ⟨(some 89), .fld 2 (.tmp 13), (some (83, true))⟩,
  ⟨(some 90), .load none (.tmp 89), (some (83, true))⟩,
  ⟨(some 91), .bin .neq false (.tmp 88) (.tmp 90), (some (83, true))⟩,
  ⟨(some 92), .pick (.tmp 83) (.tmp 91) (.const (.bool false)), none⟩,
  ⟨(some 93), .mov (.tmp 92), none⟩,
  ⟨(some 94), .mov (.tmp 9), (some (93, false))⟩,
  ⟨(some 95), .fld 0 (.tmp 13), (some (93, false))⟩,
  ⟨(some 96), .load none (.tmp 95), (some (93, false))⟩,
  ⟨(some 97), .idx 1 (.tmp 94) (.tmp 96), (some (93, false))⟩,
  ⟨(some 98), .load none (.tmp 97), (some (93, false))⟩,
  ⟨(some 99), .not (.tmp 98), (some (93, false))⟩,
  ⟨(some 100), .mov (.tmp 99), (some (93, false))⟩,
  ⟨(some 101), .mov (.tmp 9), (some (100, true))⟩,
  ⟨(some 102), .fld 1 (.tmp 13), (some (100, true))⟩,
  ⟨(some 103), .load none (.tmp 102), (some (100, true))⟩,
  ⟨(some 104), .idx 1 (.tmp 101) (.tmp 103), (some (100, true))⟩,
  ⟨(some 105), .load none (.tmp 104), (some (100, true))⟩,
  ⟨(some 106), .pick (.tmp 100) (.tmp 105) (.const (.bool false)), (some (93, false))⟩,
  ⟨(some 107), .mov (.tmp 106), (some (93, false))⟩,
  ⟨(some 108), .fld 2 (.tmp 7), (some (107, true))⟩,
  ⟨(some 109), .load none (.tmp 108), (some (107, true))⟩,
  ⟨(some 110), .mov (.tmp 12), (some (107, true))⟩,
  ⟨(some 111), .idx 1 (.tmp 109) (.tmp 110), (some (107, true))⟩,
  ⟨(some 112), .load none (.tmp 111), (some (107, true))⟩,
  ⟨(some 113), .bin .neq false (.tmp 112) (.const (.int .i64 0)), (some (107, true))⟩,
  ⟨(some 114), .pick (.tmp 107) (.tmp 113) (.const (.bool false)), (some (93, false))⟩,
  ⟨(some 115), .pick (.tmp 93) (.const (.bool true)) (.tmp 114), none⟩])
  (.cond (.tmp 115)
  (.seq
  (.reg 0 [
  ⟨(some 8), .mov (.const (.bool false)), none⟩])
  .ret)
  .skip))))
  (.reg 0 [
  ⟨(some 116), .bin .add true (.tmp 65) (.const (.int .i64 1)), none⟩,
  ⟨(some 65), .mov (.tmp 116), none⟩])))))))
  (.seq
  (.reg 0 [
  ⟨(some 8), .mov (.const (.bool true)), none⟩])
  .ret))))))
def c38 : LCode :=
  (.seq
  (.reg 0 [
  ⟨(some 4), .mov (.const (.slice none 0 0)), none⟩])
  (.seq
  (.seq
  (.reg 0 [
  ⟨(some 9), .mov (.tmp 1), none⟩,
  ⟨(some 10), .bin .lss false (.tmp 9) (.const (.int .i64 0)), none⟩])
  (.cond (.tmp 10)
  (.reg 0 [
  ⟨(some 11), .bad, none⟩,
  ⟨none, .bad, none⟩])
  .skip))
  (.seq
  (.reg 0 [
  ⟨(some 13), .mov (.tmp 0), none⟩,
  ⟨(some 14), .len (.tmp 13), none⟩,
  ⟨(some 15), .conv false .u64 (.tmp 14), none⟩,
  ⟨(some 16), .mov (.tmp 1), none⟩,
  ⟨(some 17), .conv false .u64 (.tmp 16), none⟩,
  ⟨(some 18), .call 48 [(.tmp 15), (.tmp 17)], none⟩,
  ⟨(some 12), .mov (.tmp 18), none⟩,
  ⟨(some 19), .ext (.tmp 12) 0, none⟩,
  ⟨(some 20), .ext (.tmp 12) 1, none⟩,
  ⟨(some 5), .mov (.tmp 19), none⟩,
  ⟨(some 6), .mov (.tmp 20), none⟩])
  (.seq
  (.seq
  (.reg 0 [
  ⟨(some 21), .mov (.tmp 5), none⟩,
  ⟨(some 22), .bin .gtr false (.tmp 21) (.const (.int .u64 0)), none⟩,
  ⟨(some 23), .mov (.tmp 22), none⟩,
  ⟨(some 24), .mov (.tmp 6), (some (23, false))⟩,
  ⟨(some 25), .bin .gtr false (.tmp 24) (.const (.int .u64 9223372036854775807)), (some (23, false))⟩,
  ⟨(some 26), .pick (.tmp 23) (.const (.bool true)) (.tmp 25), none⟩])
  (.cond (.tmp 26)
  (.reg 0 [
  ⟨(some 27), .bad, none⟩,
  ⟨none, .bad, none⟩])
  .skip))
  (.seq
  (.reg 1 [
  ⟨(some 28), .mov (.tmp 6), none⟩,
  ⟨(some 29), .conv false .i64 (.tmp 28), none⟩,
  ⟨(some 30), .mk 0 1 8 [.int .i64 0] (.tmp 29) (.tmp 29), none⟩,
  ⟨(some 7), .mov (.tmp 30), none⟩])
  (.seq
  (.reg 0 [
  ⟨(some 31), .mov (.tmp 7), none⟩,
  ⟨(some 32), .mov (.tmp 0), none⟩,
  ⟨(some 33), .copy 1 (.tmp 31) (.tmp 32), none⟩,
  ⟨(some 8), .mov (.tmp 33), none⟩])
  (.seq
  (.block 0
  (.loop
  (.seq
  (.seq
  (.reg 0 [
  ⟨(some 34), .mov (.tmp 8), none⟩,
  ⟨(some 35), .mov (.tmp 7), none⟩,
  ⟨(some 36), .len (.tmp 35), none⟩,
  ⟨(some 37), .bin .lss false (.tmp 34) (.tmp 36), none⟩])
  (.cond (.tmp 37)
  .skip
  (.exit 0)))
  (.block 1
  (.tree 0
  (.take 0 [8, 9] ⟨(some 38), .mov (.tmp 8), none⟩
  (.take 1 [3, 7, 8, 9] ⟨(some 39), .mov (.tmp 7), none⟩
  (.take 2 [3, 7, 8, 9] ⟨(some 40), .mov (.tmp 8), none⟩
  (.take 3 [7, 8, 9] ⟨(some 41), .slice 1 (.tmp 39) (some (.tmp 40)) none none, none⟩
  (.take 4 [6, 7, 8, 9] ⟨(some 42), .mov (.tmp 7), none⟩
  (.take 5 [6, 7, 8, 9] ⟨(some 43), .mov (.tmp 8), none⟩
  (.take 6 [7, 8, 9] ⟨(some 44), .slice 1 (.tmp 42) none (some (.tmp 43)) none, none⟩
  (.alt 7 ⟨(some 45), .copy 1 (.tmp 41) (.tmp 44), none⟩ false
  (.take 8 [9] ⟨(some 46), .bin .add true (.tmp 38) (.tmp 45), none⟩
  (.take 9 [] ⟨(some 8), .mov (.tmp 46), none⟩
  .done))
  .none)))))))))))))
  (.seq
  (.reg 0 [
  ⟨(some 47), .mov (.tmp 7), none⟩,
  ⟨(some 4), .mov (.tmp 47), none⟩])
  .ret))))))))
def c39l0 : LCode :=
  .seq
  (.seq
  (.qui 0 [
  ⟨(some 33), .mov (.tmp 6), none⟩,
  ⟨(some 34), .bin .gtr false (.tmp 33) (.const (.int .i64 0)), none⟩,
  ⟨(some 35), .mov (.tmp 34), none⟩,
  ⟨(some 36), .mov (.tmp 0), (some (35, true))⟩,
  ⟨(some 37), .nilc (.tmp 36), (some (35, true))⟩,
  ⟨(some 38), .fld 0 (.tmp 37), (some (35, true))⟩,
  ⟨(some 39), .load none (.tmp 38), (some (35, true))⟩,
  ⟨(some 40), .mov (.tmp 6), (some (35, true))⟩,
  ⟨(some 41), .idx 1 (.tmp 39) (.tmp 40), (some (35, true))⟩,
  ⟨(some 42), .load none (.tmp 41), (some (35, true))⟩,
  ⟨(some 43), .mov (.tmp 0), (some (35, true))⟩,
  ⟨(some 44), .nilc (.tmp 43), (some (35, true))⟩,
  ⟨(some 45), .fld 0 (.tmp 44), (some (35, true))⟩,
  ⟨(some 46), .load none (.tmp 45), (some (35, true))⟩,
  ⟨(some 47), .mov (.tmp 6), (some (35, true))⟩,
  ⟨(some 48), .bin .sub true (.tmp 47) (.const (.int .i64 1)), (some (35, true))⟩,
  ⟨(some 49), .bin .quo true (.tmp 48) (.const (.int .i64 2)), (some (35, true))⟩,
  ⟨(some 50), .idx 1 (.tmp 46) (.tmp 49), (some (35, true))⟩,
  ⟨(some 51), .load none (.tmp 50), (some (35, true))⟩,
  ⟨(some 52), .bin .lss false (.tmp 42) (.tmp 51), (some (35, true))⟩,
  ⟨(some 53), .pick (.tmp 35) (.tmp 52) (.const (.bool false)), none⟩])
  (.cond (.tmp 53)
  .skip
  (.exit 0)))
  (.seq
  (.block 1
  (.reg 0 [
  ⟨(some 57), .mov (.tmp 0), none⟩,
  ⟨(some 58), .mov (.tmp 6), none⟩,
  ⟨(some 59), .mov (.tmp 6), none⟩,
  ⟨(some 60), .bin .sub true (.tmp 59) (.const (.int .i64 1)), none⟩,
  ⟨(some 61), .bin .quo true (.tmp 60) (.const (.int .i64 2)), none⟩,
  ⟨(some 62), .call 49 [(.tmp 57), (.tmp 58), (.tmp 61)], none⟩]))
  (.reg 0 [
  ⟨(some 54), .mov (.tmp 6), none⟩,
  ⟨(some 55), .bin .sub true (.tmp 54) (.const (.int .i64 1)), none⟩,
  ⟨(some 56), .bin .quo true (.tmp 55) (.const (.int .i64 2)), none⟩,
  ⟨(some 6), .mov (.tmp 56), none⟩]))
def c39 : LCode :=
  (.seq
  (.tree 4
  (.take 0 [16, 17, 18, 19, 20, 21] ⟨(some 7), .mov (.tmp 0), none⟩
  (.take 1 [19, 20, 21] ⟨(some 8), .mov (.tmp 0), none⟩
  (.take 2 [3, 4, 5, 8, 15, 16, 17, 18, 19, 20, 21] ⟨(some 9), .mov (.tmp 0), none⟩
  (.take 3 [4, 5, 8, 15, 16, 17, 18, 19, 20, 21] ⟨(some 10), .nilc (.tmp 9), none⟩
  (.take 4 [5, 8, 15, 16, 17, 18, 19, 20, 21] ⟨(some 11), .fld 0 (.tmp 10), none⟩
  (.take 5 [8, 15, 16, 17, 18, 19, 20, 21] ⟨(some 12), .load none (.tmp 11), none⟩
  (.take 6 [7, 8, 15, 16, 17, 18, 19, 20, 21] ⟨(some 13), .mov (.tmp 1), none⟩
  (.take 9 [10, 11, 12, 15, 16, 17, 18, 19, 20, 21] ⟨(some 16), .mov (.tmp 0), none⟩
  (.take 10 [11, 12, 15, 16, 17, 18, 19, 20, 21] ⟨(some 17), .nilc (.tmp 16), none⟩
  (.take 11 [12, 15, 16, 17, 18, 19, 20, 21] ⟨(some 18), .fld 1 (.tmp 17), none⟩
  (.take 12 [15, 16, 17, 18, 19, 20, 21] ⟨(some 19), .load none (.tmp 18), none⟩
  (.take 13 [14, 15, 16, 17, 18, 19, 20, 21] ⟨(some 20), .mov (.tmp 2), none⟩
  (.alt 7 ⟨(some 14), .lits 0 1 1 [.int .i64 0] [(0, (.tmp 13))], none⟩ true
  (.alt 8 ⟨(some 15), .append 1 1 8 (.tmp 12) (.tmp 14), none⟩ true
  (.alt 14 ⟨(some 21), .lits 2 1 1 [.int .i64 0] [(0, (.tmp 20))], none⟩ true
  (.alt 15 ⟨(some 22), .append 3 1 8 (.tmp 19) (.tmp 21), none⟩ false
  (.take 16 [17, 18, 19, 20, 21] ⟨(some 23), .nilc (.tmp 7), none⟩
  (.take 17 [18, 19, 20, 21] ⟨(some 24), .fld 0 (.tmp 23), none⟩
  (.alt 18 ⟨none, .store 1 (.tmp 24) (.tmp 15), none⟩ false
  (.take 19 [20, 21] ⟨(some 25), .nilc (.tmp 8), none⟩
  (.take 20 [21] ⟨(some 26), .fld 1 (.tmp 25), none⟩
  (.alt 21 ⟨none, .store 1 (.tmp 26) (.tmp 22), none⟩ false
  .done
  .none)))
  .none)))
  .none)
  .none)
  (.alt 14 ⟨(some 21), .lits 2 1 1 [.int .i64 0] [(0, (.tmp 20))], none⟩ true
  (.alt 8 ⟨(some 15), .append 1 1 8 (.tmp 12) (.tmp 14), none⟩ true
  (.alt 15 ⟨(some 22), .append 3 1 8 (.tmp 19) (.tmp 21), none⟩ false
  (.take 16 [17, 18, 19, 20, 21] ⟨(some 23), .nilc (.tmp 7), none⟩
  (.take 17 [18, 19, 20, 21] ⟨(some 24), .fld 0 (.tmp 23), none⟩
  (.alt 18 ⟨none, .store 1 (.tmp 24) (.tmp 15), none⟩ false
  (.take 19 [20, 21] ⟨(some 25), .nilc (.tmp 8), none⟩
  (.take 20 [21] ⟨(some 26), .fld 1 (.tmp 25), none⟩
  (.alt 21 ⟨none, .store 1 (.tmp 26) (.tmp 22), none⟩ false
  .done
  .none)))
  .none)))
  .none)
  .none)
  .none))
  (.alt 14 ⟨(some 21), .lits 2 1 1 [.int .i64 0] [(0, (.tmp 20))], none⟩ true
  (.alt 7 ⟨(some 14), .lits 0 1 1 [.int .i64 0] [(0, (.tmp 13))], none⟩ true
  (.alt 8 ⟨(some 15), .append 1 1 8 (.tmp 12) (.tmp 14), none⟩ true
  (.alt 15 ⟨(some 22), .append 3 1 8 (.tmp 19) (.tmp 21), none⟩ false
  (.take 16 [17, 18, 19, 20, 21] ⟨(some 23), .nilc (.tmp 7), none⟩
  (.take 17 [18, 19, 20, 21] ⟨(some 24), .fld 0 (.tmp 23), none⟩
  (.alt 18 ⟨none, .store 1 (.tmp 24) (.tmp 15), none⟩ false
  (.take 19 [20, 21] ⟨(some 25), .nilc (.tmp 8), none⟩
  (.take 20 [21] ⟨(some 26), .fld 1 (.tmp 25), none⟩
  (.alt 21 ⟨none, .store 1 (.tmp 26) (.tmp 22), none⟩ false
  .done
  .none)))
  .none)))
  .none)
  .none)
  .none)
  .none)))))))))))))))
  (.seq
  (.reg 0 [
  ⟨(some 27), .mov (.tmp 0), none⟩,
  ⟨(some 28), .nilc (.tmp 27), none⟩,
  ⟨(some 29), .fld 0 (.tmp 28), none⟩,
  ⟨(some 30), .load none (.tmp 29), none⟩,
  ⟨(some 31), .len (.tmp 30), none⟩,
  ⟨(some 32), .bin .sub true (.tmp 31) (.const (.int .i64 1)), none⟩,
  ⟨(some 6), .mov (.tmp 32), none⟩])
  (.block 0
  (.loop c39l0))))
def c40l1 : LCode :=
  .seq
  (.reg 0 [
  ⟨(some 60), .bin .lss false (.tmp 59) (.tmp 58), none⟩])
  (.seq
  (.cond (.tmp 60)
  .skip
  (.exit 2))
  (.seq
  (.block 3
  (.seq
  (.reg 0 [
  ⟨(some 61), .idx 1 (.tmp 57) (.tmp 59), none⟩,
  ⟨(some 62), .load none (.tmp 61), none⟩,
  ⟨(some 10), .mov (.tmp 62), none⟩])
  (.seq
  (.qui 0 [
  ⟨(some 63), .mov (.tmp 10), none⟩,
  ⟨(some 64), .mov (.tmp 6), none⟩,
  ⟨(some 65), .bin .lss false (.tmp 63) (.tmp 64), none⟩,
  ⟨(some 66), .mov (.tmp 65), none⟩,
  ⟨(some 67), .mov (.tmp 0), (some (66, true))⟩,
  ⟨(some 68), .nilc (.tmp 67), (some (66, true))⟩,
  ⟨(some 69), .fld 0 (.tmp 68), (some (66, true))⟩,
  ⟨(some 70), .load none (.tmp 69), (some (66, true))⟩,
  ⟨(some 71), .mov (.tmp 10), (some (66, true))⟩,
  ⟨(some 72), .idx 1 (.tmp 70) (.tmp 71), (some (66, true))⟩,
  ⟨(some 73), .load none (.tmp 72), (some (66, true))⟩,
  ⟨(some 74), .mov (.tmp 0), (some (66, true))⟩,
  ⟨(some 75), .nilc (.tmp 74), (some (66, true))⟩,
  ⟨(some 76), .fld 0 (.tmp 75), (some (66, true))⟩,
  ⟨(some 77), .load none (.tmp 76), (some (66, true))⟩,
  ⟨(some 78), .mov (.tmp 8), (some (66, true))⟩,
  ⟨(some 79), .idx 1 (.tmp 77) (.tmp 78), (some (66, true))⟩,
  ⟨(some 80), .load none (.tmp 79), (some (66, true))⟩,
  ⟨(some 81), .bin .lss false (.tmp 73) (.tmp 80), (some (66, true))⟩,
  ⟨(some 82), .pick (.tmp 66) (.tmp 81) (.const (.bool false)), none⟩])
  (.cond (.tmp 82)
  (.reg 0 [
  ⟨(some 83), .mov (.tmp 10), none⟩,
  ⟨(some 8), .mov (.tmp 83), none⟩])
  .skip))))
  (.reg 0 [
  ⟨(some 84), .bin .add true (.tmp 59) (.const (.int .i64 1)), none⟩,
  ⟨(some 59), .mov (.tmp 84), none⟩])))
def c40l0 : LCode :=
  .block 1
  (.seq
  (.reg 0 [
  ⟨(some 50), .mov (.tmp 7), none⟩,
  ⟨(some 8), .mov (.tmp 50), none⟩])
  (.seq
  (.seq
  (.reg 1 [
  ⟨(some 51), .mov (.tmp 7), none⟩,
  ⟨(some 52), .bin .mul true (.const (.int .i64 2)) (.tmp 51), none⟩,
  ⟨(some 53), .bin .add true (.tmp 52) (.const (.int .i64 1)), none⟩,
  ⟨(some 54), .mov (.tmp 7), none⟩,
  ⟨(some 55), .bin .mul true (.const (.int .i64 2)) (.tmp 54), none⟩,
  ⟨(some 56), .bin .add true (.tmp 55) (.const (.int .i64 2)), none⟩,
  ⟨(some 57), .lits 0 1 2 [.int .i64 0] [(0, (.tmp 53)), (1, (.tmp 56))], none⟩,
  ⟨(some 58), .len (.tmp 57), none⟩,
  ⟨(some 59), .mov (.const (.int .i64 0)), none⟩])
  (.block 2
  (.loop c40l1)))
  (.seq
  (.seq
  (.reg 0 [
  ⟨(some 85), .mov (.tmp 8), none⟩,
  ⟨(some 86), .mov (.tmp 7), none⟩,
  ⟨(some 87), .bin .eql false (.tmp 85) (.tmp 86), none⟩])
  (.cond (.tmp 87)
  (.seq
  (.reg 0 [
  ⟨(some 88), .mov (.tmp 4), none⟩,
  ⟨(some 89), .mov (.tmp 5), none⟩,
  ⟨(some 2), .mov (.tmp 88), none⟩,
  ⟨(some 3), .mov (.tmp 89), none⟩])
  .ret)
  .skip))
  (.seq
  (.reg 0 [
  ⟨(some 90), .mov (.tmp 0), none⟩,
  ⟨(some 91), .mov (.tmp 7), none⟩,
  ⟨(some 92), .mov (.tmp 8), none⟩,
  ⟨(some 93), .call 49 [(.tmp 90), (.tmp 91), (.tmp 92)], none⟩])
  (.reg 0 [
  ⟨(some 94), .mov (.tmp 8), none⟩,
  ⟨(some 7), .mov (.tmp 94), none⟩])))))
def c40 : LCode :=
  (.seq
  (.reg 0 [
  ⟨(some 2), .mov (.const (.int .i64 0)), none⟩,
  ⟨(some 3), .mov (.const (.int .i64 0)), none⟩])
  (.seq
  (.qui 0 [
  ⟨(some 11), .mov (.tmp 0), none⟩,
  ⟨(some 12), .nilc (.tmp 11), none⟩,
  ⟨(some 13), .fld 0 (.tmp 12), none⟩,
  ⟨(some 14), .load none (.tmp 13), none⟩,
  ⟨(some 15), .idx 1 (.tmp 14) (.const (.int .i64 0)), none⟩,
  ⟨(some 16), .load none (.tmp 15), none⟩,
  ⟨(some 17), .mov (.tmp 0), none⟩,
  ⟨(some 18), .nilc (.tmp 17), none⟩,
  ⟨(some 19), .fld 1 (.tmp 18), none⟩,
  ⟨(some 20), .load none (.tmp 19), none⟩,
  ⟨(some 21), .idx 1 (.tmp 20) (.const (.int .i64 0)), none⟩,
  ⟨(some 22), .load none (.tmp 21), none⟩,
  ⟨(some 4), .mov (.tmp 16), none⟩,
  ⟨(some 5), .mov (.tmp 22), none⟩])
  (.seq
  (.reg 0 [
  ⟨(some 23), .mov (.tmp 0), none⟩,
  ⟨(some 24), .nilc (.tmp 23), none⟩,
  ⟨(some 25), .fld 0 (.tmp 24), none⟩,
  ⟨(some 26), .load none (.tmp 25), none⟩,
  ⟨(some 27), .len (.tmp 26), none⟩,
  ⟨(some 28), .bin .sub true (.tmp 27) (.const (.int .i64 1)), none⟩,
  ⟨(some 6), .mov (.tmp 28), none⟩])
  (.seq
  (.reg 0 [
  ⟨(some 29), .mov (.tmp 0), none⟩,
  ⟨(some 30), .mov (.tmp 6), none⟩,
  ⟨(some 31), .call 49 [(.tmp 29), (.const (.int .i64 0)), (.tmp 30)], none⟩])
  (.seq
  (.tree 0
  (.take 0 [14, 15, 16, 17, 18, 19] ⟨(some 32), .mov (.tmp 0), none⟩
  (.take 1 [17, 18, 19] ⟨(some 33), .mov (.tmp 0), none⟩
  (.take 2 [3, 4, 5, 7, 14, 15, 16, 17, 18, 19] ⟨(some 34), .mov (.tmp 0), none⟩
  (.take 3 [4, 5, 7, 14, 15, 16, 17, 18, 19] ⟨(some 35), .nilc (.tmp 34), none⟩
  (.take 4 [5, 7, 14, 15, 16, 17, 18, 19] ⟨(some 36), .fld 0 (.tmp 35), none⟩
  (.take 5 [7, 14, 15, 16, 17, 18, 19] ⟨(some 37), .load none (.tmp 36), none⟩
  (.take 6 [7, 14, 15, 16, 17, 18, 19] ⟨(some 38), .mov (.tmp 6), none⟩
  (.take 7 [14, 15, 16, 17, 18, 19] ⟨(some 39), .slice 1 (.tmp 37) none (some (.tmp 38)) none, none⟩
  (.take 8 [9, 10, 11, 13, 14, 15, 16, 17, 18, 19] ⟨(some 40), .mov (.tmp 0), none⟩
  (.take 9 [10, 11, 13, 14, 15, 16, 17, 18, 19] ⟨(some 41), .nilc (.tmp 40), none⟩
  (.take 10 [11, 13, 14, 15, 16, 17, 18, 19] ⟨(some 42), .fld 1 (.tmp 41), none⟩
  (.take 11 [13, 14, 15, 16, 17, 18, 19] ⟨(some 43), .load none (.tmp 42), none⟩
  (.take 12 [13, 17, 18, 19] ⟨(some 44), .mov (.tmp 6), none⟩
  (.take 13 [17, 18, 19] ⟨(some 45), .slice 1 (.tmp 43) none (some (.tmp 44)) none, none⟩
  (.take 14 [15, 16, 17, 18, 19] ⟨(some 46), .nilc (.tmp 32), none⟩
  (.take 15 [16, 17, 18, 19] ⟨(some 47), .fld 0 (.tmp 46), none⟩
  (.alt 16 ⟨none, .store 1 (.tmp 47) (.tmp 39), none⟩ false
  (.take 17 [18, 19] ⟨(some 48), .nilc (.tmp 33), none⟩
  (.take 18 [19] ⟨(some 49), .fld 1 (.tmp 48), none⟩
  (.alt 19 ⟨none, .store 1 (.tmp 49) (.tmp 45), none⟩ false
  .done
  .none)))
  .none))))))))))))))))))
  (.seq
  (.reg 0 [
  ⟨(some 7), .mov (.const (.int .i64 0)), none⟩])
  (.block 0
  (.loop c40l0))))))))
def c41 : LCode :=
  (.seq
  (.reg 2 [
  ⟨(some 2), .box 0 (.tmp 0), none⟩,
  ⟨(some 3), .box 1 (.tmp 1), none⟩,
  ⟨(some 4), .mov (.const (.nilFunc)), none⟩])
  (.seq
  (.reg 0 [
  ⟨(some 5), .fn 50 [(.tmp 2), (.tmp 3)], none⟩,
  ⟨(some 4), .mov (.tmp 5), none⟩])
  .ret))
def c42 : LCode :=
  (.seq
  (.reg 1 [
  ⟨(some 5), .box 0 (.tmp 2), none⟩,
  ⟨(some 6), .mov (.const (.int .i64 0)), none⟩])
  (.seq
  (.qui 0 [
  ⟨(some 7), .fld 3 (.tmp 5), none⟩,
  ⟨(some 8), .load none (.tmp 7), none⟩,
  ⟨(some 9), .mov (.tmp 0), none⟩,
  ⟨(some 10), .nilc (.tmp 9), none⟩,
  ⟨(some 11), .fld 4 (.tmp 10), none⟩,
  ⟨(some 12), .load none (.tmp 11), none⟩,
  ⟨(some 13), .mov (.tmp 1), none⟩,
  ⟨(some 14), .idx 1 (.tmp 12) (.tmp 13), none⟩,
  ⟨(some 15), .load none (.tmp 14), none⟩,
  ⟨(some 16), .bin .add true (.tmp 8) (.tmp 15), none⟩,
  ⟨(some 17), .mov (.tmp 0), none⟩,
  ⟨(some 18), .nilc (.tmp 17), none⟩,
  ⟨(some 19), .fld 4 (.tmp 18), none⟩,
  ⟨(some 20), .load none (.tmp 19), none⟩,
  ⟨(some 21), .fld 1 (.tmp 5), none⟩,
  ⟨(some 22), .load none (.tmp 21), none⟩,
  ⟨(some 23), .idx 1 (.tmp 20) (.tmp 22), none⟩,
  ⟨(some 24), .load none (.tmp 23), none⟩,
  ⟨(some 25), .bin .sub true (.tmp 16) (.tmp 24), none⟩,
  ⟨(some 6), .mov (.tmp 25), none⟩])
  .ret))
def c43 : LCode :=
  (.seq
  (.reg 0 [
  ⟨(some 2), .mov (.const (.int .i64 0)), none⟩])
  (.seq
  (.reg 0 [
  ⟨(some 3), .mov (.const (.int .i64 0)), none⟩])
  (.seq
  (.seq
  (.reg 0 [
  ⟨(some 6), .mov (.tmp 0), none⟩,
  ⟨(some 7), .nilc (.tmp 6), none⟩,
  ⟨(some 8), .fld 0 (.tmp 7), none⟩,
  ⟨(some 9), .fld 1 (.tmp 8), none⟩,
  ⟨(some 10), .load none (.tmp 9), none⟩,
  ⟨(some 11), .len (.tmp 10), none⟩,
  ⟨(some 12), .mov (.const (.int .i64 0)), none⟩])
  (.block 0
  (.loop
  (.seq
  (.reg 0 [
  ⟨(some 13), .bin .lss false (.tmp 12) (.tmp 11), none⟩])
  (.seq
  (.cond (.tmp 13)
  .skip
  (.exit 0))
  (.seq
  (.block 1
  (.seq
  (.reg 1 [
  ⟨(some 14), .mov (.tmp 12), none⟩,
  ⟨(some 15), .idx 4 (.tmp 10) (.tmp 12), none⟩,
  ⟨(some 16), .load (some 4) (.tmp 15), none⟩,
  ⟨(some 5), .alloc 0 (.agg #[.int .i64 0, .int .i64 0, .int .i64 0, .int .i64 0]), none⟩,
  ⟨(some 4), .mov (.tmp 14), none⟩,
  ⟨none, .store 4 (.tmp 5) (.tmp 16), none⟩])
  (.qui 0 [
  ⟨(some 17), .mov (.tmp 3), none⟩,
  ⟨(some 18), .fld 3 (.tmp 5), none⟩,
  ⟨(some 19), .load none (.tmp 18), none⟩,
  ⟨(some 20), .mov (.tmp 0), none⟩,
  ⟨(some 21), .nilc (.tmp 20), none⟩,
  ⟨(some 22), .fld 2 (.tmp 21), none⟩,
  ⟨(some 23), .load none (.tmp 22), none⟩,
  ⟨(some 24), .mov (.tmp 4), none⟩,
  ⟨(some 25), .idx 1 (.tmp 23) (.tmp 24), none⟩,
  ⟨(some 26), .load none (.tmp 25), none⟩,
  ⟨(some 27), .bin .mul true (.tmp 19) (.tmp 26), none⟩,
  ⟨(some 28), .bin .add true (.tmp 17) (.tmp 27), none⟩,
  ⟨(some 3), .mov (.tmp 28), none⟩])))
  (.reg 0 [
  ⟨(some 29), .bin .add true (.tmp 12) (.const (.int .i64 1)), none⟩,
  ⟨(some 12), .mov (.tmp 29), none⟩])))))))
  (.seq
  (.reg 0 [
  ⟨(some 30), .mov (.tmp 3), none⟩,
  ⟨(some 2), .mov (.tmp 30), none⟩])
  .ret))))
def c44a0 : LCode :=
  .reg 1 [
  ⟨(some 10), .alloc 0 (.agg #[.int .i64 0, .int .i64 0, .int .i64 0, .int .i64 0, .bool false]), none⟩,
  ⟨none, .store 5 (.tmp 10) (.tmp 26), none⟩]
def c44r0 : LCode :=
  .block 1
  (.seq
  (.seq
  (.reg 0 [
  ⟨(some 27), .load none (.tmp 9), none⟩,
  ⟨(some 28), .load none (.tmp 7), none⟩,
  ⟨(some 29), .bin .eql false (.tmp 27) (.tmp 28), none⟩])
  (.cond (.tmp 29)
  (.exit 0)
  .skip))
  (.seq
  (.seq
  (.reg 0 [
  ⟨(some 30), .load none (.tmp 3), none⟩,
  ⟨(some 31), .fld 1 (.tmp 10), none⟩,
  ⟨(some 32), .load none (.tmp 31), none⟩,
  ⟨(some 33), .idx 1 (.tmp 30) (.tmp 32), none⟩,
  ⟨(some 34), .load none (.tmp 33), none⟩,
  ⟨(some 35), .mov (.tmp 34), none⟩,
  ⟨(some 36), .load none (.tmp 4), (some (35, false))⟩,
  ⟨(some 37), .load none (.tmp 6), (some (35, false))⟩,
  ⟨(some 38), .load (some 5) (.tmp 10), (some (35, false))⟩,
  ⟨(some 39), .call 42 [(.tmp 36), (.tmp 37), (.tmp 38)], (some (35, false))⟩,
  ⟨(some 40), .bin .neq false (.tmp 39) (.const (.int .i64 0)), (some (35, false))⟩,
  ⟨(some 41), .pick (.tmp 35) (.const (.bool true)) (.tmp 40), none⟩])
  (.cond (.tmp 41)
  (.exit 1)
  .skip))
  (.seq
  (.reg 0 [
  ⟨(some 42), .load none (.tmp 5), none⟩,
  ⟨(some 43), .fld 1 (.tmp 10), none⟩,
  ⟨(some 44), .load none (.tmp 43), none⟩,
  ⟨(some 45), .fld 2 (.tmp 10), none⟩,
  ⟨(some 46), .load none (.tmp 45), none⟩,
  ⟨(some 47), .load none (.tmp 7), none⟩,
  ⟨(some 48), .load none (.tmp 9), none⟩,
  ⟨(some 49), .bin .sub true (.tmp 47) (.tmp 48), none⟩,
  ⟨(some 50), .minmax false (.tmp 46) (.tmp 49), none⟩,
  ⟨(some 51), .callv (.tmp 42) [(.tmp 44), (.tmp 50)], none⟩,
  ⟨(some 11), .mov (.tmp 51), none⟩])
  (.seq
  (.seq
  (.reg 0 [
  ⟨(some 52), .fld 4 (.tmp 10), none⟩,
  ⟨(some 53), .load none (.tmp 52), none⟩])
  (.cond (.tmp 53)
  (.reg 0 [
  ⟨(some 54), .mov (.tmp 11), none⟩,
  ⟨(some 55), .neg (.tmp 54), none⟩,
  ⟨(some 11), .mov (.tmp 55), none⟩])
  .skip))
  (.seq
  (.tree 0
  (.take 0 [1, 2, 3, 6, 7, 9, 10, 11] ⟨(some 56), .load none (.tmp 4), none⟩
  (.take 1 [2, 3, 6, 7, 9, 10, 11] ⟨(some 57), .nilc (.tmp 56), none⟩
  (.take 2 [3, 6, 7, 9, 10, 11] ⟨(some 58), .fld 2 (.tmp 57), none⟩
  (.take 3 [6, 7, 9, 10, 11] ⟨(some 59), .load none (.tmp 58), none⟩
  (.take 4 [5, 6, 7, 9, 10, 11] ⟨(some 60), .fld 0 (.tmp 10), none⟩
  (.take 5 [6, 7, 9, 10, 11] ⟨(some 61), .load none (.tmp 60), none⟩
  (.take 6 [7, 9, 10, 11] ⟨(some 62), .idx 1 (.tmp 59) (.tmp 61), none⟩
  (.take 7 [9, 10, 11] ⟨(some 63), .load none (.tmp 62), none⟩
  (.take 8 [9, 10, 11] ⟨(some 64), .mov (.tmp 11), none⟩
  (.take 9 [10, 11] ⟨(some 65), .bin .add true (.tmp 63) (.tmp 64), none⟩
  (.take 10 [11] ⟨(some 66), .idx 1 (.tmp 59) (.tmp 61), none⟩
  (.alt 11 ⟨none, .store 1 (.tmp 66) (.tmp 65), none⟩ false
  .done
  .none)))))))))))))
  (.reg 0 [
  ⟨(some 67), .load none (.tmp 9), none⟩,
  ⟨(some 68), .mov (.tmp 11), none⟩,
  ⟨(some 69), .mov (.tmp 11), none⟩,
  ⟨(some 70), .neg (.tmp 69), none⟩,
  ⟨(some 71), .minmax true (.tmp 68) (.tmp 70), none⟩,
  ⟨(some 72), .bin .add true (.tmp 67) (.tmp 71), none⟩,
  ⟨none, .store 1 (.tmp 9) (.tmp 72), none⟩]))))))
def c44 : LCode :=
  (.seq
  (.reg 2 [
  ⟨(some 6), .box 0 (.tmp 0), none⟩,
  ⟨(some 7), .box 1 (.tmp 1), none⟩,
  ⟨(some 8), .mov (.const (.int .i64 0)), none⟩])
  (.seq
  (.seq
  (.reg 0 [
  ⟨(some 12), .load none (.tmp 6), none⟩,
  ⟨(some 13), .load none (.tmp 2), none⟩,
  ⟨(some 14), .bin .eql false (.tmp 12) (.tmp 13), none⟩,
  ⟨(some 15), .mov (.tmp 14), none⟩,
  ⟨(some 16), .load none (.tmp 7), (some (15, false))⟩,
  ⟨(some 17), .bin .eql false (.tmp 16) (.const (.int .i64 0)), (some (15, false))⟩,
  ⟨(some 18), .pick (.tmp 15) (.const (.bool true)) (.tmp 17), none⟩])
  (.cond (.tmp 18)
  (.seq
  (.reg 0 [
  ⟨(some 19), .load none (.tmp 7), none⟩,
  ⟨(some 8), .mov (.tmp 19), none⟩])
  .ret)
  .skip))
  (.seq
  (.reg 0 [
  ⟨(some 20), .load none (.tmp 3), none⟩,
  ⟨(some 21), .load none (.tmp 6), none⟩,
  ⟨(some 22), .idx 1 (.tmp 20) (.tmp 21), none⟩,
  ⟨none, .store 1 (.tmp 22) (.const (.bool true)), none⟩])
  (.seq
  (.reg 1 [
  ⟨(some 9), .alloc 0 (.int .i64 0), none⟩,
  ⟨none, .store 1 (.tmp 9) (.const (.int .i64 0)), none⟩])
  (.seq
  (.seq
  (.reg 0 [
  ⟨(some 23), .load none (.tmp 4), none⟩,
  ⟨(some 24), .load none (.tmp 6), none⟩,
  ⟨(some 25), .call 41 [(.tmp 23), (.tmp 24)], none⟩])
  (.block 0
  (.rfn (.tmp 25) [26]
  c44a0 c44r0)))
  (.seq
  (.reg 0 [
  ⟨(some 73), .load none (.tmp 3), none⟩,
  ⟨(some 74), .load none (.tmp 6), none⟩,
  ⟨(some 75), .load none (.tmp 9), none⟩,
  ⟨(some 76), .load none (.tmp 7), none⟩,
  ⟨(some 77), .bin .lss false (.tmp 75) (.tmp 76), none⟩,
  ⟨(some 78), .idx 1 (.tmp 73) (.tmp 74), none⟩,
  ⟨none, .store 1 (.tmp 78) (.tmp 77), none⟩])
  (.seq
  (.reg 0 [
  ⟨(some 79), .load none (.tmp 9), none⟩,
  ⟨(some 8), .mov (.tmp 79), none⟩])
  .ret)))))))
def c45 : LCode :=
  (.seq
  (.reg 0 [
  ⟨(some 4), .mov (.const (.bool false)), none⟩])
  (.seq
  (.seq
  (.reg 0 [
  ⟨(some 5), .mov (.const (.int .i64 0)), none⟩])
  (.block 0
  (.loop
  (.seq
  (.seq
  (.reg 0 [
  ⟨(some 6), .mov (.tmp 5), none⟩,
  ⟨(some 7), .mov (.tmp 0), none⟩,
  ⟨(some 8), .len (.tmp 7), none⟩,
  ⟨(some 9), .bin .lss false (.tmp 6) (.tmp 8), none⟩])
  (.cond (.tmp 9)
  .skip
  (.exit 0)))
  (.seq
  (.block 1
  (.seq
  (.reg 0 [
  ⟨(some 12), .mov (.tmp 0), none⟩,
  ⟨(some 13), .mov (.tmp 5), none⟩,
  ⟨(some 14), .idx 1 (.tmp 12) (.tmp 13), none⟩,
  ⟨(some 15), .load none (.tmp 14), none⟩,
  ⟨(some 16), .mov (.tmp 1), none⟩,
  ⟨(some 17), .bin .eql false (.tmp 15) (.tmp 16), none⟩])
  (.cond (.tmp 17)
  (.seq
  (.reg 0 [
  ⟨(some 4), .mov (.const (.bool true)), none⟩])
  .ret)
  .skip)))
  (.reg 0 [
  ⟨(some 10), .mov (.tmp 5), none⟩,
  ⟨(some 11), .bin .add true (.tmp 10) (.const (.int .i64 1)), none⟩,
  ⟨(some 5), .mov (.tmp 11), none⟩]))))))
  (.seq
  (.reg 0 [
  ⟨(some 4), .mov (.const (.bool false)), none⟩])
  .ret)))
def c46 : LCode :=
  (.seq
  (.reg 0 [
  ⟨(some 4), .mov (.const (.bool false)), none⟩])
  (.seq
  (.reg 0 [
  ⟨(some 5), .mov (.tmp 0), none⟩,
  ⟨(some 6), .mov (.tmp 1), none⟩,
  ⟨(some 7), .call 51 [(.tmp 5), (.tmp 6)], none⟩,
  ⟨(some 8), .bin .geq false (.tmp 7) (.const (.int .i64 0)), none⟩,
  ⟨(some 4), .mov (.tmp 8), none⟩])
  .ret))
def c47 : LCode :=
  (.seq
  (.reg 0 [
  ⟨(some 2), .mov (.const (.bool false)), none⟩])
  (.seq
  (.reg 0 [
  ⟨(some 3), .mov (.tmp 0), none⟩,
  ⟨(some 4), .bin .lss false (.tmp 3) (.const (.int .i64 0)), none⟩,
  ⟨(some 5), .mov (.tmp 4), none⟩,
  ⟨(some 6), .mov (.tmp 0), (some (5, false))⟩,
  ⟨(some 7), .bin .gtr false (.tmp 6) (.const (.int .i64 1073741824)), (some (5, false))⟩,
  ⟨(some 8), .pick (.tmp 5) (.const (.bool true)) (.tmp 7), none⟩,
  ⟨(some 2), .mov (.tmp 8), none⟩])
  .ret))
def c48 : LCode :=
  (.seq
  (.reg 0 [
  ⟨(some 4), .mov (.const (.int .u64 0)), none⟩,
  ⟨(some 5), .mov (.const (.int .u64 0)), none⟩])
  (.seq
  (.cond (.const (.bool false))
  (.seq
  (.reg 0 [
  ⟨(some 11), .mov (.tmp 0), none⟩,
  ⟨(some 12), .conv false .u32 (.tmp 11), none⟩,
  ⟨(some 13), .mov (.tmp 1), none⟩,
  ⟨(some 14), .conv false .u32 (.tmp 13), none⟩,
  ⟨(some 15), .call 52 [(.tmp 12), (.tmp 14)], none⟩,
  ⟨(some 10), .mov (.tmp 15), none⟩,
  ⟨(some 16), .ext (.tmp 10) 0, none⟩,
  ⟨(some 17), .ext (.tmp 10) 1, none⟩,
  ⟨(some 6), .mov (.tmp 16), none⟩,
  ⟨(some 7), .mov (.tmp 17), none⟩])
  (.seq
  (.reg 0 [
  ⟨(some 18), .mov (.tmp 6), none⟩,
  ⟨(some 19), .conv true .u64 (.tmp 18), none⟩,
  ⟨(some 20), .mov (.tmp 7), none⟩,
  ⟨(some 21), .conv true .u64 (.tmp 20), none⟩,
  ⟨(some 4), .mov (.tmp 19), none⟩,
  ⟨(some 5), .mov (.tmp 21), none⟩])
  .ret))
  .skip)
  (.seq
  (.reg 0 [
  ⟨(some 23), .mov (.tmp 0), none⟩,
  ⟨(some 24), .mov (.tmp 1), none⟩,
  ⟨(some 25), .call 53 [(.tmp 23), (.tmp 24)], none⟩,
  ⟨(some 22), .mov (.tmp 25), none⟩,
  ⟨(some 26), .ext (.tmp 22) 0, none⟩,
  ⟨(some 27), .ext (.tmp 22) 1, none⟩,
  ⟨(some 8), .mov (.tmp 26), none⟩,
  ⟨(some 9), .mov (.tmp 27), none⟩])
  (.seq
  (.reg 0 [
  ⟨(some 28), .mov (.tmp 8), none⟩,
  ⟨(some 29), .mov (.tmp 9), none⟩,
  ⟨(some 4), .mov (.tmp 28), none⟩,
  ⟨(some 5), .mov (.tmp 29), none⟩])
  .ret))))
def c49 : LCode :=
  (.seq
  (.tree 0
  (.take 0 [1, 2, 3, 24, 25, 26, 27] ⟨(some 6), .mov (.tmp 0), none⟩
  (.take 1 [2, 3, 24, 25, 26, 27] ⟨(some 7), .nilc (.tmp 6), none⟩
  (.take 2 [3, 24, 25, 26, 27] ⟨(some 8), .fld 0 (.tmp 7), none⟩
  (.take 3 [24, 25, 26, 27] ⟨(some 9), .load none (.tmp 8), none⟩
  (.take 4 [24, 25, 26, 27] ⟨(some 10), .mov (.tmp 1), none⟩
  (.take 5 [6, 7, 8, 24, 25, 26, 27] ⟨(some 11), .mov (.tmp 0), none⟩
  (.take 6 [7, 8, 24, 25, 26, 27] ⟨(some 12), .nilc (.tmp 11), none⟩
  (.take 7 [8, 24, 25, 26, 27] ⟨(some 13), .fld 0 (.tmp 12), none⟩
  (.take 8 [24, 25, 26, 27] ⟨(some 14), .load none (.tmp 13), none⟩
  (.take 9 [26, 27] ⟨(some 15), .mov (.tmp 2), none⟩
  (.take 10 [11, 12, 13, 15, 16, 24, 25, 26, 27] ⟨(some 16), .mov (.tmp 0), none⟩
  (.take 11 [12, 13, 15, 16, 24, 25, 26, 27] ⟨(some 17), .nilc (.tmp 16), none⟩
  (.take 12 [13, 15, 16, 24, 25, 26, 27] ⟨(some 18), .fld 0 (.tmp 17), none⟩
  (.take 13 [15, 16, 24, 25, 26, 27] ⟨(some 19), .load none (.tmp 18), none⟩
  (.take 14 [15, 16, 24, 25, 26, 27] ⟨(some 20), .mov (.tmp 2), none⟩
  (.take 15 [16, 24, 25, 26, 27] ⟨(some 21), .idx 1 (.tmp 19) (.tmp 20), none⟩
  (.take 16 [24, 25, 26, 27] ⟨(some 22), .load none (.tmp 21), none⟩
  (.take 17 [18, 19, 20, 22, 23, 24, 25, 26, 27] ⟨(some 23), .mov (.tmp 0), none⟩
  (.take 18 [19, 20, 22, 23, 24, 25, 26, 27] ⟨(some 24), .nilc (.tmp 23), none⟩
  (.take 19 [20, 22, 23, 24, 25, 26, 27] ⟨(some 25), .fld 0 (.tmp 24), none⟩
  (.take 20 [22, 23, 24, 25, 26, 27] ⟨(some 26), .load none (.tmp 25), none⟩
  (.take 21 [22, 23, 24, 25, 26, 27] ⟨(some 27), .mov (.tmp 1), none⟩
  (.take 22 [23, 24, 25, 26, 27] ⟨(some 28), .idx 1 (.tmp 26) (.tmp 27), none⟩
  (.take 23 [24, 25, 26, 27] ⟨(some 29), .load none (.tmp 28), none⟩
  (.take 24 [25, 26, 27] ⟨(some 30), .idx 1 (.tmp 9) (.tmp 10), none⟩
  (.alt 25 ⟨none, .store 1 (.tmp 30) (.tmp 22), none⟩ false
  (.take 26 [27] ⟨(some 31), .idx 1 (.tmp 14) (.tmp 15), none⟩
  (.alt 27 ⟨none, .store 1 (.tmp 31) (.tmp 29), none⟩ false
  .done
  .none))
  .none)))))))))))))))))))))))))))
  (.tree 0
  (.take 0 [1, 2, 3, 24, 25, 26, 27] ⟨(some 32), .mov (.tmp 0), none⟩
  (.take 1 [2, 3, 24, 25, 26, 27] ⟨(some 33), .nilc (.tmp 32), none⟩
  (.take 2 [3, 24, 25, 26, 27] ⟨(some 34), .fld 1 (.tmp 33), none⟩
  (.take 3 [24, 25, 26, 27] ⟨(some 35), .load none (.tmp 34), none⟩
  (.take 4 [24, 25, 26, 27] ⟨(some 36), .mov (.tmp 1), none⟩
  (.take 5 [6, 7, 8, 24, 25, 26, 27] ⟨(some 37), .mov (.tmp 0), none⟩
  (.take 6 [7, 8, 24, 25, 26, 27] ⟨(some 38), .nilc (.tmp 37), none⟩
  (.take 7 [8, 24, 25, 26, 27] ⟨(some 39), .fld 1 (.tmp 38), none⟩
  (.take 8 [24, 25, 26, 27] ⟨(some 40), .load none (.tmp 39), none⟩
  (.take 9 [26, 27] ⟨(some 41), .mov (.tmp 2), none⟩
  (.take 10 [11, 12, 13, 15, 16, 24, 25, 26, 27] ⟨(some 42), .mov (.tmp 0), none⟩
  (.take 11 [12, 13, 15, 16, 24, 25, 26, 27] ⟨(some 43), .nilc (.tmp 42), none⟩
  (.take 12 [13, 15, 16, 24, 25, 26, 27] ⟨(some 44), .fld 1 (.tmp 43), none⟩
  (.take 13 [15, 16, 24, 25, 26, 27] ⟨(some 45), .load none (.tmp 44), none⟩
  (.take 14 [15, 16, 24, 25, 26, 27] ⟨(some 46), .mov (.tmp 2), none⟩
  (.take 15 [16, 24, 25, 26, 27] ⟨(some 47), .idx 1 (.tmp 45) (.tmp 46), none⟩
  (.take 16 [24, 25, 26, 27] ⟨(some 48), .load none (.tmp 47), none⟩
  (.take 17 [18, 19, 20, 22, 23, 24, 25, 26, 27] ⟨(some 49), .mov (.tmp 0), none⟩
  (.take 18 [19, 20, 22, 23, 24, 25, 26, 27] ⟨(some 50), .nilc (.tmp 49), none⟩
  (.take 19 [20, 22, 23, 24, 25, 26, 27] ⟨(some 51), .fld 1 (.tmp 50), none⟩
  (.take 20 [22, 23, 24, 25, 26, 27] ⟨(some 52), .load none (.tmp 51), none⟩
  (.take 21 [22, 23, 24, 25, 26, 27] ⟨(some 53), .mov (.tmp 1), none⟩
  (.take 22 [23, 24, 25, 26, 27] ⟨(some 54), .idx 1 (.tmp 52) (.tmp 53), none⟩
  (.take 23 [24, 25, 26, 27] ⟨(some 55), .load none (.tmp 54), none⟩
  (.take 24 [25, 26, 27] ⟨(some 56), .idx 1 (.tmp 35) (.tmp 36), none⟩
  (.alt 25 ⟨none, .store 1 (.tmp 56) (.tmp 48), none⟩ false
  (.take 26 [27] ⟨(some 57), .idx 1 (.tmp 40) (.tmp 41), none⟩
  (.alt 27 ⟨none, .store 1 (.tmp 57) (.tmp 55), none⟩ false
  .done
  .none))
  .none))))))))))))))))))))))))))))
def c50l0 : LCode :=
  .seq
  (.reg 0 [
  ⟨(some 17), .bin .lss false (.tmp 16) (.tmp 15), none⟩])
  (.seq
  (.cond (.tmp 17)
  .skip
  (.exit 0))
  (.seq
  (.block 1
  (.seq
  (.reg 0 [
  ⟨(some 18), .idx 1 (.tmp 14) (.tmp 16), none⟩,
  ⟨(some 19), .load none (.tmp 18), none⟩,
  ⟨(some 5), .mov (.tmp 19), none⟩])
  (.seq
  (.reg 1 [
  ⟨(some 20), .load none (.tmp 1), none⟩,
  ⟨(some 21), .nilc (.tmp 20), none⟩,
  ⟨(some 22), .fld 0 (.tmp 21), none⟩,
  ⟨(some 23), .fld 1 (.tmp 22), none⟩,
  ⟨(some 24), .load none (.tmp 23), none⟩,
  ⟨(some 25), .mov (.tmp 5), none⟩,
  ⟨(some 26), .idx 4 (.tmp 24) (.tmp 25), none⟩,
  ⟨(some 27), .load (some 4) (.tmp 26), none⟩,
  ⟨(some 6), .alloc 0 (.agg #[.int .i64 0, .int .i64 0, .int .i64 0, .int .i64 0]), none⟩,
  ⟨none, .store 4 (.tmp 6) (.tmp 27), none⟩])
  (.seq
  (.tree 1
  (.take 0 [15, 17] ⟨(some 28), .mov (.tmp 5), none⟩
  (.take 1 [2, 15, 17] ⟨(some 29), .fld 1 (.tmp 6), none⟩
  (.take 2 [15, 17] ⟨(some 30), .load none (.tmp 29), none⟩
  (.take 3 [4, 12, 15, 17] ⟨(some 31), .fld 2 (.tmp 6), none⟩
  (.take 4 [12, 15, 17] ⟨(some 32), .load none (.tmp 31), none⟩
  (.take 5 [6, 7, 8, 10, 11, 12, 15, 17] ⟨(some 33), .load none (.tmp 1), none⟩
  (.take 6 [7, 8, 10, 11, 12, 15, 17] ⟨(some 34), .nilc (.tmp 33), none⟩
  (.take 7 [8, 10, 11, 12, 15, 17] ⟨(some 35), .fld 2 (.tmp 34), none⟩
  (.take 8 [10, 11, 12, 15, 17] ⟨(some 36), .load none (.tmp 35), none⟩
  (.take 9 [10, 11, 12, 15, 17] ⟨(some 37), .mov (.tmp 5), none⟩
  (.take 10 [11, 12, 15, 17] ⟨(some 38), .idx 1 (.tmp 36) (.tmp 37), none⟩
  (.take 11 [12, 15, 17] ⟨(some 39), .load none (.tmp 38), none⟩
  (.take 12 [15, 17] ⟨(some 40), .bin .sub true (.tmp 32) (.tmp 39), none⟩
  (.take 13 [14, 15, 17] ⟨(some 41), .fld 3 (.tmp 6), none⟩
  (.take 14 [15, 17] ⟨(some 42), .load none (.tmp 41), none⟩
  (.take 15 [17] ⟨(some 43), .build [.int .i64 0, .int .i64 0, .int .i64 0, .int .i64 0, .bool false] [(0, 1, (.tmp 28)), (1, 1, (.tmp 30)), (2, 1, (.tmp 40)), (3, 1, (.tmp 42))], none⟩
  (.alt 16 ⟨(some 7), .alloc 0 (.agg #[.int .i64 0, .int .i64 0, .int .i64 0, .int .i64 0, .bool false]), none⟩ true
  (.alt 17 ⟨none, .store 5 (.tmp 7) (.tmp 43), none⟩ false
  .done
  .none)
  .none))))))))))))))))))
  (.seq
  (.seq
  (.reg 0 [
  ⟨(some 44), .fld 0 (.tmp 6), none⟩,
  ⟨(some 45), .load none (.tmp 44), none⟩,
  ⟨(some 46), .load none (.tmp 2), none⟩,
  ⟨(some 47), .bin .neq false (.tmp 45) (.tmp 46), none⟩])
  (.cond (.tmp 47)
  (.tail 14 0 [
  ⟨(some 48), .mov (.tmp 5), none⟩,
  ⟨(some 49), .fld 0 (.tmp 6), none⟩,
  ⟨(some 50), .load none (.tmp 49), none⟩,
  ⟨(some 51), .load none (.tmp 1), none⟩,
  ⟨(some 52), .nilc (.tmp 51), none⟩,
  ⟨(some 53), .fld 2 (.tmp 52), none⟩,
  ⟨(some 54), .load none (.tmp 53), none⟩,
  ⟨(some 55), .mov (.tmp 5), none⟩,
  ⟨(some 56), .idx 1 (.tmp 54) (.tmp 55), none⟩,
  ⟨(some 57), .load none (.tmp 56), none⟩,
  ⟨(some 58), .fld 3 (.tmp 6), none⟩,
  ⟨(some 59), .load none (.tmp 58), none⟩,
  ⟨(some 60), .neg (.tmp 59), none⟩,
  ⟨(some 61), .build [.int .i64 0, .int .i64 0, .int .i64 0, .int .i64 0, .bool false] [(0, 1, (.tmp 48)), (1, 1, (.tmp 50)), (2, 1, (.tmp 57)), (3, 1, (.tmp 60)), (4, 1, (.const (.bool true)))], none⟩,
  ⟨none, .store 5 (.tmp 7) (.tmp 61), none⟩])
  .skip))
  (.seq
  (.yreg 0 0 [
  ⟨(some 62), .fld 2 (.tmp 7), none⟩,
  ⟨(some 63), .load none (.tmp 62), none⟩,
  ⟨(some 64), .bin .gtr false (.tmp 63) (.const (.int .i64 0)), none⟩,
  ⟨(some 65), .mov (.tmp 64), none⟩,
  ⟨(some 66), .mov (.tmp 0), (some (65, true))⟩,
  ⟨(some 67), .load (some 5) (.tmp 7), (some (65, true))⟩,
  ⟨(some 68), .yld (.tmp 66) [(.tmp 67)], (some (65, true))⟩,
  ⟨(some 69), .not (.tmp 68), (some (65, true))⟩,
  ⟨(some 70), .pick (.tmp 65) (.tmp 69) (.const (.bool false)), none⟩])
  (.cond (.tmp 70)
  .ret
  .skip)))))))
  (.reg 0 [
  ⟨(some 71), .bin .add true (.tmp 16) (.const (.int .i64 1)), none⟩,
  ⟨(some 16), .mov (.tmp 71), none⟩])))
def c50 : LCode :=
  (.seq
  (.qui 0 [
  ⟨(some 8), .load none (.tmp 1), none⟩,
  ⟨(some 9), .nilc (.tmp 8), none⟩,
  ⟨(some 10), .fld 3 (.tmp 9), none⟩,
  ⟨(some 11), .load none (.tmp 10), none⟩,
  ⟨(some 12), .load none (.tmp 2), none⟩,
  ⟨(some 13), .idx 1 (.tmp 11) (.tmp 12), none⟩,
  ⟨(some 14), .load none (.tmp 13), none⟩,
  ⟨(some 15), .len (.tmp 14), none⟩,
  ⟨(some 16), .mov (.const (.int .i64 0)), none⟩])
  (.block 0
  (.loop c50l0)))
def c51 : LCode :=
  (.seq
  (.reg 0 [
  ⟨(some 4), .mov (.const (.int .i64 0)), none⟩])
  (.seq
  (.seq
  (.reg 0 [
  ⟨(some 6), .mov (.tmp 0), none⟩,
  ⟨(some 7), .len (.tmp 6), none⟩,
  ⟨(some 8), .mov (.const (.int .i64 0)), none⟩])
  (.block 0
  (.loop
  (.seq
  (.reg 0 [
  ⟨(some 9), .bin .lss false (.tmp 8) (.tmp 7), none⟩])
  (.seq
  (.cond (.tmp 9)
  .skip
  (.exit 0))
  (.seq
  (.block 1
  (.seq
  (.reg 0 [
  ⟨(some 10), .mov (.tmp 8), none⟩,
  ⟨(some 5), .mov (.tmp 10), none⟩])
  (.seq
  (.reg 0 [
  ⟨(some 11), .mov (.tmp 1), none⟩,
  ⟨(some 12), .mov (.tmp 0), none⟩,
  ⟨(some 13), .mov (.tmp 5), none⟩,
  ⟨(some 14), .idx 1 (.tmp 12) (.tmp 13), none⟩,
  ⟨(some 15), .load none (.tmp 14), none⟩,
  ⟨(some 16), .callv (.tmp 11) [(.tmp 15)], none⟩])
  (.cond (.tmp 16)
  (.seq
  (.reg 0 [
  ⟨(some 17), .mov (.tmp 5), none⟩,
  ⟨(some 4), .mov (.tmp 17), none⟩])
  .ret)
  .skip))))
  (.reg 0 [
  ⟨(some 18), .bin .add true (.tmp 8) (.const (.int .i64 1)), none⟩,
  ⟨(some 8), .mov (.tmp 18), none⟩])))))))
  (.seq
  (.reg 0 [
  ⟨(some 4), .mov (.const (.int .i64 (-1))), none⟩])
  .ret)))
def c52 : LCode :=
  (.seq
  (.reg 0 [
  ⟨(some 4), .mov (.const (.int .u32 0)), none⟩,
  ⟨(some 5), .mov (.const (.int .u32 0)), none⟩])
  (.seq
  (.reg 0 [
  ⟨(some 7), .mov (.tmp 0), none⟩,
  ⟨(some 8), .conv true .u64 (.tmp 7), none⟩,
  ⟨(some 9), .mov (.tmp 1), none⟩,
  ⟨(some 10), .conv true .u64 (.tmp 9), none⟩,
  ⟨(some 11), .bin .mul true (.tmp 8) (.tmp 10), none⟩,
  ⟨(some 6), .mov (.tmp 11), none⟩])
  (.seq
  (.reg 0 [
  ⟨(some 12), .mov (.tmp 6), none⟩,
  ⟨(some 13), .shift .shr (.tmp 12) (.const (.int .u64 32)), none⟩,
  ⟨(some 14), .conv false .u32 (.tmp 13), none⟩,
  ⟨(some 15), .mov (.tmp 6), none⟩,
  ⟨(some 16), .conv false .u32 (.tmp 15), none⟩,
  ⟨(some 4), .mov (.tmp 14), none⟩,
  ⟨(some 5), .mov (.tmp 16), none⟩])
  .ret)))
def c53 : LCode :=
  (.seq
  (.reg 0 [
  ⟨(some 4), .mov (.const (.int .u64 0)), none⟩,
  ⟨(some 5), .mov (.const (.int .u64 0)), none⟩])
  (.seq
  (.reg 0 [
  ⟨(some 14), .mov (.tmp 0), none⟩,
  ⟨(some 15), .bin .and false (.tmp 14) (.const (.int .u64 4294967295)), none⟩,
  ⟨(some 6), .mov (.tmp 15), none⟩])
  (.seq
  (.reg 0 [
  ⟨(some 16), .mov (.tmp 0), none⟩,
  ⟨(some 17), .shift .shr (.tmp 16) (.const (.int .u64 32)), none⟩,
  ⟨(some 7), .mov (.tmp 17), none⟩])
  (.seq
  (.reg 0 [
  ⟨(some 18), .mov (.tmp 1), none⟩,
  ⟨(some 19), .bin .and false (.tmp 18) (.const (.int .u64 4294967295)), none⟩,
  ⟨(some 8), .mov (.tmp 19), none⟩])
  (.seq
  (.reg 0 [
  ⟨(some 20), .mov (.tmp 1), none⟩,
  ⟨(some 21), .shift .shr (.tmp 20) (.const (.int .u64 32)), none⟩,
  ⟨(some 9), .mov (.tmp 21), none⟩])
  (.seq
  (.reg 0 [
  ⟨(some 22), .mov (.tmp 6), none⟩,
  ⟨(some 23), .mov (.tmp 8), none⟩,
  ⟨(some 24), .bin .mul true (.tmp 22) (.tmp 23), none⟩,
  ⟨(some 10), .mov (.tmp 24), none⟩])
  (.seq
  (.reg 0 [
  ⟨(some 25), .mov (.tmp 7), none⟩,
  ⟨(some 26), .mov (.tmp 8), none⟩,
  ⟨(some 27), .bin .mul true (.tmp 25) (.tmp 26), none⟩,
  ⟨(some 28), .mov (.tmp 10), none⟩,
  ⟨(some 29), .shift .shr (.tmp 28) (.const (.int .u64 32)), none⟩,
  ⟨(some 30), .bin .add true (.tmp 27) (.tmp 29), none⟩,
  ⟨(some 11), .mov (.tmp 30), none⟩])
  (.seq
  (.reg 0 [
  ⟨(some 31), .mov (.tmp 11), none⟩,
  ⟨(some 32), .bin .and false (.tmp 31) (.const (.int .u64 4294967295)), none⟩,
  ⟨(some 12), .mov (.tmp 32), none⟩])
  (.seq
  (.reg 0 [
  ⟨(some 33), .mov (.tmp 11), none⟩,
  ⟨(some 34), .shift .shr (.tmp 33) (.const (.int .u64 32)), none⟩,
  ⟨(some 13), .mov (.tmp 34), none⟩])
  (.seq
  (.reg 0 [
  ⟨(some 35), .mov (.tmp 12), none⟩,
  ⟨(some 36), .mov (.tmp 6), none⟩,
  ⟨(some 37), .mov (.tmp 9), none⟩,
  ⟨(some 38), .bin .mul true (.tmp 36) (.tmp 37), none⟩,
  ⟨(some 39), .bin .add true (.tmp 35) (.tmp 38), none⟩,
  ⟨(some 12), .mov (.tmp 39), none⟩])
  (.seq
  (.reg 0 [
  ⟨(some 40), .mov (.tmp 7), none⟩,
  ⟨(some 41), .mov (.tmp 9), none⟩,
  ⟨(some 42), .bin .mul true (.tmp 40) (.tmp 41), none⟩,
  ⟨(some 43), .mov (.tmp 13), none⟩,
  ⟨(some 44), .bin .add true (.tmp 42) (.tmp 43), none⟩,
  ⟨(some 45), .mov (.tmp 12), none⟩,
  ⟨(some 46), .shift .shr (.tmp 45) (.const (.int .u64 32)), none⟩,
  ⟨(some 47), .bin .add true (.tmp 44) (.tmp 46), none⟩,
  ⟨(some 4), .mov (.tmp 47), none⟩])
  (.seq
  (.reg 0 [
  ⟨(some 48), .mov (.tmp 0), none⟩,
  ⟨(some 49), .mov (.tmp 1), none⟩,
  ⟨(some 50), .bin .mul true (.tmp 48) (.tmp 49), none⟩,
  ⟨(some 5), .mov (.tmp 50), none⟩])
  .ret))))))))))))
def tbl : List (Option Ent) := [
  none,
  none,
  none,
  some ⟨c3, [.tmp 8], 65, none⟩,
  some ⟨c4, [.tmp 8], 76, none⟩,
  some ⟨c5, [.tmp 10], 59, none⟩,
  some ⟨c6, [.tmp 8], 151, none⟩,
  some ⟨c7, [.tmp 12], 73, none⟩,
  some ⟨c8, [.tmp 14], 142, none⟩,
  some ⟨c9, [.tmp 0], 123, none⟩,
  some ⟨c10, [.tmp 2], 68, none⟩,
  some ⟨c11, [.tmp 2], 66, none⟩,
  some ⟨c12, [.tmp 8], 35, none⟩,
  some ⟨c13, [.cell 8 (some 5), .tmp 9], 97, none⟩,
  some ⟨c14, [.tmp 4], 35, none⟩,
  some ⟨c15, [.cell 8 (some 5)], 146, none⟩,
  some ⟨c16, [.tmp 10], 73, none⟩,
  some ⟨c17, [.tmp 10], 60, none⟩,
  some ⟨c18, [.tmp 8, .tmp 9], 43, none⟩,
  some ⟨c19, [.cell 8 (some 2)], 28, none⟩,
  some ⟨c20, [.tmp 8], 62, none⟩,
  some ⟨c21, [.tmp 6], 45, none⟩,
  some ⟨c22, [.tmp 4], 27, none⟩,
  some ⟨c23, [.cell 0 (some 2)], 8, none⟩,
  some ⟨c24, [.tmp 4], 13, none⟩,
  some ⟨c25, [.tmp 3], 12, none⟩,
  some ⟨c26, [.tmp 8], 40, none⟩,
  some ⟨c27, [.tmp 4], 64, none⟩,
  some ⟨c28, [.tmp 4], 71, none⟩,
  some ⟨c29, [.cell 6 (some 5)], 39, none⟩,
  some ⟨c30, [.tmp 8], 22, none⟩,
  some ⟨c31, [.cell 6 (some 2)], 168, none⟩,
  some ⟨c32, [.tmp 0], 1, none⟩,
  some ⟨c33, [.tmp 6], 97, none⟩,
  some ⟨c34, [.tmp 8], 110, none⟩,
  some ⟨c35, [.tmp 8], 105, none⟩,
  some ⟨c36, [.tmp 6], 78, none⟩,
  some ⟨c37, [.tmp 8], 117, none⟩,
  some ⟨c38, [.tmp 4], 48, none⟩,
  some ⟨c39, [], 63, some 1⟩,
  some ⟨c40, [.tmp 2, .tmp 3], 95, none⟩,
  some ⟨c41, [.tmp 4], 6, none⟩,
  some ⟨c42, [.tmp 6], 26, none⟩,
  some ⟨c43, [.tmp 2], 31, none⟩,
  some ⟨c44, [.tmp 8], 80, none⟩,
  some ⟨c45, [.tmp 4], 18, none⟩,
  some ⟨c46, [.tmp 4], 9, none⟩,
  some ⟨c47, [.tmp 2], 9, none⟩,
  some ⟨c48, [.tmp 4, .tmp 5], 30, none⟩,
  some ⟨c49, [], 58, none⟩,
  some ⟨c50, [], 72, none⟩,
  some ⟨c51, [.tmp 4], 19, none⟩,
  some ⟨c52, [.tmp 4, .tmp 5], 17, none⟩,
  some ⟨c53, [.tmp 4, .tmp 5], 51, none⟩]
end Go.Fx.C
