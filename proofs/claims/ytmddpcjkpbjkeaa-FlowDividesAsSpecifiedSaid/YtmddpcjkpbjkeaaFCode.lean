import Derived.Test.YtmddpcjkpbjkeaaFxRun
set_option linter.unusedVariables false
set_option linter.unusedSimpArgs false
set_option linter.unusedSectionVars false
namespace Go.Fx.F
open Go Go.Fx

def c3 : LCode :=
  (.seq
  (.reg 1 [
  ⟨(some 3), .box 0 (.tmp 0), none⟩,
  ⟨(some 6), .mov (.const (.bool false)), none⟩])
  (.seq
  (.seq
  (.reg 0 [
  ⟨(some 11), .load (some 2) (.tmp 3), none⟩,
  ⟨(some 12), .call 9 [(.tmp 11), (.const (.int .i64 12)), (.const (.int .i64 40))], none⟩,
  ⟨(some 13), .not (.tmp 12), none⟩])
  (.cond (.tmp 13)
  (.seq
  (.reg 0 [
  ⟨(some 14), .call 10 [], none⟩,
  ⟨(some 6), .mov (.tmp 14), none⟩])
  .ret)
  .skip))
  (.seq
  (.reg 0 [
  ⟨(some 16), .load (some 2) (.tmp 3), none⟩,
  ⟨(some 17), .mov (.tmp 1), none⟩,
  ⟨(some 18), .mov (.tmp 2), none⟩,
  ⟨(some 19), .call 11 [(.tmp 16), (.tmp 17), (.tmp 18)], none⟩,
  ⟨(some 15), .mov (.tmp 19), none⟩,
  ⟨(some 20), .ext (.tmp 15) 0, none⟩,
  ⟨(some 21), .ext (.tmp 15) 1, none⟩,
  ⟨(some 22), .ext (.tmp 15) 2, none⟩,
  ⟨(some 7), .mov (.tmp 20), none⟩,
  ⟨(some 8), .mov (.tmp 21), none⟩,
  ⟨(some 9), .mov (.tmp 22), none⟩])
  (.seq
  (.reg 1 [
  ⟨(some 23), .load (some 2) (.tmp 3), none⟩,
  ⟨(some 24), .mov (.tmp 1), none⟩,
  ⟨(some 25), .mov (.tmp 2), none⟩,
  ⟨(some 26), .call 12 [(.tmp 23), (.tmp 24), (.tmp 25)], none⟩,
  ⟨(some 10), .alloc 0 (.agg #[.slice none 0 0, .slice none 0 0, .int .i64 0]), none⟩,
  ⟨none, .store 3 (.tmp 10) (.tmp 26), none⟩])
  (.seq
  (.reg 0 [
  ⟨(some 27), .call 10 [], none⟩,
  ⟨(some 28), .mov (.tmp 27), none⟩,
  ⟨(some 29), .mov (.tmp 9), (some (28, true))⟩,
  ⟨(some 30), .fld 2 (.tmp 10), (some (28, true))⟩,
  ⟨(some 31), .load none (.tmp 30), (some (28, true))⟩,
  ⟨(some 32), .bin .eql false (.tmp 29) (.tmp 31), (some (28, true))⟩,
  ⟨(some 33), .pick (.tmp 28) (.tmp 32) (.const (.bool false)), none⟩,
  ⟨(some 34), .mov (.tmp 33), none⟩,
  ⟨(some 35), .mov (.tmp 7), (some (34, true))⟩,
  ⟨(some 36), .fld 0 (.tmp 10), (some (34, true))⟩,
  ⟨(some 37), .load none (.tmp 36), (some (34, true))⟩,
  ⟨(some 38), .call 13 [(.tmp 35), (.tmp 37)], (some (34, true))⟩,
  ⟨(some 39), .pick (.tmp 34) (.tmp 38) (.const (.bool false)), none⟩,
  ⟨(some 40), .mov (.tmp 39), none⟩,
  ⟨(some 41), .mov (.tmp 8), (some (40, true))⟩,
  ⟨(some 42), .fld 1 (.tmp 10), (some (40, true))⟩,
  ⟨(some 43), .load none (.tmp 42), (some (40, true))⟩,
  ⟨(some 44), .call 14 [(.tmp 41), (.tmp 43)], (some (40, true))⟩,
  ⟨(some 45), .pick (.tmp 40) (.tmp 44) (.const (.bool false)), none⟩,
  ⟨(some 6), .mov (.tmp 45), none⟩])
  .ret)))))

def c4 : LCode :=
  (.seq
  (.reg 1 [
  ⟨(some 5), .box 0 (.tmp 0), none⟩,
  ⟨(some 10), .mov (.const (.bool false)), none⟩])
  (.seq
  (.seq
  (.reg 0 [
  ⟨(some 15), .load (some 2) (.tmp 5), none⟩,
  ⟨(some 16), .call 9 [(.tmp 15), (.const (.int .i64 30)), (.const (.int .i64 100))], none⟩,
  ⟨(some 17), .not (.tmp 16), none⟩])
  (.cond (.tmp 17)
  (.seq
  (.reg 0 [
  ⟨(some 18), .call 10 [], none⟩,
  ⟨(some 10), .mov (.tmp 18), none⟩])
  .ret)
  .skip))
  (.seq
  (.reg 0 [
  ⟨(some 20), .load (some 2) (.tmp 5), none⟩,
  ⟨(some 21), .mov (.tmp 1), none⟩,
  ⟨(some 22), .mov (.tmp 2), none⟩,
  ⟨(some 23), .call 11 [(.tmp 20), (.tmp 21), (.tmp 22)], none⟩,
  ⟨(some 19), .mov (.tmp 23), none⟩,
  ⟨(some 24), .ext (.tmp 19) 0, none⟩,
  ⟨(some 25), .ext (.tmp 19) 1, none⟩,
  ⟨(some 26), .ext (.tmp 19) 2, none⟩,
  ⟨(some 11), .mov (.tmp 24), none⟩,
  ⟨(some 12), .mov (.tmp 25), none⟩,
  ⟨(some 13), .mov (.tmp 26), none⟩])
  (.seq
  (.seq
  (.reg 0 [
  ⟨(some 27), .mov (.tmp 13), none⟩,
  ⟨(some 28), .bin .neq false (.tmp 27) (.const (.int .i64 0)), none⟩])
  (.cond (.tmp 28)
  (.seq
  (.reg 0 [
  ⟨(some 29), .call 10 [], none⟩,
  ⟨(some 30), .mov (.tmp 29), none⟩,
  ⟨(some 31), .mov (.tmp 1), (some (30, true))⟩,
  ⟨(some 32), .bin .lss false (.tmp 31) (.const (.int .i64 0)), (some (30, true))⟩,
  ⟨(some 33), .mov (.tmp 32), (some (30, true))⟩,
  ⟨(some 34), .mov (.tmp 1), (some (33, false))⟩,
  ⟨(some 35), .fld 0 (.tmp 5), (some (33, false))⟩,
  ⟨(some 36), .load none (.tmp 35), (some (33, false))⟩,
  ⟨(some 37), .bin .geq false (.tmp 34) (.tmp 36), (some (33, false))⟩,
  ⟨(some 38), .pick (.tmp 33) (.const (.bool true)) (.tmp 37), (some (30, true))⟩,
  ⟨(some 39), .mov (.tmp 38), (some (30, true))⟩,
  ⟨(some 40), .mov (.tmp 2), (some (39, false))⟩,
  ⟨(some 41), .bin .lss false (.tmp 40) (.const (.int .i64 0)), (some (39, false))⟩,
  ⟨(some 42), .pick (.tmp 39) (.const (.bool true)) (.tmp 41), (some (30, true))⟩,
  ⟨(some 43), .mov (.tmp 42), (some (30, true))⟩,
  ⟨(some 44), .mov (.tmp 2), (some (43, false))⟩,
  ⟨(some 45), .fld 0 (.tmp 5), (some (43, false))⟩,
  ⟨(some 46), .load none (.tmp 45), (some (43, false))⟩,
  ⟨(some 47), .bin .geq false (.tmp 44) (.tmp 46), (some (43, false))⟩,
  ⟨(some 48), .pick (.tmp 43) (.const (.bool true)) (.tmp 47), (some (30, true))⟩,
  ⟨(some 49), .mov (.tmp 48), (some (30, true))⟩,
  ⟨(some 50), .mov (.tmp 1), (some (49, false))⟩,
  ⟨(some 51), .mov (.tmp 2), (some (49, false))⟩,
  ⟨(some 52), .bin .eql false (.tmp 50) (.tmp 51), (some (49, false))⟩,
  ⟨(some 53), .pick (.tmp 49) (.const (.bool true)) (.tmp 52), (some (30, true))⟩,
  ⟨(some 54), .pick (.tmp 30) (.tmp 53) (.const (.bool false)), none⟩,
  ⟨(some 10), .mov (.tmp 54), none⟩])
  .ret)
  .skip))
  (.seq
  (.reg 0 [
  ⟨(some 55), .load (some 2) (.tmp 5), none⟩,
  ⟨(some 56), .mov (.tmp 1), none⟩,
  ⟨(some 57), .mov (.tmp 11), none⟩,
  ⟨(some 58), .call 15 [(.tmp 55), (.tmp 56), (.tmp 57)], none⟩,
  ⟨(some 14), .mov (.tmp 58), none⟩])
  (.seq
  (.seq
  (.reg 0 [
  ⟨(some 59), .load (some 2) (.tmp 5), none⟩,
  ⟨(some 60), .mov (.tmp 1), none⟩,
  ⟨(some 61), .mov (.tmp 2), none⟩,
  ⟨(some 62), .mov (.tmp 11), none⟩,
  ⟨(some 63), .mov (.tmp 12), none⟩,
  ⟨(some 64), .call 16 [(.tmp 59), (.tmp 60), (.tmp 61), (.tmp 62), (.tmp 63)], none⟩,
  ⟨(some 65), .not (.tmp 64), none⟩,
  ⟨(some 66), .mov (.tmp 65), none⟩,
  ⟨(some 67), .load (some 2) (.tmp 5), (some (66, false))⟩,
  ⟨(some 68), .mov (.tmp 2), (some (66, false))⟩,
  ⟨(some 69), .mov (.tmp 11), (some (66, false))⟩,
  ⟨(some 70), .call 15 [(.tmp 67), (.tmp 68), (.tmp 69)], (some (66, false))⟩,
  ⟨(some 71), .mov (.tmp 14), (some (66, false))⟩,
  ⟨(some 72), .neg (.tmp 71), (some (66, false))⟩,
  ⟨(some 73), .bin .neq false (.tmp 70) (.tmp 72), (some (66, false))⟩,
  ⟨(some 74), .pick (.tmp 66) (.const (.bool true)) (.tmp 73), none⟩])
  (.cond (.tmp 74)
  (.seq
  (.reg 0 [
  ⟨(some 10), .mov (.const (.bool false)), none⟩])
  .ret)
  .skip))
  (.seq
  (.seq
  (.reg 0 [
  ⟨(some 75), .load (some 2) (.tmp 5), none⟩,
  ⟨(some 76), .mov (.tmp 1), none⟩,
  ⟨(some 77), .mov (.tmp 2), none⟩,
  ⟨(some 78), .mov (.tmp 3), none⟩,
  ⟨(some 79), .call 17 [(.tmp 75), (.tmp 76), (.tmp 77), (.tmp 78)], none⟩,
  ⟨(some 80), .bin .eql false (.tmp 79) (.const (.int .i64 0)), none⟩,
  ⟨(some 81), .mov (.tmp 80), none⟩,
  ⟨(some 82), .load (some 2) (.tmp 5), (some (81, true))⟩,
  ⟨(some 83), .mov (.tmp 1), (some (81, true))⟩,
  ⟨(some 84), .mov (.tmp 3), (some (81, true))⟩,
  ⟨(some 85), .call 15 [(.tmp 82), (.tmp 83), (.tmp 84)], (some (81, true))⟩,
  ⟨(some 86), .mov (.tmp 14), (some (81, true))⟩,
  ⟨(some 87), .bin .gtr false (.tmp 85) (.tmp 86), (some (81, true))⟩,
  ⟨(some 88), .pick (.tmp 81) (.tmp 87) (.const (.bool false)), none⟩])
  (.cond (.tmp 88)
  (.seq
  (.reg 0 [
  ⟨(some 10), .mov (.const (.bool false)), none⟩])
  .ret)
  .skip))
  (.seq
  (.reg 0 [
  ⟨(some 89), .call 10 [], none⟩,
  ⟨(some 90), .mov (.tmp 89), none⟩,
  ⟨(some 91), .mov (.tmp 4), (some (90, true))⟩,
  ⟨(some 92), .len (.tmp 91), (some (90, true))⟩,
  ⟨(some 93), .fld 0 (.tmp 5), (some (90, true))⟩,
  ⟨(some 94), .load none (.tmp 93), (some (90, true))⟩,
  ⟨(some 95), .bin .neq false (.tmp 92) (.tmp 94), (some (90, true))⟩,
  ⟨(some 96), .mov (.tmp 95), (some (90, true))⟩,
  ⟨(some 97), .mov (.tmp 4), (some (96, false))⟩,
  ⟨(some 98), .mov (.tmp 1), (some (96, false))⟩,
  ⟨(some 99), .idx 1 (.tmp 97) (.tmp 98), (some (96, false))⟩,
  ⟨(some 100), .load none (.tmp 99), (some (96, false))⟩,
  ⟨(some 101), .not (.tmp 100), (some (96, false))⟩,
  ⟨(some 102), .pick (.tmp 96) (.const (.bool true)) (.tmp 101), (some (90, true))⟩,
  ⟨(some 103), .mov (.tmp 102), (some (90, true))⟩,
  ⟨(some 104), .mov (.tmp 4), (some (103, false))⟩,
  ⟨(some 105), .mov (.tmp 2), (some (103, false))⟩,
  ⟨(some 106), .idx 1 (.tmp 104) (.tmp 105), (some (103, false))⟩,
  ⟨(some 107), .load none (.tmp 106), (some (103, false))⟩,
  ⟨(some 108), .pick (.tmp 103) (.const (.bool true)) (.tmp 107), (some (90, true))⟩,
  ⟨(some 109), .mov (.tmp 108), (some (90, true))⟩,
  ⟨(some 110), .load (some 2) (.tmp 5), (some (109, false))⟩,
  ⟨(some 111), .mov (.tmp 4), (some (109, false))⟩,
  ⟨(some 112), .call 18 [(.tmp 110), (.tmp 111)], (some (109, false))⟩,
  ⟨(some 113), .mov (.tmp 14), (some (109, false))⟩,
  ⟨(some 114), .bin .geq false (.tmp 112) (.tmp 113), (some (109, false))⟩,
  ⟨(some 115), .pick (.tmp 109) (.const (.bool true)) (.tmp 114), (some (90, true))⟩,
  ⟨(some 116), .pick (.tmp 90) (.tmp 115) (.const (.bool false)), none⟩,
  ⟨(some 10), .mov (.tmp 116), none⟩])
  .ret))))))))

def c5 : LCode :=
  (.seq
  (.reg 1 [
  ⟨(some 2), .box 0 (.tmp 0), none⟩,
  ⟨(some 4), .mov (.const (.bool false)), none⟩])
  (.seq
  (.seq
  (.reg 0 [
  ⟨(some 9), .load (some 2) (.tmp 2), none⟩,
  ⟨(some 10), .call 9 [(.tmp 9), (.const (.int .i64 10)), (.const (.int .i64 30))], none⟩,
  ⟨(some 11), .not (.tmp 10), none⟩])
  (.cond (.tmp 11)
  (.seq
  (.reg 0 [
  ⟨(some 12), .call 10 [], none⟩,
  ⟨(some 4), .mov (.tmp 12), none⟩])
  .ret)
  .skip))
  (.seq
  (.reg 0 [
  ⟨(some 14), .load (some 2) (.tmp 2), none⟩,
  ⟨(some 15), .mov (.tmp 1), none⟩,
  ⟨(some 16), .call 19 [(.tmp 14), (.tmp 15)], none⟩,
  ⟨(some 13), .mov (.tmp 16), none⟩,
  ⟨(some 17), .ext (.tmp 13) 0, none⟩,
  ⟨(some 18), .ext (.tmp 13) 1, none⟩,
  ⟨(some 19), .ext (.tmp 13) 2, none⟩,
  ⟨(some 5), .mov (.tmp 17), none⟩,
  ⟨(some 6), .mov (.tmp 18), none⟩,
  ⟨(some 7), .mov (.tmp 19), none⟩])
  (.seq
  (.reg 1 [
  ⟨(some 20), .load (some 2) (.tmp 2), none⟩,
  ⟨(some 21), .mov (.tmp 1), none⟩,
  ⟨(some 22), .call 20 [(.tmp 20), (.tmp 21)], none⟩,
  ⟨(some 8), .alloc 0 (.agg #[.slice none 0 0, .slice none 0 0, .int .i64 0]), none⟩,
  ⟨none, .store 3 (.tmp 8) (.tmp 22), none⟩])
  (.seq
  (.reg 0 [
  ⟨(some 23), .call 10 [], none⟩,
  ⟨(some 24), .mov (.tmp 23), none⟩,
  ⟨(some 25), .mov (.tmp 7), (some (24, true))⟩,
  ⟨(some 26), .fld 2 (.tmp 8), (some (24, true))⟩,
  ⟨(some 27), .load none (.tmp 26), (some (24, true))⟩,
  ⟨(some 28), .bin .eql false (.tmp 25) (.tmp 27), (some (24, true))⟩,
  ⟨(some 29), .pick (.tmp 24) (.tmp 28) (.const (.bool false)), none⟩,
  ⟨(some 30), .mov (.tmp 29), none⟩,
  ⟨(some 31), .mov (.tmp 5), (some (30, true))⟩,
  ⟨(some 32), .fld 0 (.tmp 8), (some (30, true))⟩,
  ⟨(some 33), .load none (.tmp 32), (some (30, true))⟩,
  ⟨(some 34), .call 13 [(.tmp 31), (.tmp 33)], (some (30, true))⟩,
  ⟨(some 35), .pick (.tmp 30) (.tmp 34) (.const (.bool false)), none⟩,
  ⟨(some 36), .mov (.tmp 35), none⟩,
  ⟨(some 37), .mov (.tmp 6), (some (36, true))⟩,
  ⟨(some 38), .fld 1 (.tmp 8), (some (36, true))⟩,
  ⟨(some 39), .load none (.tmp 38), (some (36, true))⟩,
  ⟨(some 40), .call 14 [(.tmp 37), (.tmp 39)], (some (36, true))⟩,
  ⟨(some 41), .pick (.tmp 36) (.tmp 40) (.const (.bool false)), none⟩,
  ⟨(some 4), .mov (.tmp 41), none⟩])
  .ret)))))

def c6 : LCode :=
  (.seq
  (.reg 1 [
  ⟨(some 3), .box 0 (.tmp 0), none⟩,
  ⟨(some 6), .mov (.const (.bool false)), none⟩])
  (.seq
  (.seq
  (.reg 0 [
  ⟨(some 20), .load (some 2) (.tmp 3), none⟩,
  ⟨(some 21), .call 9 [(.tmp 20), (.const (.int .i64 30)), (.const (.int .i64 100))], none⟩,
  ⟨(some 22), .not (.tmp 21), none⟩,
  ⟨(some 23), .mov (.tmp 22), none⟩,
  ⟨(some 24), .mov (.tmp 1), (some (23, false))⟩,
  ⟨(some 25), .len (.tmp 24), (some (23, false))⟩,
  ⟨(some 26), .fld 0 (.tmp 3), (some (23, false))⟩,
  ⟨(some 27), .load none (.tmp 26), (some (23, false))⟩,
  ⟨(some 28), .bin .neq false (.tmp 25) (.tmp 27), (some (23, false))⟩,
  ⟨(some 29), .pick (.tmp 23) (.const (.bool true)) (.tmp 28), none⟩])
  (.cond (.tmp 29)
  (.seq
  (.reg 0 [
  ⟨(some 30), .call 10 [], none⟩,
  ⟨(some 6), .mov (.tmp 30), none⟩])
  .ret)
  .skip))
  (.seq
  (.seq
  (.reg 0 [
  ⟨(some 31), .mov (.tmp 1), none⟩,
  ⟨(some 32), .len (.tmp 31), none⟩,
  ⟨(some 33), .mov (.const (.int .i64 0)), none⟩])
  (.block 0
  (.loop
  (.seq
  (.reg 0 [
  ⟨(some 34), .bin .lss false (.tmp 33) (.tmp 32), none⟩])
  (.seq
  (.cond (.tmp 34)
  .skip
  (.exit 0))
  (.seq
  (.block 1
  (.seq
  (.reg 0 [
  ⟨(some 35), .idx 1 (.tmp 31) (.tmp 33), none⟩,
  ⟨(some 36), .load none (.tmp 35), none⟩,
  ⟨(some 8), .mov (.tmp 36), none⟩])
  (.seq
  (.reg 0 [
  ⟨(some 37), .mov (.tmp 8), none⟩,
  ⟨(some 38), .bin .gtr false (.tmp 37) (.const (.int .i64 1073741824)), none⟩,
  ⟨(some 39), .mov (.tmp 38), none⟩,
  ⟨(some 40), .mov (.tmp 8), (some (39, false))⟩,
  ⟨(some 41), .bin .lss false (.tmp 40) (.const (.int .i64 (-1073741824))), (some (39, false))⟩,
  ⟨(some 42), .pick (.tmp 39) (.const (.bool true)) (.tmp 41), none⟩])
  (.cond (.tmp 42)
  (.seq
  (.reg 0 [
  ⟨(some 43), .call 10 [], none⟩,
  ⟨(some 6), .mov (.tmp 43), none⟩])
  .ret)
  .skip))))
  (.reg 0 [
  ⟨(some 44), .bin .add true (.tmp 33) (.const (.int .i64 1)), none⟩,
  ⟨(some 33), .mov (.tmp 44), none⟩])))))))
  (.seq
  (.reg 0 [
  ⟨(some 46), .load (some 2) (.tmp 3), none⟩,
  ⟨(some 47), .mov (.tmp 1), none⟩,
  ⟨(some 48), .call 19 [(.tmp 46), (.tmp 47)], none⟩,
  ⟨(some 45), .mov (.tmp 48), none⟩,
  ⟨(some 49), .ext (.tmp 45) 0, none⟩,
  ⟨(some 50), .ext (.tmp 45) 1, none⟩,
  ⟨(some 51), .ext (.tmp 45) 2, none⟩,
  ⟨(some 9), .mov (.tmp 49), none⟩,
  ⟨(some 10), .mov (.tmp 50), none⟩,
  ⟨(some 11), .mov (.tmp 51), none⟩])
  (.seq
  (.seq
  (.reg 0 [
  ⟨(some 52), .mov (.tmp 11), none⟩,
  ⟨(some 53), .bin .eql false (.tmp 52) (.const (.int .i64 0)), none⟩])
  (.cond (.tmp 53)
  (.seq
  (.seq
  (.reg 0 [
  ⟨(some 54), .mov (.tmp 9), none⟩,
  ⟨(some 55), .len (.tmp 54), none⟩,
  ⟨(some 56), .fld 1 (.tmp 3), none⟩,
  ⟨(some 57), .load none (.tmp 56), none⟩,
  ⟨(some 58), .len (.tmp 57), none⟩,
  ⟨(some 59), .bin .neq false (.tmp 55) (.tmp 58), none⟩,
  ⟨(some 60), .mov (.tmp 59), none⟩,
  ⟨(some 61), .mov (.tmp 10), (some (60, false))⟩,
  ⟨(some 62), .len (.tmp 61), (some (60, false))⟩,
  ⟨(some 63), .bin .neq false (.tmp 62) (.const (.int .i64 0)), (some (60, false))⟩,
  ⟨(some 64), .pick (.tmp 60) (.const (.bool true)) (.tmp 63), none⟩,
  ⟨(some 65), .mov (.tmp 64), none⟩,
  ⟨(some 66), .load (some 2) (.tmp 3), (some (65, false))⟩,
  ⟨(some 67), .mov (.tmp 9), (some (65, false))⟩,
  ⟨(some 68), .call 21 [(.tmp 66), (.tmp 67)], (some (65, false))⟩,
  ⟨(some 69), .not (.tmp 68), (some (65, false))⟩,
  ⟨(some 70), .pick (.tmp 65) (.const (.bool true)) (.tmp 69), none⟩])
  (.cond (.tmp 70)
  (.seq
  (.reg 0 [
  ⟨(some 6), .mov (.const (.bool false)), none⟩])
  .ret)
  .skip))
  (.seq
  (.seq
  (.reg 0 [
  ⟨(some 71), .mov (.tmp 1), none⟩,
  ⟨(some 72), .len (.tmp 71), none⟩,
  ⟨(some 73), .mov (.const (.int .i64 0)), none⟩])
  (.block 2
  (.loop
  (.seq
  (.reg 0 [
  ⟨(some 74), .bin .lss false (.tmp 73) (.tmp 72), none⟩])
  (.seq
  (.cond (.tmp 74)
  .skip
  (.exit 2))
  (.seq
  (.block 3
  (.seq
  (.reg 0 [
  ⟨(some 75), .mov (.tmp 73), none⟩,
  ⟨(some 76), .idx 1 (.tmp 71) (.tmp 73), none⟩,
  ⟨(some 77), .load none (.tmp 76), none⟩,
  ⟨(some 12), .mov (.tmp 75), none⟩,
  ⟨(some 13), .mov (.tmp 77), none⟩])
  (.seq
  (.reg 0 [
  ⟨(some 78), .load (some 2) (.tmp 3), none⟩,
  ⟨(some 79), .mov (.tmp 12), none⟩,
  ⟨(some 80), .mov (.tmp 9), none⟩,
  ⟨(some 81), .call 15 [(.tmp 78), (.tmp 79), (.tmp 80)], none⟩,
  ⟨(some 82), .mov (.tmp 13), none⟩,
  ⟨(some 83), .bin .neq false (.tmp 81) (.tmp 82), none⟩])
  (.cond (.tmp 83)
  (.seq
  (.reg 0 [
  ⟨(some 6), .mov (.const (.bool false)), none⟩])
  .ret)
  .skip))))
  (.reg 0 [
  ⟨(some 84), .bin .add true (.tmp 73) (.const (.int .i64 1)), none⟩,
  ⟨(some 73), .mov (.tmp 84), none⟩])))))))
  (.seq
  (.reg 0 [
  ⟨(some 85), .call 10 [], none⟩,
  ⟨(some 6), .mov (.tmp 85), none⟩])
  .ret)))
  .skip))
  (.seq
  (.seq
  (.reg 0 [
  ⟨(some 86), .mov (.tmp 11), none⟩,
  ⟨(some 87), .bin .neq false (.tmp 86) (.const (.int .i64 102)), none⟩,
  ⟨(some 88), .mov (.tmp 87), none⟩,
  ⟨(some 89), .mov (.tmp 10), (some (88, false))⟩,
  ⟨(some 90), .len (.tmp 89), (some (88, false))⟩,
  ⟨(some 91), .fld 0 (.tmp 3), (some (88, false))⟩,
  ⟨(some 92), .load none (.tmp 91), (some (88, false))⟩,
  ⟨(some 93), .bin .neq false (.tmp 90) (.tmp 92), (some (88, false))⟩,
  ⟨(some 94), .pick (.tmp 88) (.const (.bool true)) (.tmp 93), none⟩])
  (.cond (.tmp 94)
  (.seq
  (.reg 0 [
  ⟨(some 6), .mov (.const (.bool false)), none⟩])
  .ret)
  .skip))
  (.seq
  (.reg 0 [
  ⟨(some 14), .mov (.const (.int .i64 0)), none⟩,
  ⟨(some 15), .mov (.const (.int .i64 0)), none⟩])
  (.seq
  (.seq
  (.reg 0 [
  ⟨(some 95), .mov (.tmp 1), none⟩,
  ⟨(some 96), .len (.tmp 95), none⟩,
  ⟨(some 97), .mov (.const (.int .i64 0)), none⟩])
  (.block 4
  (.loop
  (.seq
  (.reg 0 [
  ⟨(some 98), .bin .lss false (.tmp 97) (.tmp 96), none⟩])
  (.seq
  (.cond (.tmp 98)
  .skip
  (.exit 4))
  (.seq
  (.block 5
  (.seq
  (.reg 0 [
  ⟨(some 99), .mov (.tmp 97), none⟩,
  ⟨(some 100), .idx 1 (.tmp 95) (.tmp 97), none⟩,
  ⟨(some 101), .load none (.tmp 100), none⟩,
  ⟨(some 16), .mov (.tmp 99), none⟩,
  ⟨(some 17), .mov (.tmp 101), none⟩])
  (.seq
  (.reg 0 [
  ⟨(some 102), .mov (.tmp 14), none⟩,
  ⟨(some 103), .mov (.tmp 17), none⟩,
  ⟨(some 104), .bin .add true (.tmp 102) (.tmp 103), none⟩,
  ⟨(some 14), .mov (.tmp 104), none⟩])
  (.seq
  (.reg 0 [
  ⟨(some 105), .mov (.tmp 10), none⟩,
  ⟨(some 106), .mov (.tmp 16), none⟩,
  ⟨(some 107), .idx 1 (.tmp 105) (.tmp 106), none⟩,
  ⟨(some 108), .load none (.tmp 107), none⟩])
  (.cond (.tmp 108)
  (.reg 0 [
  ⟨(some 109), .mov (.tmp 15), none⟩,
  ⟨(some 110), .mov (.tmp 17), none⟩,
  ⟨(some 111), .bin .add true (.tmp 109) (.tmp 110), none⟩,
  ⟨(some 15), .mov (.tmp 111), none⟩])
  .skip)))))
  (.reg 0 [
  ⟨(some 112), .bin .add true (.tmp 97) (.const (.int .i64 1)), none⟩,
  ⟨(some 97), .mov (.tmp 112), none⟩])))))))
  (.seq
  (.seq
  (.reg 0 [
  ⟨(some 113), .mov (.tmp 14), none⟩,
  ⟨(some 114), .bin .eql false (.tmp 113) (.const (.int .i64 0)), none⟩,
  ⟨(some 115), .mov (.tmp 114), none⟩,
  ⟨(some 116), .mov (.tmp 15), (some (115, true))⟩,
  ⟨(some 117), .load (some 2) (.tmp 3), (some (115, true))⟩,
  ⟨(some 118), .mov (.tmp 10), (some (115, true))⟩,
  ⟨(some 119), .call 18 [(.tmp 117), (.tmp 118)], (some (115, true))⟩,
  ⟨(some 120), .bin .leq false (.tmp 116) (.tmp 119), (some (115, true))⟩,
  ⟨(some 121), .pick (.tmp 115) (.tmp 120) (.const (.bool false)), none⟩])
  (.cond (.tmp 121)
  (.seq
  (.reg 0 [
  ⟨(some 6), .mov (.const (.bool false)), none⟩])
  .ret)
  .skip))
  (.seq
  (.seq
  (.reg 0 [
  ⟨(some 122), .load (some 2) (.tmp 3), none⟩,
  ⟨(some 123), .mov (.tmp 2), none⟩,
  ⟨(some 124), .call 21 [(.tmp 122), (.tmp 123)], none⟩,
  ⟨(some 125), .not (.tmp 124), none⟩])
  (.cond (.tmp 125)
  (.seq
  (.reg 0 [
  ⟨(some 126), .call 10 [], none⟩,
  ⟨(some 6), .mov (.tmp 126), none⟩])
  .ret)
  .skip))
  (.seq
  (.seq
  (.reg 0 [
  ⟨(some 127), .mov (.tmp 1), none⟩,
  ⟨(some 128), .len (.tmp 127), none⟩,
  ⟨(some 129), .mov (.const (.int .i64 0)), none⟩])
  (.block 6
  (.loop
  (.seq
  (.reg 0 [
  ⟨(some 130), .bin .lss false (.tmp 129) (.tmp 128), none⟩])
  (.seq
  (.cond (.tmp 130)
  .skip
  (.exit 6))
  (.seq
  (.block 7
  (.seq
  (.reg 0 [
  ⟨(some 131), .mov (.tmp 129), none⟩,
  ⟨(some 132), .idx 1 (.tmp 127) (.tmp 129), none⟩,
  ⟨(some 133), .load none (.tmp 132), none⟩,
  ⟨(some 18), .mov (.tmp 131), none⟩,
  ⟨(some 19), .mov (.tmp 133), none⟩])
  (.seq
  (.reg 0 [
  ⟨(some 134), .load (some 2) (.tmp 3), none⟩,
  ⟨(some 135), .mov (.tmp 18), none⟩,
  ⟨(some 136), .mov (.tmp 2), none⟩,
  ⟨(some 137), .call 15 [(.tmp 134), (.tmp 135), (.tmp 136)], none⟩,
  ⟨(some 138), .mov (.tmp 19), none⟩,
  ⟨(some 139), .bin .neq false (.tmp 137) (.tmp 138), none⟩])
  (.cond (.tmp 139)
  (.seq
  (.reg 0 [
  ⟨(some 140), .call 10 [], none⟩,
  ⟨(some 6), .mov (.tmp 140), none⟩])
  .ret)
  .skip))))
  (.reg 0 [
  ⟨(some 141), .bin .add true (.tmp 129) (.const (.int .i64 1)), none⟩,
  ⟨(some 129), .mov (.tmp 141), none⟩])))))))
  (.seq
  (.reg 0 [
  ⟨(some 6), .mov (.const (.bool false)), none⟩])
  .ret))))))))))))

def c7 : LCode :=
  (.seq
  (.reg 1 [
  ⟨(some 4), .box 0 (.tmp 0), none⟩,
  ⟨(some 8), .mov (.const (.bool false)), none⟩])
  (.seq
  (.seq
  (.reg 0 [
  ⟨(some 13), .load (some 2) (.tmp 4), none⟩,
  ⟨(some 14), .call 9 [(.tmp 13), (.const (.int .i64 12)), (.const (.int .i64 40))], none⟩,
  ⟨(some 15), .not (.tmp 14), none⟩])
  (.cond (.tmp 15)
  (.seq
  (.reg 0 [
  ⟨(some 16), .call 10 [], none⟩,
  ⟨(some 8), .mov (.tmp 16), none⟩])
  .ret)
  .skip))
  (.seq
  (.reg 0 [
  ⟨(some 18), .load (some 2) (.tmp 4), none⟩,
  ⟨(some 19), .mov (.tmp 1), none⟩,
  ⟨(some 20), .mov (.tmp 2), none⟩,
  ⟨(some 21), .mov (.tmp 3), none⟩,
  ⟨(some 22), .call 22 [(.tmp 18), (.tmp 19), (.tmp 20), (.tmp 21)], none⟩,
  ⟨(some 17), .mov (.tmp 22), none⟩,
  ⟨(some 23), .ext (.tmp 17) 0, none⟩,
  ⟨(some 24), .ext (.tmp 17) 1, none⟩,
  ⟨(some 25), .ext (.tmp 17) 2, none⟩,
  ⟨(some 9), .mov (.tmp 23), none⟩,
  ⟨(some 10), .mov (.tmp 24), none⟩,
  ⟨(some 11), .mov (.tmp 25), none⟩])
  (.seq
  (.reg 1 [
  ⟨(some 26), .load (some 2) (.tmp 4), none⟩,
  ⟨(some 27), .mov (.tmp 1), none⟩,
  ⟨(some 28), .mov (.tmp 2), none⟩,
  ⟨(some 29), .mov (.tmp 3), none⟩,
  ⟨(some 30), .call 23 [(.tmp 26), (.tmp 27), (.tmp 28), (.tmp 29)], none⟩,
  ⟨(some 12), .alloc 0 (.agg #[.slice none 0 0, .slice none 0 0, .int .i64 0]), none⟩,
  ⟨none, .store 3 (.tmp 12) (.tmp 30), none⟩])
  (.seq
  (.reg 0 [
  ⟨(some 31), .call 10 [], none⟩,
  ⟨(some 32), .mov (.tmp 31), none⟩,
  ⟨(some 33), .mov (.tmp 11), (some (32, true))⟩,
  ⟨(some 34), .fld 2 (.tmp 12), (some (32, true))⟩,
  ⟨(some 35), .load none (.tmp 34), (some (32, true))⟩,
  ⟨(some 36), .bin .eql false (.tmp 33) (.tmp 35), (some (32, true))⟩,
  ⟨(some 37), .pick (.tmp 32) (.tmp 36) (.const (.bool false)), none⟩,
  ⟨(some 38), .mov (.tmp 37), none⟩,
  ⟨(some 39), .mov (.tmp 9), (some (38, true))⟩,
  ⟨(some 40), .fld 0 (.tmp 12), (some (38, true))⟩,
  ⟨(some 41), .load none (.tmp 40), (some (38, true))⟩,
  ⟨(some 42), .call 24 [(.tmp 39), (.tmp 41)], (some (38, true))⟩,
  ⟨(some 43), .pick (.tmp 38) (.tmp 42) (.const (.bool false)), none⟩,
  ⟨(some 44), .mov (.tmp 43), none⟩,
  ⟨(some 45), .mov (.tmp 10), (some (44, true))⟩,
  ⟨(some 46), .fld 1 (.tmp 12), (some (44, true))⟩,
  ⟨(some 47), .load none (.tmp 46), (some (44, true))⟩,
  ⟨(some 48), .call 13 [(.tmp 45), (.tmp 47)], (some (44, true))⟩,
  ⟨(some 49), .pick (.tmp 44) (.tmp 48) (.const (.bool false)), none⟩,
  ⟨(some 8), .mov (.tmp 49), none⟩])
  .ret)))))

def c8 : LCode :=
  (.seq
  (.reg 1 [
  ⟨(some 5), .box 0 (.tmp 0), none⟩,
  ⟨(some 10), .mov (.const (.bool false)), none⟩])
  (.seq
  (.seq
  (.reg 0 [
  ⟨(some 12), .fld 0 (.tmp 5), none⟩,
  ⟨(some 13), .load none (.tmp 12), none⟩,
  ⟨(some 14), .bin .gtr false (.tmp 13) (.const (.int .i64 30)), none⟩,
  ⟨(some 15), .mov (.tmp 14), none⟩,
  ⟨(some 16), .fld 0 (.tmp 5), (some (15, true))⟩,
  ⟨(some 17), .load none (.tmp 16), (some (15, true))⟩,
  ⟨(some 18), .bin .leq false (.tmp 17) (.const (.int .i64 256)), (some (15, true))⟩,
  ⟨(some 19), .pick (.tmp 15) (.tmp 18) (.const (.bool false)), none⟩,
  ⟨(some 20), .mov (.tmp 19), none⟩,
  ⟨(some 21), .fld 1 (.tmp 5), (some (20, false))⟩,
  ⟨(some 22), .load none (.tmp 21), (some (20, false))⟩,
  ⟨(some 23), .len (.tmp 22), (some (20, false))⟩,
  ⟨(some 24), .bin .gtr false (.tmp 23) (.const (.int .i64 60)), (some (20, false))⟩,
  ⟨(some 25), .pick (.tmp 20) (.const (.bool true)) (.tmp 24), none⟩])
  (.cond (.tmp 25)
  (.seq
  (.reg 0 [
  ⟨(some 26), .call 10 [], none⟩,
  ⟨(some 10), .mov (.tmp 26), none⟩])
  .ret)
  .skip))
  (.seq
  (.seq
  (.tree 0
  (.take 0 [1, 3, 4] ⟨(some 27), .load (some 2) (.tmp 5), none⟩
  (.take 2 [3, 4] ⟨(some 29), .load (some 2) (.tmp 5), none⟩
  (.alt 1 ⟨(some 28), .call 25 [(.tmp 27)], none⟩ true
  (.alt 3 ⟨(some 30), .call 26 [(.tmp 29)], none⟩ false
  (.take 4 [] ⟨(some 31), .eqb true (.tmp 28) (.tmp 30), none⟩
  .done)
  .none)
  .none))))
  (.cond (.tmp 31)
  (.seq
  (.reg 0 [
  ⟨(some 10), .mov (.const (.bool false)), none⟩])
  .ret)
  .skip))
  (.seq
  (.seq
  (.reg 0 [
  ⟨(some 32), .load (some 2) (.tmp 5), none⟩,
  ⟨(some 33), .call 26 [(.tmp 32)], none⟩,
  ⟨(some 34), .not (.tmp 33), none⟩])
  (.cond (.tmp 34)
  (.seq
  (.reg 0 [
  ⟨(some 35), .call 10 [], none⟩,
  ⟨(some 10), .mov (.tmp 35), none⟩])
  .ret)
  .skip))
  (.seq
  (.seq
  (.tree 0
  (.take 0 [4, 9, 10, 11, 12, 13, 14, 15, 16, 17, 18, 19, 20, 21, 22, 23, 24, 25] ⟨(some 36), .load (some 2) (.tmp 5), none⟩
  (.take 1 [4, 9, 10, 11, 12, 13, 14, 15, 16, 17, 18, 19, 20, 21, 22, 23, 24, 25] ⟨(some 37), .mov (.tmp 1), none⟩
  (.take 2 [4, 9, 10, 11, 12, 13, 14, 15, 16, 17, 18, 19, 20, 21, 22, 23, 24, 25] ⟨(some 38), .mov (.tmp 2), none⟩
  (.take 3 [4, 9, 10, 11, 12, 13, 14, 15, 16, 17, 18, 19, 20, 21, 22, 23, 24, 25] ⟨(some 39), .mov (.tmp 3), none⟩
  (.take 5 [9, 10, 11, 12, 13, 14, 15, 16, 17, 18, 19, 20, 21, 22, 23, 24, 25] ⟨(some 41), .load (some 2) (.tmp 5), none⟩
  (.take 6 [9, 10, 11, 12, 13, 14, 15, 16, 17, 18, 19, 20, 21, 22, 23, 24, 25] ⟨(some 42), .mov (.tmp 1), none⟩
  (.take 7 [9, 10, 11, 12, 13, 14, 15, 16, 17, 18, 19, 20, 21, 22, 23, 24, 25] ⟨(some 43), .mov (.tmp 2), none⟩
  (.take 8 [9, 10, 11, 12, 13, 14, 15, 16, 17, 18, 19, 20, 21, 22, 23, 24, 25] ⟨(some 44), .mov (.tmp 3), none⟩
  (.alt 4 ⟨(some 40), .call 17 [(.tmp 36), (.tmp 37), (.tmp 38), (.tmp 39)], none⟩ true
  (.alt 9 ⟨(some 45), .call 27 [(.tmp 41), (.tmp 42), (.tmp 43), (.tmp 44)], none⟩ false
  (.take 10 [11, 12, 13, 14, 15, 16, 17, 18, 19, 20, 21, 22, 23, 24, 25] ⟨(some 46), .bin .neq false (.tmp 40) (.tmp 45), none⟩
  (.take 11 [12, 13, 14, 15, 16, 17, 18, 19, 20, 21, 22, 23, 24, 25] ⟨(some 47), .mov (.tmp 46), none⟩
  (.take 12 [17, 23, 24, 25] ⟨(some 48), .load (some 2) (.tmp 5), (some (47, false))⟩
  (.take 13 [17, 23, 24, 25] ⟨(some 49), .mov (.tmp 1), (some (47, false))⟩
  (.take 14 [17, 23, 24, 25] ⟨(some 50), .mov (.tmp 2), (some (47, false))⟩
  (.take 15 [17, 23, 24, 25] ⟨(some 51), .mov (.tmp 3), (some (47, false))⟩
  (.take 16 [17, 23, 24, 25] ⟨(some 52), .mov (.tmp 4), (some (47, false))⟩
  (.take 18 [23, 24, 25] ⟨(some 54), .load (some 2) (.tmp 5), (some (47, false))⟩
  (.take 19 [23, 24, 25] ⟨(some 55), .mov (.tmp 1), (some (47, false))⟩
  (.take 20 [23, 24, 25] ⟨(some 56), .mov (.tmp 2), (some (47, false))⟩
  (.take 21 [23, 24, 25] ⟨(some 57), .mov (.tmp 3), (some (47, false))⟩
  (.take 22 [23, 24, 25] ⟨(some 58), .mov (.tmp 4), (some (47, false))⟩
  (.alt 17 ⟨(some 53), .call 16 [(.tmp 48), (.tmp 49), (.tmp 50), (.tmp 51), (.tmp 52)], (some (47, false))⟩ true
  (.alt 23 ⟨(some 59), .call 28 [(.tmp 54), (.tmp 55), (.tmp 56), (.tmp 57), (.tmp 58)], (some (47, false))⟩ false
  (.take 24 [25] ⟨(some 60), .eqb true (.tmp 53) (.tmp 59), (some (47, false))⟩
  (.take 25 [] ⟨(some 61), .pick (.tmp 47) (.const (.bool true)) (.tmp 60), none⟩
  .done))
  .none)
  .none)))))))))))))
  .none)
  .none))))))))))
  (.cond (.tmp 61)
  (.seq
  (.reg 0 [
  ⟨(some 10), .mov (.const (.bool false)), none⟩])
  .ret)
  .skip))
  (.seq
  (.seq
  (.tree 0
  (.take 0 [1, 4, 5, 6, 7, 8, 9, 10, 11, 12, 13] ⟨(some 62), .mov (.tmp 4), none⟩
  (.take 1 [4, 5, 6, 7, 8, 9, 10, 11, 12, 13] ⟨(some 63), .len (.tmp 62), none⟩
  (.take 2 [3, 4, 5, 6, 7, 8, 9, 10, 11, 12, 13] ⟨(some 64), .fld 0 (.tmp 5), none⟩
  (.take 3 [4, 5, 6, 7, 8, 9, 10, 11, 12, 13] ⟨(some 65), .load none (.tmp 64), none⟩
  (.take 4 [5, 6, 7, 8, 9, 10, 11, 12, 13] ⟨(some 66), .bin .eql false (.tmp 63) (.tmp 65), none⟩
  (.take 5 [6, 7, 8, 9, 10, 11, 12, 13] ⟨(some 67), .mov (.tmp 66), none⟩
  (.take 6 [8, 11, 12, 13] ⟨(some 68), .load (some 2) (.tmp 5), (some (67, true))⟩
  (.take 7 [8, 11, 12, 13] ⟨(some 69), .mov (.tmp 4), (some (67, true))⟩
  (.take 9 [11, 12, 13] ⟨(some 71), .load (some 2) (.tmp 5), (some (67, true))⟩
  (.take 10 [11, 12, 13] ⟨(some 72), .mov (.tmp 4), (some (67, true))⟩
  (.alt 8 ⟨(some 70), .call 18 [(.tmp 68), (.tmp 69)], (some (67, true))⟩ true
  (.alt 11 ⟨(some 73), .call 29 [(.tmp 71), (.tmp 72)], (some (67, true))⟩ false
  (.take 12 [13] ⟨(some 74), .bin .neq false (.tmp 70) (.tmp 73), (some (67, true))⟩
  (.take 13 [] ⟨(some 75), .pick (.tmp 67) (.tmp 74) (.const (.bool false)), none⟩
  .done))
  .none)
  .none))))))))))))
  (.cond (.tmp 75)
  (.seq
  (.reg 0 [
  ⟨(some 10), .mov (.const (.bool false)), none⟩])
  .ret)
  .skip))
  (.seq
  (.seq
  (.reg 0 [
  ⟨(some 76), .load (some 2) (.tmp 5), none⟩,
  ⟨(some 77), .mov (.tmp 3), none⟩,
  ⟨(some 78), .call 21 [(.tmp 76), (.tmp 77)], none⟩,
  ⟨(some 79), .not (.tmp 78), none⟩])
  (.cond (.tmp 79)
  (.seq
  (.reg 0 [
  ⟨(some 80), .call 10 [], none⟩,
  ⟨(some 10), .mov (.tmp 80), none⟩])
  .ret)
  .skip))
  (.seq
  (.seq
  (.reg 0 [
  ⟨(some 81), .fld 0 (.tmp 5), none⟩,
  ⟨(some 82), .load none (.tmp 81), none⟩,
  ⟨(some 83), .mov (.const (.int .i64 0)), none⟩])
  (.block 0
  (.loop
  (.seq
  (.reg 0 [
  ⟨(some 84), .bin .lss false (.tmp 83) (.tmp 82), none⟩])
  (.seq
  (.cond (.tmp 84)
  .skip
  (.exit 0))
  (.seq
  (.block 1
  (.seq
  (.reg 0 [
  ⟨(some 85), .mov (.tmp 83), none⟩,
  ⟨(some 11), .mov (.tmp 85), none⟩])
  (.seq
  (.tree 0
  (.take 0 [3, 7, 8] ⟨(some 86), .load (some 2) (.tmp 5), none⟩
  (.take 1 [3, 7, 8] ⟨(some 87), .mov (.tmp 11), none⟩
  (.take 2 [3, 7, 8] ⟨(some 88), .mov (.tmp 3), none⟩
  (.take 4 [7, 8] ⟨(some 90), .load (some 2) (.tmp 5), none⟩
  (.take 5 [7, 8] ⟨(some 91), .mov (.tmp 11), none⟩
  (.take 6 [7, 8] ⟨(some 92), .mov (.tmp 3), none⟩
  (.alt 3 ⟨(some 89), .call 15 [(.tmp 86), (.tmp 87), (.tmp 88)], none⟩ true
  (.alt 7 ⟨(some 93), .call 30 [(.tmp 90), (.tmp 91), (.tmp 92)], none⟩ false
  (.take 8 [] ⟨(some 94), .bin .neq false (.tmp 89) (.tmp 93), none⟩
  .done)
  .none)
  .none))))))))
  (.cond (.tmp 94)
  (.seq
  (.reg 0 [
  ⟨(some 10), .mov (.const (.bool false)), none⟩])
  .ret)
  .skip))))
  (.reg 0 [
  ⟨(some 95), .bin .add true (.tmp 83) (.const (.int .i64 1)), none⟩,
  ⟨(some 83), .mov (.tmp 95), none⟩])))))))
  (.seq
  (.tree 0
  (.alt 0 ⟨(some 96), .call 10 [], none⟩ false
  (.take 1 [2, 3, 4, 5, 6, 7, 8, 9, 10] ⟨(some 97), .mov (.tmp 96), none⟩
  (.take 2 [4, 7, 8, 9, 10] ⟨(some 98), .load (some 2) (.tmp 5), (some (97, true))⟩
  (.take 3 [4, 7, 8, 9, 10] ⟨(some 99), .mov (.tmp 3), (some (97, true))⟩
  (.take 5 [7, 8, 9, 10] ⟨(some 101), .load (some 2) (.tmp 5), (some (97, true))⟩
  (.take 6 [7, 8, 9, 10] ⟨(some 102), .mov (.tmp 3), (some (97, true))⟩
  (.alt 4 ⟨(some 100), .call 32 [(.tmp 98), (.tmp 99)], (some (97, true))⟩ true
  (.alt 7 ⟨(some 103), .call 33 [(.tmp 101), (.tmp 102)], (some (97, true))⟩ false
  (.alt 8 ⟨(some 104), .call 31 [(.tmp 100), (.tmp 103)], (some (97, true))⟩ false
  (.take 9 [10] ⟨(some 105), .pick (.tmp 97) (.tmp 104) (.const (.bool false)), none⟩
  (.take 10 [] ⟨(some 10), .mov (.tmp 105), none⟩
  .done))
  .none)
  .none)
  .none))))))
  .none))
  .ret)))))))))

def c9 : LCode :=
  (.seq
  (.reg 1 [
  ⟨(some 3), .box 0 (.tmp 0), none⟩,
  ⟨(some 6), .mov (.const (.bool false)), none⟩])
  (.seq
  (.reg 0 [
  ⟨(some 7), .fld 0 (.tmp 3), none⟩,
  ⟨(some 8), .load none (.tmp 7), none⟩,
  ⟨(some 9), .mov (.tmp 1), none⟩,
  ⟨(some 10), .bin .leq false (.tmp 8) (.tmp 9), none⟩,
  ⟨(some 11), .mov (.tmp 10), none⟩,
  ⟨(some 12), .fld 1 (.tmp 3), (some (11, true))⟩,
  ⟨(some 13), .load none (.tmp 12), (some (11, true))⟩,
  ⟨(some 14), .len (.tmp 13), (some (11, true))⟩,
  ⟨(some 15), .mov (.tmp 2), (some (11, true))⟩,
  ⟨(some 16), .bin .leq false (.tmp 14) (.tmp 15), (some (11, true))⟩,
  ⟨(some 17), .pick (.tmp 11) (.tmp 16) (.const (.bool false)), none⟩,
  ⟨(some 18), .mov (.tmp 17), none⟩,
  ⟨(some 19), .load (some 2) (.tmp 3), (some (18, true))⟩,
  ⟨(some 20), .call 26 [(.tmp 19)], (some (18, true))⟩,
  ⟨(some 21), .pick (.tmp 18) (.tmp 20) (.const (.bool false)), none⟩,
  ⟨(some 6), .mov (.tmp 21), none⟩])
  .ret))

def c10 : LCode :=
  (.seq
  (.reg 0 [
  ⟨(some 0), .mov (.const (.bool false)), none⟩])
  (.seq
  (.reg 1 [
  ⟨(some 16), .call 34 [], none⟩,
  ⟨(some 1), .alloc 0 (.agg #[.int .i64 0, .slice none 0 0]), none⟩,
  ⟨none, .store 2 (.tmp 1) (.tmp 16), none⟩])
  (.seq
  (.reg 0 [
  ⟨(some 18), .load (some 2) (.tmp 1), none⟩,
  ⟨(some 19), .call 11 [(.tmp 18), (.const (.int .i64 0)), (.const (.int .i64 3))], none⟩,
  ⟨(some 17), .mov (.tmp 19), none⟩,
  ⟨(some 20), .ext (.tmp 17) 0, none⟩,
  ⟨(some 21), .ext (.tmp 17) 1, none⟩,
  ⟨(some 22), .ext (.tmp 17) 2, none⟩,
  ⟨(some 2), .mov (.tmp 20), none⟩,
  ⟨(some 3), .mov (.tmp 21), none⟩,
  ⟨(some 4), .mov (.tmp 22), none⟩])
  (.seq
  (.reg 3 [
  ⟨(some 23), .mov (.tmp 4), none⟩,
  ⟨(some 24), .bin .eql false (.tmp 23) (.const (.int .i64 0)), none⟩,
  ⟨(some 25), .mov (.tmp 24), none⟩,
  ⟨(some 26), .mov (.tmp 2), (some (25, true))⟩,
  ⟨(some 27), .lits 0 1 5 [.int .i64 0] [(0, (.const (.int .i64 3))), (1, (.const (.int .i64 2))), (2, (.const (.int .i64 1))), (3, (.const (.int .i64 2))), (4, (.const (.int .i64 3)))], (some (25, true))⟩,
  ⟨(some 28), .call 13 [(.tmp 26), (.tmp 27)], (some (25, true))⟩,
  ⟨(some 29), .pick (.tmp 25) (.tmp 28) (.const (.bool false)), none⟩,
  ⟨(some 30), .mov (.tmp 29), none⟩,
  ⟨(some 31), .mov (.tmp 3), (some (30, true))⟩,
  ⟨(some 32), .lits 1 1 4 [.bool false] [(0, (.const (.bool true))), (1, (.const (.bool false))), (2, (.const (.bool false))), (3, (.const (.bool false)))], (some (30, true))⟩,
  ⟨(some 33), .call 14 [(.tmp 31), (.tmp 32)], (some (30, true))⟩,
  ⟨(some 34), .pick (.tmp 30) (.tmp 33) (.const (.bool false)), none⟩,
  ⟨(some 35), .mov (.tmp 34), none⟩,
  ⟨(some 36), .load (some 2) (.tmp 1), (some (35, true))⟩,
  ⟨(some 37), .lits 2 1 4 [.bool false] [(0, (.const (.bool true))), (1, (.const (.bool true))), (2, (.const (.bool false))), (3, (.const (.bool false)))], (some (35, true))⟩,
  ⟨(some 38), .call 18 [(.tmp 36), (.tmp 37)], (some (35, true))⟩,
  ⟨(some 39), .bin .eql false (.tmp 38) (.const (.int .i64 9)), (some (35, true))⟩,
  ⟨(some 40), .pick (.tmp 35) (.tmp 39) (.const (.bool false)), none⟩,
  ⟨(some 41), .mov (.tmp 40), none⟩,
  ⟨(some 42), .load (some 2) (.tmp 1), (some (41, true))⟩,
  ⟨(some 43), .mov (.tmp 2), (some (41, true))⟩,
  ⟨(some 44), .call 15 [(.tmp 42), (.const (.int .i64 0)), (.tmp 43)], (some (41, true))⟩,
  ⟨(some 45), .bin .eql false (.tmp 44) (.const (.int .i64 5)), (some (41, true))⟩,
  ⟨(some 46), .pick (.tmp 41) (.tmp 45) (.const (.bool false)), none⟩,
  ⟨(some 5), .mov (.tmp 46), none⟩])
  (.seq
  (.reg 1 [
  ⟨(some 48), .load (some 2) (.tmp 1), none⟩,
  ⟨(some 49), .lits 0 1 4 [.int .i64 0] [(0, (.const (.int .i64 4))), (1, (.const (.int .i64 0))), (2, (.const (.int .i64 0))), (3, (.const (.int .i64 (-4))))], none⟩,
  ⟨(some 50), .call 19 [(.tmp 48), (.tmp 49)], none⟩,
  ⟨(some 47), .mov (.tmp 50), none⟩,
  ⟨(some 51), .ext (.tmp 47) 0, none⟩,
  ⟨(some 52), .ext (.tmp 47) 1, none⟩,
  ⟨(some 53), .ext (.tmp 47) 2, none⟩,
  ⟨(some 6), .mov (.tmp 51), none⟩,
  ⟨(some 7), .mov (.tmp 52), none⟩,
  ⟨(some 8), .mov (.tmp 53), none⟩])
  (.seq
  (.reg 1 [
  ⟨(some 55), .load (some 2) (.tmp 1), none⟩,
  ⟨(some 56), .lits 0 1 4 [.int .i64 0] [(0, (.const (.int .i64 6))), (1, (.const (.int .i64 0))), (2, (.const (.int .i64 0))), (3, (.const (.int .i64 (-6))))], none⟩,
  ⟨(some 57), .call 19 [(.tmp 55), (.tmp 56)], none⟩,
  ⟨(some 54), .mov (.tmp 57), none⟩,
  ⟨(some 58), .ext (.tmp 54) 0, none⟩,
  ⟨(some 59), .ext (.tmp 54) 1, none⟩,
  ⟨(some 60), .ext (.tmp 54) 2, none⟩,
  ⟨(some 9), .mov (.tmp 58), none⟩,
  ⟨(some 10), .mov (.tmp 59), none⟩,
  ⟨(some 11), .mov (.tmp 60), none⟩])
  (.seq
  (.reg 1 [
  ⟨(some 62), .load (some 2) (.tmp 1), none⟩,
  ⟨(some 63), .lits 0 1 5 [.int .i64 0] [(0, (.const (.int .i64 3))), (1, (.const (.int .i64 2))), (2, (.const (.int .i64 1))), (3, (.const (.int .i64 2))), (4, (.const (.int .i64 3)))], none⟩,
  ⟨(some 64), .call 22 [(.tmp 62), (.const (.int .i64 0)), (.const (.int .i64 3)), (.tmp 63)], none⟩,
  ⟨(some 61), .mov (.tmp 64), none⟩,
  ⟨(some 65), .ext (.tmp 61) 0, none⟩,
  ⟨(some 66), .ext (.tmp 61) 1, none⟩,
  ⟨(some 67), .ext (.tmp 61) 2, none⟩,
  ⟨(some 12), .mov (.tmp 65), none⟩,
  ⟨(some 13), .mov (.tmp 66), none⟩,
  ⟨(some 14), .mov (.tmp 67), none⟩])
  (.seq
  (.reg 0 [
  ⟨(some 68), .mov (.tmp 8), none⟩,
  ⟨(some 69), .bin .eql false (.tmp 68) (.const (.int .i64 0)), none⟩,
  ⟨(some 70), .mov (.tmp 69), none⟩,
  ⟨(some 71), .mov (.tmp 6), (some (70, true))⟩,
  ⟨(some 72), .len (.tmp 71), (some (70, true))⟩,
  ⟨(some 73), .bin .eql false (.tmp 72) (.const (.int .i64 5)), (some (70, true))⟩,
  ⟨(some 74), .pick (.tmp 70) (.tmp 73) (.const (.bool false)), none⟩,
  ⟨(some 75), .mov (.tmp 74), none⟩,
  ⟨(some 76), .load (some 2) (.tmp 1), (some (75, true))⟩,
  ⟨(some 77), .mov (.tmp 6), (some (75, true))⟩,
  ⟨(some 78), .call 15 [(.tmp 76), (.const (.int .i64 3)), (.tmp 77)], (some (75, true))⟩,
  ⟨(some 79), .bin .eql false (.tmp 78) (.const (.int .i64 (-4))), (some (75, true))⟩,
  ⟨(some 80), .pick (.tmp 75) (.tmp 79) (.const (.bool false)), none⟩,
  ⟨(some 81), .mov (.tmp 80), none⟩,
  ⟨(some 82), .mov (.tmp 11), (some (81, true))⟩,
  ⟨(some 83), .bin .eql false (.tmp 82) (.const (.int .i64 102)), (some (81, true))⟩,
  ⟨(some 84), .pick (.tmp 81) (.tmp 83) (.const (.bool false)), none⟩,
  ⟨(some 85), .mov (.tmp 84), none⟩,
  ⟨(some 86), .mov (.tmp 10), (some (85, true))⟩,
  ⟨(some 87), .mov (.tmp 3), (some (85, true))⟩,
  ⟨(some 88), .call 14 [(.tmp 86), (.tmp 87)], (some (85, true))⟩,
  ⟨(some 89), .pick (.tmp 85) (.tmp 88) (.const (.bool false)), none⟩,
  ⟨(some 15), .mov (.tmp 89), none⟩])
  (.seq
  (.reg 5 [
  ⟨(some 90), .mov (.tmp 5), none⟩,
  ⟨(some 91), .mov (.tmp 90), none⟩,
  ⟨(some 92), .mov (.tmp 15), (some (91, true))⟩,
  ⟨(some 93), .pick (.tmp 91) (.tmp 92) (.const (.bool false)), none⟩,
  ⟨(some 94), .mov (.tmp 93), none⟩,
  ⟨(some 95), .mov (.tmp 14), (some (94, true))⟩,
  ⟨(some 96), .bin .eql false (.tmp 95) (.const (.int .i64 0)), (some (94, true))⟩,
  ⟨(some 97), .pick (.tmp 94) (.tmp 96) (.const (.bool false)), none⟩,
  ⟨(some 98), .mov (.tmp 97), none⟩,
  ⟨(some 99), .mov (.tmp 12), (some (98, true))⟩,
  ⟨(some 100), .lits 0 1 3 [.int .i64 0] [(0, (.const (.int .i64 0))), (1, (.const (.int .i64 2))), (2, (.const (.int .i64 4)))], (some (98, true))⟩,
  ⟨(some 101), .lits 1 1 2 [.int .i64 0] [(0, (.const (.int .i64 0))), (1, (.const (.int .i64 3)))], (some (98, true))⟩,
  ⟨(some 102), .lits 2 1 2 [.int .i64 0] [(0, (.const (.int .i64 1))), (1, (.const (.int .i64 4)))], (some (98, true))⟩,
  ⟨(some 103), .litsf [100, 101, 102] 3 1 3 [.slice none 0 0] [(0, (.tmp 100)), (1, (.tmp 101)), (2, (.tmp 102))], (some (98, true))⟩,
  ⟨(some 104), .call 24 [(.tmp 99), (.tmp 103)], (some (98, true))⟩,
  ⟨(some 105), .pick (.tmp 98) (.tmp 104) (.const (.bool false)), none⟩,
  ⟨(some 106), .mov (.tmp 105), none⟩,
  ⟨(some 107), .mov (.tmp 13), (some (106, true))⟩,
  ⟨(some 108), .lits 4 1 3 [.int .i64 0] [(0, (.const (.int .i64 1))), (1, (.const (.int .i64 2))), (2, (.const (.int .i64 2)))], (some (106, true))⟩,
  ⟨(some 109), .call 13 [(.tmp 107), (.tmp 108)], (some (106, true))⟩,
  ⟨(some 110), .pick (.tmp 106) (.tmp 109) (.const (.bool false)), none⟩,
  ⟨(some 111), .mov (.tmp 110), none⟩,
  ⟨(some 112), .load (some 2) (.tmp 1), (some (111, true))⟩,
  ⟨(some 113), .mov (.tmp 2), (some (111, true))⟩,
  ⟨(some 114), .mov (.tmp 3), (some (111, true))⟩,
  ⟨(some 115), .call 16 [(.tmp 112), (.const (.int .i64 0)), (.const (.int .i64 3)), (.tmp 113), (.tmp 114)], (some (111, true))⟩,
  ⟨(some 116), .pick (.tmp 111) (.tmp 115) (.const (.bool false)), none⟩,
  ⟨(some 117), .mov (.tmp 116), none⟩,
  ⟨(some 118), .load (some 2) (.tmp 1), (some (117, true))⟩,
  ⟨(some 119), .mov (.tmp 2), (some (117, true))⟩,
  ⟨(some 120), .call 17 [(.tmp 118), (.const (.int .i64 0)), (.const (.int .i64 0)), (.tmp 119)], (some (117, true))⟩,
  ⟨(some 121), .bin .eql false (.tmp 120) (.const (.int .i64 1)), (some (117, true))⟩,
  ⟨(some 122), .pick (.tmp 117) (.tmp 121) (.const (.bool false)), none⟩,
  ⟨(some 0), .mov (.tmp 122), none⟩])
  .ret)))))))))

def c11 : LCode :=
  (.seq
  (.reg 1 [
  ⟨(some 3), .box 0 (.tmp 0), none⟩,
  ⟨(some 6), .mov (.const (.slice none 0 0)), none⟩,
  ⟨(some 7), .mov (.const (.slice none 0 0)), none⟩,
  ⟨(some 8), .mov (.const (.int .i64 0)), none⟩])
  (.seq
  (.seq
  (.reg 0 [
  ⟨(some 11), .load (some 2) (.tmp 3), none⟩,
  ⟨(some 12), .mov (.tmp 1), none⟩,
  ⟨(some 13), .mov (.tmp 2), none⟩,
  ⟨(some 14), .call 35 [(.tmp 11), (.tmp 12), (.tmp 13)], none⟩,
  ⟨(some 15), .not (.tmp 14), none⟩])
  (.cond (.tmp 15)
  (.seq
  (.reg 0 [
  ⟨(some 6), .mov (.const (.slice none 0 0)), none⟩,
  ⟨(some 7), .mov (.const (.slice none 0 0)), none⟩,
  ⟨(some 8), .mov (.const (.int .i64 1)), none⟩])
  .ret)
  .skip))
  (.seq
  (.reg 0 [
  ⟨(some 17), .load (some 2) (.tmp 3), none⟩,
  ⟨(some 18), .mov (.tmp 1), none⟩,
  ⟨(some 19), .mov (.tmp 2), none⟩,
  ⟨(some 20), .call 36 [(.tmp 17), (.tmp 18), (.tmp 19)], none⟩,
  ⟨(some 16), .mov (.tmp 20), none⟩,
  ⟨(some 21), .ext (.tmp 16) 0, none⟩,
  ⟨(some 22), .ext (.tmp 16) 1, none⟩,
  ⟨(some 9), .mov (.tmp 21), none⟩,
  ⟨(some 10), .mov (.tmp 22), none⟩])
  (.seq
  (.reg 0 [
  ⟨(some 23), .mov (.tmp 9), none⟩,
  ⟨(some 24), .mov (.tmp 10), none⟩,
  ⟨(some 6), .mov (.tmp 23), none⟩,
  ⟨(some 7), .mov (.tmp 24), none⟩,
  ⟨(some 8), .mov (.const (.int .i64 0)), none⟩])
  .ret))))

def c12 : LCode :=
  (.seq
  (.reg 2 [
  ⟨(some 3), .box 0 (.tmp 0), none⟩,
  ⟨(some 6), .alloc 1 (.agg #[.slice none 0 0, .slice none 0 0, .int .i64 0]), none⟩])
  (.seq
  (.seq
  (.reg 0 [
  ⟨(some 7), .load (some 2) (.tmp 3), none⟩,
  ⟨(some 8), .mov (.tmp 1), none⟩,
  ⟨(some 9), .mov (.tmp 2), none⟩,
  ⟨(some 10), .call 37 [(.tmp 7), (.tmp 8), (.tmp 9)], none⟩,
  ⟨(some 11), .not (.tmp 10), none⟩])
  (.cond (.tmp 11)
  (.seq
  (.reg 0 [
  ⟨(some 12), .build [.slice none 0 0, .slice none 0 0, .int .i64 0] [(2, 1, (.const (.int .i64 1)))], none⟩,
  ⟨none, .store 3 (.tmp 6) (.tmp 12), none⟩])
  .ret)
  .skip))
  (.seq
  (.reg 0 [
  ⟨(some 13), .load (some 2) (.tmp 3), none⟩,
  ⟨(some 14), .mov (.tmp 1), none⟩,
  ⟨(some 15), .mov (.tmp 2), none⟩,
  ⟨(some 16), .call 38 [(.tmp 13), (.tmp 14), (.tmp 15)], none⟩,
  ⟨none, .store 3 (.tmp 6) (.tmp 16), none⟩])
  .ret)))

def c13 : LCode :=
  (.seq
  (.reg 0 [
  ⟨(some 4), .mov (.const (.bool false)), none⟩])
  (.seq
  (.seq
  (.reg 0 [
  ⟨(some 6), .mov (.tmp 0), none⟩,
  ⟨(some 7), .len (.tmp 6), none⟩,
  ⟨(some 8), .mov (.tmp 1), none⟩,
  ⟨(some 9), .len (.tmp 8), none⟩,
  ⟨(some 10), .bin .neq false (.tmp 7) (.tmp 9), none⟩])
  (.cond (.tmp 10)
  (.seq
  (.reg 0 [
  ⟨(some 4), .mov (.const (.bool false)), none⟩])
  .ret)
  .skip))
  (.seq
  (.seq
  (.reg 0 [
  ⟨(some 5), .mov (.const (.int .i64 0)), none⟩])
  (.block 0
  (.loop
  (.seq
  (.seq
  (.reg 0 [
  ⟨(some 11), .mov (.tmp 5), none⟩,
  ⟨(some 12), .mov (.tmp 0), none⟩,
  ⟨(some 13), .len (.tmp 12), none⟩,
  ⟨(some 14), .bin .lss false (.tmp 11) (.tmp 13), none⟩])
  (.cond (.tmp 14)
  .skip
  (.exit 0)))
  (.seq
  (.block 1
  (.seq
  (.qui 0 [
  ⟨(some 17), .mov (.tmp 0), none⟩,
  ⟨(some 18), .mov (.tmp 5), none⟩,
  ⟨(some 19), .idx 1 (.tmp 17) (.tmp 18), none⟩,
  ⟨(some 20), .load none (.tmp 19), none⟩,
  ⟨(some 21), .mov (.tmp 1), none⟩,
  ⟨(some 22), .mov (.tmp 5), none⟩,
  ⟨(some 23), .idx 1 (.tmp 21) (.tmp 22), none⟩,
  ⟨(some 24), .load none (.tmp 23), none⟩,
  ⟨(some 25), .bin .neq false (.tmp 20) (.tmp 24), none⟩])
  (.cond (.tmp 25)
  (.seq
  (.reg 0 [
  ⟨(some 4), .mov (.const (.bool false)), none⟩])
  .ret)
  .skip)))
  (.reg 0 [
  ⟨(some 15), .mov (.tmp 5), none⟩,
  ⟨(some 16), .bin .add true (.tmp 15) (.const (.int .i64 1)), none⟩,
  ⟨(some 5), .mov (.tmp 16), none⟩]))))))
  (.seq
  (.reg 0 [
  ⟨(some 4), .mov (.const (.bool true)), none⟩])
  .ret))))

def c14 : LCode :=
  (.seq
  (.reg 0 [
  ⟨(some 4), .mov (.const (.bool false)), none⟩])
  (.seq
  (.seq
  (.reg 0 [
  ⟨(some 6), .mov (.tmp 0), none⟩,
  ⟨(some 7), .len (.tmp 6), none⟩,
  ⟨(some 8), .mov (.tmp 1), none⟩,
  ⟨(some 9), .len (.tmp 8), none⟩,
  ⟨(some 10), .bin .neq false (.tmp 7) (.tmp 9), none⟩])
  (.cond (.tmp 10)
  (.seq
  (.reg 0 [
  ⟨(some 4), .mov (.const (.bool false)), none⟩])
  .ret)
  .skip))
  (.seq
  (.seq
  (.reg 0 [
  ⟨(some 5), .mov (.const (.int .i64 0)), none⟩])
  (.block 0
  (.loop
  (.seq
  (.seq
  (.reg 0 [
  ⟨(some 11), .mov (.tmp 5), none⟩,
  ⟨(some 12), .mov (.tmp 0), none⟩,
  ⟨(some 13), .len (.tmp 12), none⟩,
  ⟨(some 14), .bin .lss false (.tmp 11) (.tmp 13), none⟩])
  (.cond (.tmp 14)
  .skip
  (.exit 0)))
  (.seq
  (.block 1
  (.seq
  (.qui 0 [
  ⟨(some 17), .mov (.tmp 0), none⟩,
  ⟨(some 18), .mov (.tmp 5), none⟩,
  ⟨(some 19), .idx 1 (.tmp 17) (.tmp 18), none⟩,
  ⟨(some 20), .load none (.tmp 19), none⟩,
  ⟨(some 21), .mov (.tmp 1), none⟩,
  ⟨(some 22), .mov (.tmp 5), none⟩,
  ⟨(some 23), .idx 1 (.tmp 21) (.tmp 22), none⟩,
  ⟨(some 24), .load none (.tmp 23), none⟩,
  ⟨(some 25), .eqb true (.tmp 20) (.tmp 24), none⟩])
  (.cond (.tmp 25)
  (.seq
  (.reg 0 [
  ⟨(some 4), .mov (.const (.bool false)), none⟩])
  .ret)
  .skip)))
  (.reg 0 [
  ⟨(some 15), .mov (.tmp 5), none⟩,
  ⟨(some 16), .bin .add true (.tmp 15) (.const (.int .i64 1)), none⟩,
  ⟨(some 5), .mov (.tmp 16), none⟩]))))))
  (.seq
  (.reg 0 [
  ⟨(some 4), .mov (.const (.bool true)), none⟩])
  .ret))))

def c15 : LCode :=
  (.seq
  (.reg 1 [
  ⟨(some 3), .box 0 (.tmp 0), none⟩,
  ⟨(some 6), .mov (.const (.int .i64 0)), none⟩])
  (.seq
  (.reg 0 [
  ⟨(some 7), .load (some 2) (.tmp 3), none⟩,
  ⟨(some 8), .mov (.tmp 2), none⟩,
  ⟨(some 9), .call 39 [(.tmp 7), (.tmp 8)], none⟩,
  ⟨(some 10), .mov (.tmp 1), none⟩,
  ⟨(some 11), .idx 1 (.tmp 9) (.tmp 10), none⟩,
  ⟨(some 12), .load none (.tmp 11), none⟩,
  ⟨(some 6), .mov (.tmp 12), none⟩])
  .ret))

def c16 : LCode :=
  (.seq
  (.reg 1 [
  ⟨(some 5), .box 0 (.tmp 0), none⟩,
  ⟨(some 10), .mov (.const (.bool false)), none⟩])
  (.seq
  (.tree 0
  (.take 0 [4, 5, 6, 7, 8, 9, 10, 11, 12, 13, 14, 15, 16, 17, 18, 19, 20, 21, 22, 23, 24, 25, 26, 27, 28, 29, 30, 31, 32, 33, 34, 35, 36] ⟨(some 11), .load (some 2) (.tmp 5), none⟩
  (.take 1 [4, 5, 6, 7, 8, 9, 10, 11, 12, 13, 14, 15, 16, 17, 18, 19, 20, 21, 22, 23, 24, 25, 26, 27, 28, 29, 30, 31, 32, 33, 34, 35, 36] ⟨(some 12), .mov (.tmp 1), none⟩
  (.take 2 [4, 5, 6, 7, 8, 9, 10, 11, 12, 13, 14, 15, 16, 17, 18, 19, 20, 21, 22, 23, 24, 25, 26, 27, 28, 29, 30, 31, 32, 33, 34, 35, 36] ⟨(some 13), .mov (.tmp 2), none⟩
  (.take 3 [4, 5, 6, 7, 8, 9, 10, 11, 12, 13, 14, 15, 16, 17, 18, 19, 20, 21, 22, 23, 24, 25, 26, 27, 28, 29, 30, 31, 32, 33, 34, 35, 36] ⟨(some 14), .mov (.tmp 3), none⟩
  (.alt 4 ⟨(some 15), .call 17 [(.tmp 11), (.tmp 12), (.tmp 13), (.tmp 14)], none⟩ false
  (.take 5 [6, 7, 8, 9, 10, 11, 12, 13, 14, 15, 16, 17, 18, 19, 20, 21, 22, 23, 24, 25, 26, 27, 28, 29, 30, 31, 32, 33, 34, 35, 36] ⟨(some 16), .bin .eql false (.tmp 15) (.const (.int .i64 0)), none⟩
  (.take 6 [7, 8, 9, 10, 11, 12, 13, 14, 15, 16, 17, 18, 19, 20, 21, 22, 23, 24, 25, 26, 27, 28, 29, 30, 31, 32, 33, 34, 35, 36] ⟨(some 17), .mov (.tmp 16), none⟩
  (.take 7 [8, 11, 12, 13, 14, 15, 16, 17, 18, 19, 20, 21, 22, 23, 24, 25, 26, 27, 28, 29, 30, 31, 32, 33, 34, 35, 36] ⟨(some 18), .mov (.tmp 4), (some (17, true))⟩
  (.take 8 [11, 12, 13, 14, 15, 16, 17, 18, 19, 20, 21, 22, 23, 24, 25, 26, 27, 28, 29, 30, 31, 32, 33, 34, 35, 36] ⟨(some 19), .len (.tmp 18), (some (17, true))⟩
  (.take 9 [10, 11, 12, 13, 14, 15, 16, 17, 18, 19, 20, 21, 22, 23, 24, 25, 26, 27, 28, 29, 30, 31, 32, 33, 34, 35, 36] ⟨(some 20), .fld 0 (.tmp 5), (some (17, true))⟩
  (.take 10 [11, 12, 13, 14, 15, 16, 17, 18, 19, 20, 21, 22, 23, 24, 25, 26, 27, 28, 29, 30, 31, 32, 33, 34, 35, 36] ⟨(some 21), .load none (.tmp 20), (some (17, true))⟩
  (.take 11 [12, 13, 14, 15, 16, 17, 18, 19, 20, 21, 22, 23, 24, 25, 26, 27, 28, 29, 30, 31, 32, 33, 34, 35, 36] ⟨(some 22), .bin .eql false (.tmp 19) (.tmp 21), (some (17, true))⟩
  (.take 12 [13, 14, 15, 16, 17, 18, 19, 20, 21, 22, 23, 24, 25, 26, 27, 28, 29, 30, 31, 32, 33, 34, 35, 36] ⟨(some 23), .pick (.tmp 17) (.tmp 22) (.const (.bool false)), none⟩
  (.take 13 [14, 15, 16, 17, 18, 19, 20, 21, 22, 23, 24, 25, 26, 27, 28, 29, 30, 31, 32, 33, 34, 35, 36] ⟨(some 24), .mov (.tmp 23), none⟩
  (.take 14 [16, 17, 18, 19, 20, 21, 22, 23, 24, 25, 26, 27, 28, 29, 30, 31, 32, 33, 34, 35, 36] ⟨(some 25), .mov (.tmp 4), (some (24, true))⟩
  (.take 15 [16, 17, 18, 19, 20, 21, 22, 23, 24, 25, 26, 27, 28, 29, 30, 31, 32, 33, 34, 35, 36] ⟨(some 26), .mov (.tmp 1), (some (24, true))⟩
  (.take 16 [17, 18, 19, 20, 21, 22, 23, 24, 25, 26, 27, 28, 29, 30, 31, 32, 33, 34, 35, 36] ⟨(some 27), .idx 1 (.tmp 25) (.tmp 26), (some (24, true))⟩
  (.take 17 [18, 19, 20, 21, 22, 23, 24, 25, 26, 27, 28, 29, 30, 31, 32, 33, 34, 35, 36] ⟨(some 28), .load none (.tmp 27), (some (24, true))⟩
  (.take 18 [19, 20, 21, 22, 23, 24, 25, 26, 27, 28, 29, 30, 31, 32, 33, 34, 35, 36] ⟨(some 29), .pick (.tmp 24) (.tmp 28) (.const (.bool false)), none⟩
  (.take 19 [20, 21, 22, 23, 24, 25, 26, 27, 28, 29, 30, 31, 32, 33, 34, 35, 36] ⟨(some 30), .mov (.tmp 29), none⟩
  (.take 20 [22, 23, 24, 25, 26, 27, 28, 29, 30, 31, 32, 33, 34, 35, 36] ⟨(some 31), .mov (.tmp 4), (some (30, true))⟩
  (.take 21 [22, 23, 24, 25, 26, 27, 28, 29, 30, 31, 32, 33, 34, 35, 36] ⟨(some 32), .mov (.tmp 2), (some (30, true))⟩
  (.take 22 [23, 24, 25, 26, 27, 28, 29, 30, 31, 32, 33, 34, 35, 36] ⟨(some 33), .idx 1 (.tmp 31) (.tmp 32), (some (30, true))⟩
  (.take 23 [24, 25, 26, 27, 28, 29, 30, 31, 32, 33, 34, 35, 36] ⟨(some 34), .load none (.tmp 33), (some (30, true))⟩
  (.take 24 [25, 26, 27, 28, 29, 30, 31, 32, 33, 34, 35, 36] ⟨(some 35), .not (.tmp 34), (some (30, true))⟩
  (.take 25 [26, 27, 28, 29, 30, 31, 32, 33, 34, 35, 36] ⟨(some 36), .pick (.tmp 30) (.tmp 35) (.const (.bool false)), none⟩
  (.take 26 [27, 28, 29, 30, 31, 32, 33, 34, 35, 36] ⟨(some 37), .mov (.tmp 36), none⟩
  (.take 27 [29, 33, 34, 35, 36] ⟨(some 38), .load (some 2) (.tmp 5), (some (37, true))⟩
  (.take 28 [29, 33, 34, 35, 36] ⟨(some 39), .mov (.tmp 4), (some (37, true))⟩
  (.take 30 [33, 34, 35, 36] ⟨(some 41), .load (some 2) (.tmp 5), (some (37, true))⟩
  (.take 31 [33, 34, 35, 36] ⟨(some 42), .mov (.tmp 1), (some (37, true))⟩
  (.take 32 [33, 34, 35, 36] ⟨(some 43), .mov (.tmp 3), (some (37, true))⟩
  (.alt 29 ⟨(some 40), .call 18 [(.tmp 38), (.tmp 39)], (some (37, true))⟩ true
  (.alt 33 ⟨(some 44), .call 15 [(.tmp 41), (.tmp 42), (.tmp 43)], (some (37, true))⟩ false
  (.take 34 [35, 36] ⟨(some 45), .bin .eql false (.tmp 40) (.tmp 44), (some (37, true))⟩
  (.take 35 [36] ⟨(some 46), .pick (.tmp 37) (.tmp 45) (.const (.bool false)), none⟩
  (.take 36 [] ⟨(some 10), .mov (.tmp 46), none⟩
  .done)))
  .none)
  .none))))))))))))))))))))))))))))
  .none))))))
  .ret))

def c17 : LCode :=
  (.seq
  (.reg 1 [
  ⟨(some 4), .box 0 (.tmp 0), none⟩,
  ⟨(some 8), .mov (.const (.int .i64 0)), none⟩])
  (.seq
  (.seq
  (.reg 0 [
  ⟨(some 13), .load (some 2) (.tmp 4), none⟩,
  ⟨(some 14), .mov (.tmp 1), none⟩,
  ⟨(some 15), .mov (.tmp 2), none⟩,
  ⟨(some 16), .call 35 [(.tmp 13), (.tmp 14), (.tmp 15)], none⟩,
  ⟨(some 17), .not (.tmp 16), none⟩,
  ⟨(some 18), .mov (.tmp 17), none⟩,
  ⟨(some 19), .mov (.tmp 3), (some (18, false))⟩,
  ⟨(some 20), .len (.tmp 19), (some (18, false))⟩,
  ⟨(some 21), .fld 1 (.tmp 4), (some (18, false))⟩,
  ⟨(some 22), .load none (.tmp 21), (some (18, false))⟩,
  ⟨(some 23), .len (.tmp 22), (some (18, false))⟩,
  ⟨(some 24), .bin .neq false (.tmp 20) (.tmp 23), (some (18, false))⟩,
  ⟨(some 25), .pick (.tmp 18) (.const (.bool true)) (.tmp 24), none⟩])
  (.cond (.tmp 25)
  (.seq
  (.reg 0 [
  ⟨(some 8), .mov (.const (.int .i64 1)), none⟩])
  .ret)
  .skip))
  (.seq
  (.seq
  (.reg 0 [
  ⟨(some 26), .mov (.tmp 3), none⟩,
  ⟨(some 27), .len (.tmp 26), none⟩,
  ⟨(some 28), .mov (.const (.int .i64 0)), none⟩])
  (.block 0
  (.loop
  (.seq
  (.reg 0 [
  ⟨(some 29), .bin .lss false (.tmp 28) (.tmp 27), none⟩])
  (.seq
  (.cond (.tmp 29)
  .skip
  (.exit 0))
  (.seq
  (.block 1
  (.seq
  (.reg 0 [
  ⟨(some 30), .mov (.tmp 28), none⟩,
  ⟨(some 31), .idx 1 (.tmp 26) (.tmp 28), none⟩,
  ⟨(some 32), .load none (.tmp 31), none⟩,
  ⟨(some 9), .mov (.tmp 30), none⟩,
  ⟨(some 10), .mov (.tmp 32), none⟩])
  (.seq
  (.reg 0 [
  ⟨(some 33), .mov (.tmp 10), none⟩,
  ⟨(some 34), .bin .lss false (.tmp 33) (.const (.int .i64 0)), none⟩,
  ⟨(some 35), .mov (.tmp 34), none⟩,
  ⟨(some 36), .mov (.tmp 10), (some (35, false))⟩,
  ⟨(some 37), .fld 1 (.tmp 4), (some (35, false))⟩,
  ⟨(some 38), .load none (.tmp 37), (some (35, false))⟩,
  ⟨(some 39), .mov (.tmp 9), (some (35, false))⟩,
  ⟨(some 40), .idx 4 (.tmp 38) (.tmp 39), (some (35, false))⟩,
  ⟨(some 41), .fld 2 (.tmp 40), (some (35, false))⟩,
  ⟨(some 42), .load none (.tmp 41), (some (35, false))⟩,
  ⟨(some 43), .bin .gtr false (.tmp 36) (.tmp 42), (some (35, false))⟩,
  ⟨(some 44), .pick (.tmp 35) (.const (.bool true)) (.tmp 43), none⟩])
  (.cond (.tmp 44)
  (.seq
  (.reg 0 [
  ⟨(some 8), .mov (.const (.int .i64 101)), none⟩])
  .ret)
  .skip))))
  (.reg 0 [
  ⟨(some 45), .bin .add true (.tmp 28) (.const (.int .i64 1)), none⟩,
  ⟨(some 28), .mov (.tmp 45), none⟩])))))))
  (.seq
  (.seq
  (.reg 0 [
  ⟨(some 46), .load (some 2) (.tmp 4), none⟩,
  ⟨(some 47), .mov (.tmp 3), none⟩,
  ⟨(some 48), .call 39 [(.tmp 46), (.tmp 47)], none⟩,
  ⟨(some 49), .len (.tmp 48), none⟩,
  ⟨(some 50), .mov (.const (.int .i64 0)), none⟩])
  (.block 2
  (.loop
  (.seq
  (.reg 0 [
  ⟨(some 51), .bin .lss false (.tmp 50) (.tmp 49), none⟩])
  (.seq
  (.cond (.tmp 51)
  .skip
  (.exit 2))
  (.seq
  (.block 3
  (.seq
  (.reg 0 [
  ⟨(some 52), .mov (.tmp 50), none⟩,
  ⟨(some 53), .idx 1 (.tmp 48) (.tmp 50), none⟩,
  ⟨(some 54), .load none (.tmp 53), none⟩,
  ⟨(some 11), .mov (.tmp 52), none⟩,
  ⟨(some 12), .mov (.tmp 54), none⟩])
  (.seq
  (.reg 0 [
  ⟨(some 55), .mov (.tmp 11), none⟩,
  ⟨(some 56), .mov (.tmp 1), none⟩,
  ⟨(some 57), .bin .neq false (.tmp 55) (.tmp 56), none⟩,
  ⟨(some 58), .mov (.tmp 57), none⟩,
  ⟨(some 59), .mov (.tmp 11), (some (58, true))⟩,
  ⟨(some 60), .mov (.tmp 2), (some (58, true))⟩,
  ⟨(some 61), .bin .neq false (.tmp 59) (.tmp 60), (some (58, true))⟩,
  ⟨(some 62), .pick (.tmp 58) (.tmp 61) (.const (.bool false)), none⟩,
  ⟨(some 63), .mov (.tmp 62), none⟩,
  ⟨(some 64), .mov (.tmp 12), (some (63, true))⟩,
  ⟨(some 65), .bin .neq false (.tmp 64) (.const (.int .i64 0)), (some (63, true))⟩,
  ⟨(some 66), .pick (.tmp 63) (.tmp 65) (.const (.bool false)), none⟩,
  ⟨(some 67), .mov (.tmp 66), none⟩,
  ⟨(some 68), .mov (.tmp 11), (some (67, false))⟩,
  ⟨(some 69), .mov (.tmp 1), (some (67, false))⟩,
  ⟨(some 70), .bin .eql false (.tmp 68) (.tmp 69), (some (67, false))⟩,
  ⟨(some 71), .mov (.tmp 70), (some (67, false))⟩,
  ⟨(some 72), .mov (.tmp 12), (some (71, true))⟩,
  ⟨(some 73), .bin .lss false (.tmp 72) (.const (.int .i64 0)), (some (71, true))⟩,
  ⟨(some 74), .pick (.tmp 71) (.tmp 73) (.const (.bool false)), (some (67, false))⟩,
  ⟨(some 75), .pick (.tmp 67) (.const (.bool true)) (.tmp 74), none⟩])
  (.cond (.tmp 75)
  (.seq
  (.reg 0 [
  ⟨(some 8), .mov (.const (.int .i64 100)), none⟩])
  .ret)
  .skip))))
  (.reg 0 [
  ⟨(some 76), .bin .add true (.tmp 50) (.const (.int .i64 1)), none⟩,
  ⟨(some 50), .mov (.tmp 76), none⟩])))))))
  (.seq
  (.reg 0 [
  ⟨(some 8), .mov (.const (.int .i64 0)), none⟩])
  .ret)))))

def c18 : LCode :=
  (.seq
  (.reg 1 [
  ⟨(some 2), .box 0 (.tmp 0), none⟩,
  ⟨(some 4), .mov (.const (.int .i64 0)), none⟩])
  (.seq
  (.reg 0 [
  ⟨(some 5), .mov (.const (.int .i64 0)), none⟩])
  (.seq
  (.seq
  (.reg 0 [
  ⟨(some 8), .fld 1 (.tmp 2), none⟩,
  ⟨(some 9), .load none (.tmp 8), none⟩,
  ⟨(some 10), .len (.tmp 9), none⟩,
  ⟨(some 11), .mov (.const (.int .i64 0)), none⟩])
  (.block 0
  (.loop
  (.seq
  (.reg 0 [
  ⟨(some 12), .bin .lss false (.tmp 11) (.tmp 10), none⟩])
  (.seq
  (.cond (.tmp 12)
  .skip
  (.exit 0))
  (.seq
  (.block 1
  (.seq
  (.reg 1 [
  ⟨(some 13), .idx 4 (.tmp 9) (.tmp 11), none⟩,
  ⟨(some 14), .load (some 4) (.tmp 13), none⟩,
  ⟨(some 7), .alloc 0 (.agg #[.int .i64 0, .int .i64 0, .int .i64 0, .int .i64 0]), none⟩,
  ⟨none, .store 4 (.tmp 7) (.tmp 14), none⟩])
  (.seq
  (.reg 0 [
  ⟨(some 15), .mov (.tmp 1), none⟩,
  ⟨(some 16), .fld 0 (.tmp 7), none⟩,
  ⟨(some 17), .load none (.tmp 16), none⟩,
  ⟨(some 18), .idx 1 (.tmp 15) (.tmp 17), none⟩,
  ⟨(some 19), .load none (.tmp 18), none⟩,
  ⟨(some 20), .mov (.tmp 19), none⟩,
  ⟨(some 21), .mov (.tmp 1), (some (20, true))⟩,
  ⟨(some 22), .fld 1 (.tmp 7), (some (20, true))⟩,
  ⟨(some 23), .load none (.tmp 22), (some (20, true))⟩,
  ⟨(some 24), .idx 1 (.tmp 21) (.tmp 23), (some (20, true))⟩,
  ⟨(some 25), .load none (.tmp 24), (some (20, true))⟩,
  ⟨(some 26), .not (.tmp 25), (some (20, true))⟩,
  ⟨(some 27), .pick (.tmp 20) (.tmp 26) (.const (.bool false)), none⟩])
  (.cond (.tmp 27)
  (.reg 0 [
  ⟨(some 28), .mov (.tmp 5), none⟩,
  ⟨(some 29), .fld 2 (.tmp 7), none⟩,
  ⟨(some 30), .load none (.tmp 29), none⟩,
  ⟨(some 31), .bin .add true (.tmp 28) (.tmp 30), none⟩,
  ⟨(some 5), .mov (.tmp 31), none⟩])
  .skip))))
  (.reg 0 [
  ⟨(some 32), .bin .add true (.tmp 11) (.const (.int .i64 1)), none⟩,
  ⟨(some 11), .mov (.tmp 32), none⟩])))))))
  (.seq
  (.reg 0 [
  ⟨(some 33), .mov (.tmp 5), none⟩,
  ⟨(some 4), .mov (.tmp 33), none⟩])
  .ret))))

def c19l0 : LCode :=
  .seq
  (.reg 0 [
  ⟨(some 33), .bin .lss false (.tmp 32) (.tmp 31), none⟩])
  (.seq
  (.cond (.tmp 33)
  .skip
  (.exit 0))
  (.seq
  (.block 1
  (.seq
  (.reg 0 [
  ⟨(some 34), .mov (.tmp 32), none⟩,
  ⟨(some 35), .idx 1 (.tmp 30) (.tmp 32), none⟩,
  ⟨(some 36), .load none (.tmp 35), none⟩,
  ⟨(some 10), .mov (.tmp 34), none⟩,
  ⟨(some 11), .mov (.tmp 36), none⟩])
  (.seq
  (.reg 0 [
  ⟨(some 37), .mov (.tmp 8), none⟩,
  ⟨(some 38), .mov (.tmp 11), none⟩,
  ⟨(some 39), .bin .add true (.tmp 37) (.tmp 38), none⟩,
  ⟨(some 8), .mov (.tmp 39), none⟩])
  (.block 2
  (.seq
  (.reg 0 [
  ⟨(some 41), .mov (.tmp 11), none⟩,
  ⟨(some 42), .bin .gtr false (.tmp 41) (.const (.int .i64 0)), none⟩,
  ⟨(some 40), .mov (.tmp 42), none⟩])
  (.cond (.tmp 40)
  (.reg 2 [
  ⟨(some 43), .fld 1 (.tmp 7), none⟩,
  ⟨(some 44), .load none (.tmp 43), none⟩,
  ⟨(some 45), .fld 0 (.tmp 2), none⟩,
  ⟨(some 46), .load none (.tmp 45), none⟩,
  ⟨(some 47), .mov (.tmp 10), none⟩,
  ⟨(some 48), .mov (.tmp 11), none⟩,
  ⟨(some 49), .build [.int .i64 0, .int .i64 0, .int .i64 0, .int .i64 0] [(0, 1, (.tmp 46)), (1, 1, (.tmp 47)), (2, 1, (.tmp 48))], none⟩,
  ⟨(some 50), .lits 0 4 1 [.int .i64 0, .int .i64 0, .int .i64 0, .int .i64 0] [(0, (.tmp 49))], none⟩,
  ⟨(some 51), .append 1 4 32 (.tmp 44) (.tmp 50), none⟩,
  ⟨(some 52), .mov (.tmp 9), none⟩,
  ⟨(some 53), .mov (.tmp 11), none⟩,
  ⟨(some 54), .bin .add true (.tmp 52) (.tmp 53), none⟩,
  ⟨(some 55), .fld 1 (.tmp 7), none⟩,
  ⟨none, .store 1 (.tmp 55) (.tmp 51), none⟩,
  ⟨(some 9), .mov (.tmp 54), none⟩])
  (.seq
  (.reg 0 [
  ⟨(some 57), .mov (.tmp 11), none⟩,
  ⟨(some 58), .bin .lss false (.tmp 57) (.const (.int .i64 0)), none⟩,
  ⟨(some 56), .mov (.tmp 58), none⟩])
  (.cond (.tmp 56)
  (.reg 2 [
  ⟨(some 59), .fld 1 (.tmp 7), none⟩,
  ⟨(some 60), .load none (.tmp 59), none⟩,
  ⟨(some 61), .mov (.tmp 10), none⟩,
  ⟨(some 62), .fld 0 (.tmp 2), none⟩,
  ⟨(some 63), .load none (.tmp 62), none⟩,
  ⟨(some 64), .bin .add true (.tmp 63) (.const (.int .i64 1)), none⟩,
  ⟨(some 65), .mov (.tmp 11), none⟩,
  ⟨(some 66), .neg (.tmp 65), none⟩,
  ⟨(some 67), .build [.int .i64 0, .int .i64 0, .int .i64 0, .int .i64 0] [(0, 1, (.tmp 61)), (1, 1, (.tmp 64)), (2, 1, (.tmp 66))], none⟩,
  ⟨(some 68), .lits 0 4 1 [.int .i64 0, .int .i64 0, .int .i64 0, .int .i64 0] [(0, (.tmp 67))], none⟩,
  ⟨(some 69), .append 1 4 32 (.tmp 60) (.tmp 68), none⟩,
  ⟨(some 70), .fld 1 (.tmp 7), none⟩,
  ⟨none, .store 1 (.tmp 70) (.tmp 69), none⟩])
  .skip))))))))
  (.reg 0 [
  ⟨(some 71), .bin .add true (.tmp 32) (.const (.int .i64 1)), none⟩,
  ⟨(some 32), .mov (.tmp 71), none⟩])))

def c19 : LCode :=
  (.seq
  (.reg 1 [
  ⟨(some 2), .box 0 (.tmp 0), none⟩,
  ⟨(some 4), .mov (.const (.slice none 0 0)), none⟩,
  ⟨(some 5), .mov (.const (.slice none 0 0)), none⟩,
  ⟨(some 6), .mov (.const (.int .i64 0)), none⟩])
  (.seq
  (.seq
  (.reg 0 [
  ⟨(some 14), .mov (.tmp 1), none⟩,
  ⟨(some 15), .len (.tmp 14), none⟩,
  ⟨(some 16), .fld 0 (.tmp 2), none⟩,
  ⟨(some 17), .load none (.tmp 16), none⟩,
  ⟨(some 18), .bin .neq false (.tmp 15) (.tmp 17), none⟩,
  ⟨(some 19), .mov (.tmp 18), none⟩,
  ⟨(some 20), .mov (.tmp 1), (some (19, false))⟩,
  ⟨(some 21), .call 40 [(.tmp 20), (.func 41)], (some (19, false))⟩,
  ⟨(some 22), .pick (.tmp 19) (.const (.bool true)) (.tmp 21), none⟩])
  (.cond (.tmp 22)
  (.seq
  (.reg 0 [
  ⟨(some 4), .mov (.const (.slice none 0 0)), none⟩,
  ⟨(some 5), .mov (.const (.slice none 0 0)), none⟩,
  ⟨(some 6), .mov (.const (.int .i64 1)), none⟩])
  .ret)
  .skip))
  (.seq
  (.tree 1
  (.take 0 [1, 2, 6, 8, 9, 10] ⟨(some 23), .fld 0 (.tmp 2), none⟩
  (.take 1 [2, 6, 8, 9, 10] ⟨(some 24), .load none (.tmp 23), none⟩
  (.take 2 [6, 8, 9, 10] ⟨(some 25), .bin .add true (.tmp 24) (.const (.int .i64 2)), none⟩
  (.take 3 [4, 5, 6, 8, 9, 10] ⟨(some 26), .fld 1 (.tmp 2), none⟩
  (.take 4 [5, 6, 8, 9, 10] ⟨(some 27), .load none (.tmp 26), none⟩
  (.alt 5 ⟨(some 28), .call 42 [(.tmp 27)], none⟩ true
  (.take 6 [8, 9, 10] ⟨(some 29), .build [.int .i64 0, .slice none 0 0] [(0, 1, (.tmp 25)), (1, 1, (.tmp 28))], none⟩
  (.alt 7 ⟨(some 7), .alloc 0 (.agg #[.int .i64 0, .slice none 0 0]), none⟩ true
  (.alt 8 ⟨none, .store 2 (.tmp 7) (.tmp 29), none⟩ false
  (.take 9 [10] ⟨(some 8), .mov (.const (.int .i64 0)), none⟩
  (.take 10 [] ⟨(some 9), .mov (.const (.int .i64 0)), none⟩
  .done))
  .none)
  .none))
  (.alt 7 ⟨(some 7), .alloc 0 (.agg #[.int .i64 0, .slice none 0 0]), none⟩ true
  (.alt 5 ⟨(some 28), .call 42 [(.tmp 27)], none⟩ true
  (.take 6 [8, 9, 10] ⟨(some 29), .build [.int .i64 0, .slice none 0 0] [(0, 1, (.tmp 25)), (1, 1, (.tmp 28))], none⟩
  (.alt 8 ⟨none, .store 2 (.tmp 7) (.tmp 29), none⟩ false
  (.take 9 [10] ⟨(some 8), .mov (.const (.int .i64 0)), none⟩
  (.take 10 [] ⟨(some 9), .mov (.const (.int .i64 0)), none⟩
  .done))
  .none))
  .none)
  .none))))))))
  (.seq
  (.seq
  (.reg 0 [
  ⟨(some 30), .mov (.tmp 1), none⟩,
  ⟨(some 31), .len (.tmp 30), none⟩,
  ⟨(some 32), .mov (.const (.int .i64 0)), none⟩])
  (.block 0
  (.loop c19l0)))
  (.seq
  (.seq
  (.reg 0 [
  ⟨(some 72), .mov (.tmp 8), none⟩,
  ⟨(some 73), .bin .neq false (.tmp 72) (.const (.int .i64 0)), none⟩])
  (.cond (.tmp 73)
  (.seq
  (.reg 1 [
  ⟨(some 74), .lits 0 1 1 [.bool false] [(0, (.const (.bool true)))], none⟩,
  ⟨(some 75), .fld 0 (.tmp 2), none⟩,
  ⟨(some 76), .load none (.tmp 75), none⟩,
  ⟨(some 77), .call 43 [(.tmp 74), (.tmp 76)], none⟩,
  ⟨(some 4), .mov (.const (.slice none 0 0)), none⟩,
  ⟨(some 5), .mov (.tmp 77), none⟩,
  ⟨(some 6), .mov (.const (.int .i64 102)), none⟩])
  .ret)
  .skip))
  (.seq
  (.reg 0 [
  ⟨(some 79), .load (some 2) (.tmp 7), none⟩,
  ⟨(some 80), .fld 0 (.tmp 2), none⟩,
  ⟨(some 81), .load none (.tmp 80), none⟩,
  ⟨(some 82), .fld 0 (.tmp 2), none⟩,
  ⟨(some 83), .load none (.tmp 82), none⟩,
  ⟨(some 84), .bin .add true (.tmp 83) (.const (.int .i64 1)), none⟩,
  ⟨(some 85), .call 36 [(.tmp 79), (.tmp 81), (.tmp 84)], none⟩,
  ⟨(some 78), .mov (.tmp 85), none⟩,
  ⟨(some 86), .ext (.tmp 78) 0, none⟩,
  ⟨(some 87), .ext (.tmp 78) 1, none⟩,
  ⟨(some 12), .mov (.tmp 86), none⟩,
  ⟨(some 13), .mov (.tmp 87), none⟩])
  (.seq
  (.seq
  (.reg 0 [
  ⟨(some 88), .load (some 2) (.tmp 7), none⟩,
  ⟨(some 89), .fld 0 (.tmp 2), none⟩,
  ⟨(some 90), .load none (.tmp 89), none⟩,
  ⟨(some 91), .mov (.tmp 12), none⟩,
  ⟨(some 92), .call 15 [(.tmp 88), (.tmp 90), (.tmp 91)], none⟩,
  ⟨(some 93), .mov (.tmp 9), none⟩,
  ⟨(some 94), .bin .lss false (.tmp 92) (.tmp 93), none⟩])
  (.cond (.tmp 94)
  (.seq
  (.qui 0 [
  ⟨(some 95), .mov (.tmp 13), none⟩,
  ⟨(some 96), .fld 0 (.tmp 2), none⟩,
  ⟨(some 97), .load none (.tmp 96), none⟩,
  ⟨(some 98), .slice 1 (.tmp 95) none (some (.tmp 97)) none, none⟩,
  ⟨(some 4), .mov (.const (.slice none 0 0)), none⟩,
  ⟨(some 5), .mov (.tmp 98), none⟩,
  ⟨(some 6), .mov (.const (.int .i64 102)), none⟩])
  .ret)
  .skip))
  (.seq
  (.reg 0 [
  ⟨(some 99), .mov (.tmp 12), none⟩,
  ⟨(some 100), .fld 1 (.tmp 2), none⟩,
  ⟨(some 101), .load none (.tmp 100), none⟩,
  ⟨(some 102), .len (.tmp 101), none⟩,
  ⟨(some 103), .slice 1 (.tmp 99) none (some (.tmp 102)) none, none⟩,
  ⟨(some 4), .mov (.tmp 103), none⟩,
  ⟨(some 5), .mov (.const (.slice none 0 0)), none⟩,
  ⟨(some 6), .mov (.const (.int .i64 0)), none⟩])
  .ret))))))))

def c20l0 : LCode :=
  .seq
  (.seq
  (.reg 0 [
  ⟨(some 22), .mov (.tmp 8), none⟩,
  ⟨(some 23), .fld 0 (.tmp 2), none⟩,
  ⟨(some 24), .load none (.tmp 23), none⟩,
  ⟨(some 25), .bin .lss false (.tmp 22) (.tmp 24), none⟩])
  (.cond (.tmp 25)
  .skip
  (.exit 0)))
  (.seq
  (.block 1
  (.seq
  (.reg 0 [
  ⟨(some 28), .mov (.tmp 6), none⟩,
  ⟨(some 29), .mov (.tmp 1), none⟩,
  ⟨(some 30), .mov (.tmp 8), none⟩,
  ⟨(some 31), .idx 1 (.tmp 29) (.tmp 30), none⟩,
  ⟨(some 32), .load none (.tmp 31), none⟩,
  ⟨(some 33), .bin .add true (.tmp 28) (.tmp 32), none⟩,
  ⟨(some 6), .mov (.tmp 33), none⟩])
  (.reg 0 [
  ⟨(some 34), .mov (.tmp 7), none⟩,
  ⟨(some 35), .mov (.tmp 8), none⟩,
  ⟨(some 36), .idx 1 (.tmp 34) (.tmp 35), none⟩,
  ⟨none, .store 1 (.tmp 36) (.const (.bool true)), none⟩])))
  (.reg 0 [
  ⟨(some 26), .mov (.tmp 8), none⟩,
  ⟨(some 27), .bin .add true (.tmp 26) (.const (.int .i64 1)), none⟩,
  ⟨(some 8), .mov (.tmp 27), none⟩]))
def c20l1 : LCode :=
  .seq
  (.seq
  (.reg 0 [
  ⟨(some 49), .mov (.tmp 11), none⟩,
  ⟨(some 50), .fld 0 (.tmp 2), none⟩,
  ⟨(some 51), .load none (.tmp 50), none⟩,
  ⟨(some 52), .bin .lss false (.tmp 49) (.tmp 51), none⟩])
  (.cond (.tmp 52)
  .skip
  (.exit 2)))
  (.seq
  (.block 3
  (.seq
  (.seq
  (.reg 0 [
  ⟨(some 55), .mov (.tmp 1), none⟩,
  ⟨(some 56), .mov (.tmp 11), none⟩,
  ⟨(some 57), .idx 1 (.tmp 55) (.tmp 56), none⟩,
  ⟨(some 58), .load none (.tmp 57), none⟩,
  ⟨(some 59), .bin .gtr false (.tmp 58) (.const (.int .i64 0)), none⟩])
  (.cond (.tmp 59)
  (.seq
  (.tree 2
  (.take 0 [1, 11, 12, 13] ⟨(some 60), .fld 1 (.tmp 9), none⟩
  (.take 1 [11, 12, 13] ⟨(some 61), .load none (.tmp 60), none⟩
  (.take 2 [3, 9, 10, 11, 12, 13] ⟨(some 62), .fld 0 (.tmp 2), none⟩
  (.take 3 [9, 10, 11, 12, 13] ⟨(some 63), .load none (.tmp 62), none⟩
  (.take 4 [9, 10, 11, 12, 13] ⟨(some 64), .mov (.tmp 11), none⟩
  (.take 5 [7, 8, 9, 10, 11, 12, 13] ⟨(some 65), .mov (.tmp 1), none⟩
  (.take 6 [7, 8, 9, 10, 11, 12, 13] ⟨(some 66), .mov (.tmp 11), none⟩
  (.take 7 [8, 9, 10, 11, 12, 13] ⟨(some 67), .idx 1 (.tmp 65) (.tmp 66), none⟩
  (.take 8 [9, 10, 11, 12, 13] ⟨(some 68), .load none (.tmp 67), none⟩
  (.take 9 [10, 11, 12, 13] ⟨(some 69), .build [.int .i64 0, .int .i64 0, .int .i64 0, .int .i64 0] [(0, 1, (.tmp 63)), (1, 1, (.tmp 64)), (2, 1, (.tmp 68))], none⟩
  (.alt 10 ⟨(some 70), .lits 0 4 1 [.int .i64 0, .int .i64 0, .int .i64 0, .int .i64 0] [(0, (.tmp 69))], none⟩ true
  (.alt 11 ⟨(some 71), .append 1 4 32 (.tmp 61) (.tmp 70), none⟩ false
  (.take 12 [13] ⟨(some 72), .fld 1 (.tmp 9), none⟩
  (.alt 13 ⟨none, .store 1 (.tmp 72) (.tmp 71), none⟩ false
  .done
  .none))
  .none)
  .none))))))))))))
  (.reg 0 [
  ⟨(some 73), .mov (.tmp 10), none⟩,
  ⟨(some 74), .mov (.tmp 1), none⟩,
  ⟨(some 75), .mov (.tmp 11), none⟩,
  ⟨(some 76), .idx 1 (.tmp 74) (.tmp 75), none⟩,
  ⟨(some 77), .load none (.tmp 76), none⟩,
  ⟨(some 78), .bin .add true (.tmp 73) (.tmp 77), none⟩,
  ⟨(some 10), .mov (.tmp 78), none⟩]))
  .skip))
  (.seq
  (.reg 0 [
  ⟨(some 79), .mov (.tmp 1), none⟩,
  ⟨(some 80), .mov (.tmp 11), none⟩,
  ⟨(some 81), .idx 1 (.tmp 79) (.tmp 80), none⟩,
  ⟨(some 82), .load none (.tmp 81), none⟩,
  ⟨(some 83), .bin .lss false (.tmp 82) (.const (.int .i64 0)), none⟩])
  (.cond (.tmp 83)
  (.tree 2
  (.take 0 [1, 13, 14, 15] ⟨(some 84), .fld 1 (.tmp 9), none⟩
  (.take 1 [13, 14, 15] ⟨(some 85), .load none (.tmp 84), none⟩
  (.take 2 [11, 12, 13, 14, 15] ⟨(some 86), .mov (.tmp 11), none⟩
  (.take 3 [4, 5, 11, 12, 13, 14, 15] ⟨(some 87), .fld 0 (.tmp 2), none⟩
  (.take 4 [5, 11, 12, 13, 14, 15] ⟨(some 88), .load none (.tmp 87), none⟩
  (.take 5 [11, 12, 13, 14, 15] ⟨(some 89), .bin .add true (.tmp 88) (.const (.int .i64 1)), none⟩
  (.take 6 [8, 9, 10, 11, 12, 13, 14, 15] ⟨(some 90), .mov (.tmp 1), none⟩
  (.take 7 [8, 9, 10, 11, 12, 13, 14, 15] ⟨(some 91), .mov (.tmp 11), none⟩
  (.take 8 [9, 10, 11, 12, 13, 14, 15] ⟨(some 92), .idx 1 (.tmp 90) (.tmp 91), none⟩
  (.take 9 [10, 11, 12, 13, 14, 15] ⟨(some 93), .load none (.tmp 92), none⟩
  (.take 10 [11, 12, 13, 14, 15] ⟨(some 94), .neg (.tmp 93), none⟩
  (.take 11 [12, 13, 14, 15] ⟨(some 95), .build [.int .i64 0, .int .i64 0, .int .i64 0, .int .i64 0] [(0, 1, (.tmp 86)), (1, 1, (.tmp 89)), (2, 1, (.tmp 94))], none⟩
  (.alt 12 ⟨(some 96), .lits 0 4 1 [.int .i64 0, .int .i64 0, .int .i64 0, .int .i64 0] [(0, (.tmp 95))], none⟩ true
  (.alt 13 ⟨(some 97), .append 1 4 32 (.tmp 85) (.tmp 96), none⟩ false
  (.take 14 [15] ⟨(some 98), .fld 1 (.tmp 9), none⟩
  (.alt 15 ⟨none, .store 1 (.tmp 98) (.tmp 97), none⟩ false
  .done
  .none))
  .none)
  .none))))))))))))))
  .skip))))
  (.reg 0 [
  ⟨(some 53), .mov (.tmp 11), none⟩,
  ⟨(some 54), .bin .add true (.tmp 53) (.const (.int .i64 1)), none⟩,
  ⟨(some 11), .mov (.tmp 54), none⟩]))

def c20 : LCode :=
  (.seq
  (.reg 2 [
  ⟨(some 2), .box 0 (.tmp 0), none⟩,
  ⟨(some 4), .alloc 1 (.agg #[.slice none 0 0, .slice none 0 0, .int .i64 0]), none⟩])
  (.seq
  (.reg 0 [
  ⟨(some 13), .load (some 2) (.tmp 2), none⟩,
  ⟨(some 14), .mov (.tmp 1), none⟩,
  ⟨(some 15), .call 44 [(.tmp 13), (.tmp 14)], none⟩,
  ⟨(some 5), .mov (.tmp 15), none⟩])
  (.seq
  (.seq
  (.reg 0 [
  ⟨(some 16), .mov (.tmp 5), none⟩,
  ⟨(some 17), .not (.tmp 16), none⟩])
  (.cond (.tmp 17)
  (.seq
  (.reg 0 [
  ⟨(some 18), .build [.slice none 0 0, .slice none 0 0, .int .i64 0] [(2, 1, (.const (.int .i64 1)))], none⟩,
  ⟨none, .store 3 (.tmp 4) (.tmp 18), none⟩])
  .ret)
  .skip))
  (.seq
  (.reg 0 [
  ⟨(some 6), .mov (.const (.int .i64 0)), none⟩])
  (.seq
  (.reg 1 [
  ⟨(some 19), .fld 0 (.tmp 2), none⟩,
  ⟨(some 20), .load none (.tmp 19), none⟩,
  ⟨(some 21), .mk 0 1 1 [.bool false] (.tmp 20) (.tmp 20), none⟩,
  ⟨(some 7), .mov (.tmp 21), none⟩])
  (.seq
  (.seq
  (.reg 0 [
  ⟨(some 8), .mov (.const (.int .i64 0)), none⟩])
  (.block 0
  (.loop c20l0)))
  (.seq
  (.seq
  (.reg 0 [
  ⟨(some 37), .mov (.tmp 6), none⟩,
  ⟨(some 38), .bin .neq false (.tmp 37) (.const (.int .i64 0)), none⟩])
  (.cond (.tmp 38)
  (.seq
  (.reg 0 [
  ⟨(some 39), .mov (.tmp 7), none⟩,
  ⟨(some 40), .build [.slice none 0 0, .slice none 0 0, .int .i64 0] [(1, 1, (.tmp 39)), (2, 1, (.const (.int .i64 102)))], none⟩,
  ⟨none, .store 3 (.tmp 4) (.tmp 40), none⟩])
  .ret)
  .skip))
  (.seq
  (.tree 3
  (.take 0 [1, 2, 7, 9] ⟨(some 41), .fld 0 (.tmp 2), none⟩
  (.take 1 [2, 7, 9] ⟨(some 42), .load none (.tmp 41), none⟩
  (.take 2 [7, 9] ⟨(some 43), .bin .add true (.tmp 42) (.const (.int .i64 2)), none⟩
  (.take 4 [5, 6, 7, 9] ⟨(some 45), .fld 1 (.tmp 2), none⟩
  (.take 5 [6, 7, 9] ⟨(some 46), .load none (.tmp 45), none⟩
  (.alt 3 ⟨(some 44), .lits 0 4 0 [.int .i64 0, .int .i64 0, .int .i64 0, .int .i64 0] [], none⟩ true
  (.alt 6 ⟨(some 47), .append 1 4 32 (.tmp 44) (.tmp 46), none⟩ true
  (.take 7 [9] ⟨(some 48), .build [.int .i64 0, .slice none 0 0] [(0, 1, (.tmp 43)), (1, 1, (.tmp 47))], none⟩
  (.alt 8 ⟨(some 9), .alloc 2 (.agg #[.int .i64 0, .slice none 0 0]), none⟩ true
  (.alt 9 ⟨none, .store 2 (.tmp 9) (.tmp 48), none⟩ false
  .done
  .none)
  .none))
  (.alt 8 ⟨(some 9), .alloc 2 (.agg #[.int .i64 0, .slice none 0 0]), none⟩ true
  (.alt 6 ⟨(some 47), .append 1 4 32 (.tmp 44) (.tmp 46), none⟩ true
  (.take 7 [9] ⟨(some 48), .build [.int .i64 0, .slice none 0 0] [(0, 1, (.tmp 43)), (1, 1, (.tmp 47))], none⟩
  (.alt 9 ⟨none, .store 2 (.tmp 9) (.tmp 48), none⟩ false
  .done
  .none))
  .none)
  .none))
  (.alt 8 ⟨(some 9), .alloc 2 (.agg #[.int .i64 0, .slice none 0 0]), none⟩ true
  (.alt 3 ⟨(some 44), .lits 0 4 0 [.int .i64 0, .int .i64 0, .int .i64 0, .int .i64 0] [], none⟩ true
  (.alt 6 ⟨(some 47), .append 1 4 32 (.tmp 44) (.tmp 46), none⟩ true
  (.take 7 [9] ⟨(some 48), .build [.int .i64 0, .slice none 0 0] [(0, 1, (.tmp 43)), (1, 1, (.tmp 47))], none⟩
  (.alt 9 ⟨none, .store 2 (.tmp 9) (.tmp 48), none⟩ false
  .done
  .none))
  .none)
  .none)
  .none))))))))
  (.seq
  (.reg 0 [
  ⟨(some 10), .mov (.const (.int .i64 0)), none⟩])
  (.seq
  (.seq
  (.reg 0 [
  ⟨(some 11), .mov (.const (.int .i64 0)), none⟩])
  (.block 2
  (.loop c20l1)))
  (.seq
  (.reg 1 [
  ⟨(some 99), .load (some 2) (.tmp 9), none⟩,
  ⟨(some 100), .fld 0 (.tmp 2), none⟩,
  ⟨(some 101), .load none (.tmp 100), none⟩,
  ⟨(some 102), .fld 0 (.tmp 2), none⟩,
  ⟨(some 103), .load none (.tmp 102), none⟩,
  ⟨(some 104), .bin .add true (.tmp 103) (.const (.int .i64 1)), none⟩,
  ⟨(some 105), .call 38 [(.tmp 99), (.tmp 101), (.tmp 104)], none⟩,
  ⟨(some 12), .alloc 0 (.agg #[.slice none 0 0, .slice none 0 0, .int .i64 0]), none⟩,
  ⟨none, .store 3 (.tmp 12) (.tmp 105), none⟩])
  (.seq
  (.seq
  (.reg 0 [
  ⟨(some 106), .load (some 2) (.tmp 9), none⟩,
  ⟨(some 107), .fld 0 (.tmp 2), none⟩,
  ⟨(some 108), .load none (.tmp 107), none⟩,
  ⟨(some 109), .fld 0 (.tmp 12), none⟩,
  ⟨(some 110), .load none (.tmp 109), none⟩,
  ⟨(some 111), .call 30 [(.tmp 106), (.tmp 108), (.tmp 110)], none⟩,
  ⟨(some 112), .mov (.tmp 10), none⟩,
  ⟨(some 113), .bin .lss false (.tmp 111) (.tmp 112), none⟩])
  (.cond (.tmp 113)
  (.seq
  (.reg 0 [
  ⟨(some 114), .fld 1 (.tmp 12), none⟩,
  ⟨(some 115), .load none (.tmp 114), none⟩,
  ⟨(some 116), .fld 0 (.tmp 2), none⟩,
  ⟨(some 117), .load none (.tmp 116), none⟩,
  ⟨(some 118), .slice 1 (.tmp 115) none (some (.tmp 117)) none, none⟩,
  ⟨(some 119), .build [.slice none 0 0, .slice none 0 0, .int .i64 0] [(1, 1, (.tmp 118)), (2, 1, (.const (.int .i64 102)))], none⟩,
  ⟨none, .store 3 (.tmp 4) (.tmp 119), none⟩])
  .ret)
  .skip))
  (.seq
  (.reg 0 [
  ⟨(some 120), .fld 0 (.tmp 12), none⟩,
  ⟨(some 121), .load none (.tmp 120), none⟩,
  ⟨(some 122), .fld 1 (.tmp 2), none⟩,
  ⟨(some 123), .load none (.tmp 122), none⟩,
  ⟨(some 124), .len (.tmp 123), none⟩,
  ⟨(some 125), .slice 1 (.tmp 121) none (some (.tmp 124)) none, none⟩,
  ⟨(some 126), .build [.slice none 0 0, .slice none 0 0, .int .i64 0] [(0, 1, (.tmp 125))], none⟩,
  ⟨none, .store 3 (.tmp 4) (.tmp 126), none⟩])
  .ret)))))))))))))

def c21 : LCode :=
  (.seq
  (.reg 1 [
  ⟨(some 2), .box 0 (.tmp 0), none⟩,
  ⟨(some 4), .mov (.const (.bool false)), none⟩])
  (.seq
  (.seq
  (.reg 0 [
  ⟨(some 6), .mov (.tmp 1), none⟩,
  ⟨(some 7), .len (.tmp 6), none⟩,
  ⟨(some 8), .fld 1 (.tmp 2), none⟩,
  ⟨(some 9), .load none (.tmp 8), none⟩,
  ⟨(some 10), .len (.tmp 9), none⟩,
  ⟨(some 11), .bin .neq false (.tmp 7) (.tmp 10), none⟩])
  (.cond (.tmp 11)
  (.seq
  (.reg 0 [
  ⟨(some 4), .mov (.const (.bool false)), none⟩])
  .ret)
  .skip))
  (.seq
  (.seq
  (.reg 0 [
  ⟨(some 5), .mov (.const (.int .i64 0)), none⟩])
  (.block 0
  (.loop
  (.seq
  (.seq
  (.reg 0 [
  ⟨(some 12), .mov (.tmp 5), none⟩,
  ⟨(some 13), .mov (.tmp 1), none⟩,
  ⟨(some 14), .len (.tmp 13), none⟩,
  ⟨(some 15), .bin .lss false (.tmp 12) (.tmp 14), none⟩])
  (.cond (.tmp 15)
  .skip
  (.exit 0)))
  (.seq
  (.block 1
  (.seq
  (.qui 0 [
  ⟨(some 18), .mov (.tmp 1), none⟩,
  ⟨(some 19), .mov (.tmp 5), none⟩,
  ⟨(some 20), .idx 1 (.tmp 18) (.tmp 19), none⟩,
  ⟨(some 21), .load none (.tmp 20), none⟩,
  ⟨(some 22), .bin .lss false (.tmp 21) (.const (.int .i64 0)), none⟩,
  ⟨(some 23), .mov (.tmp 22), none⟩,
  ⟨(some 24), .mov (.tmp 1), (some (23, false))⟩,
  ⟨(some 25), .mov (.tmp 5), (some (23, false))⟩,
  ⟨(some 26), .idx 1 (.tmp 24) (.tmp 25), (some (23, false))⟩,
  ⟨(some 27), .load none (.tmp 26), (some (23, false))⟩,
  ⟨(some 28), .fld 1 (.tmp 2), (some (23, false))⟩,
  ⟨(some 29), .load none (.tmp 28), (some (23, false))⟩,
  ⟨(some 30), .mov (.tmp 5), (some (23, false))⟩,
  ⟨(some 31), .idx 4 (.tmp 29) (.tmp 30), (some (23, false))⟩,
  ⟨(some 32), .fld 2 (.tmp 31), (some (23, false))⟩,
  ⟨(some 33), .load none (.tmp 32), (some (23, false))⟩,
  ⟨(some 34), .bin .gtr false (.tmp 27) (.tmp 33), (some (23, false))⟩,
  ⟨(some 35), .pick (.tmp 23) (.const (.bool true)) (.tmp 34), none⟩])
  (.cond (.tmp 35)
  (.seq
  (.reg 0 [
  ⟨(some 4), .mov (.const (.bool false)), none⟩])
  .ret)
  .skip)))
  (.reg 0 [
  ⟨(some 16), .mov (.tmp 5), none⟩,
  ⟨(some 17), .bin .add true (.tmp 16) (.const (.int .i64 1)), none⟩,
  ⟨(some 5), .mov (.tmp 17), none⟩]))))))
  (.seq
  (.reg 0 [
  ⟨(some 4), .mov (.const (.bool true)), none⟩])
  .ret))))

def c22l0 : LCode :=
  .seq
  (.reg 0 [
  ⟨(some 40), .bin .lss false (.tmp 39) (.tmp 38), none⟩])
  (.seq
  (.cond (.tmp 40)
  .skip
  (.exit 0))
  (.seq
  (.block 1
  (.seq
  (.reg 1 [
  ⟨(some 41), .mov (.tmp 39), none⟩,
  ⟨(some 42), .idx 4 (.tmp 37) (.tmp 39), none⟩,
  ⟨(some 43), .load (some 4) (.tmp 42), none⟩,
  ⟨(some 15), .alloc 0 (.agg #[.int .i64 0, .int .i64 0, .int .i64 0, .int .i64 0]), none⟩,
  ⟨(some 14), .mov (.tmp 41), none⟩,
  ⟨none, .store 4 (.tmp 15) (.tmp 43), none⟩])
  (.tree 2
  (.take 0 [11, 12] ⟨(some 44), .mov (.tmp 13), none⟩
  (.take 1 [2, 11, 12] ⟨(some 45), .fld 0 (.tmp 15), none⟩
  (.take 2 [11, 12] ⟨(some 46), .load none (.tmp 45), none⟩
  (.take 3 [6, 7, 10, 11, 12] ⟨(some 47), .mov (.tmp 13), none⟩
  (.take 4 [5, 6, 7, 10, 11, 12] ⟨(some 48), .fld 0 (.tmp 15), none⟩
  (.take 5 [6, 7, 10, 11, 12] ⟨(some 49), .load none (.tmp 48), none⟩
  (.take 6 [7, 10, 11, 12] ⟨(some 50), .idx 1 (.tmp 47) (.tmp 49), none⟩
  (.take 7 [10, 11, 12] ⟨(some 51), .load none (.tmp 50), none⟩
  (.take 8 [9, 10, 11, 12] ⟨(some 52), .mov (.tmp 14), none⟩
  (.alt 9 ⟨(some 53), .lits 0 1 1 [.int .i64 0] [(0, (.tmp 52))], none⟩ true
  (.alt 10 ⟨(some 54), .append 1 1 8 (.tmp 51) (.tmp 53), none⟩ true
  (.take 11 [12] ⟨(some 55), .idx 1 (.tmp 44) (.tmp 46), none⟩
  (.alt 12 ⟨none, .store 1 (.tmp 55) (.tmp 54), none⟩ false
  .done
  .none))
  .none)
  .none)))))))))))))
  (.reg 0 [
  ⟨(some 56), .bin .add true (.tmp 39) (.const (.int .i64 1)), none⟩,
  ⟨(some 39), .mov (.tmp 56), none⟩])))
def c22l2 : LCode :=
  .seq
  (.seq
  (.reg 0 [
  ⟨(some 64), .load none (.tmp 20), none⟩,
  ⟨(some 65), .mov (.tmp 2), none⟩,
  ⟨(some 66), .bin .neq false (.tmp 64) (.tmp 65), none⟩])
  (.cond (.tmp 66)
  .skip
  (.exit 4)))
  (.seq
  (.block 5
  (.seq
  (.reg 0 [
  ⟨(some 67), .mov (.tmp 13), none⟩,
  ⟨(some 68), .load none (.tmp 20), none⟩,
  ⟨(some 69), .idx 1 (.tmp 67) (.tmp 68), none⟩,
  ⟨(some 70), .load none (.tmp 69), none⟩,
  ⟨(some 71), .fn 47 [(.tmp 12)], none⟩,
  ⟨(some 72), .call 46 [(.tmp 70), (.tmp 71)], none⟩,
  ⟨(some 21), .mov (.tmp 72), none⟩])
  (.seq
  (.reg 2 [
  ⟨(some 73), .mov (.tmp 19), none⟩,
  ⟨(some 74), .mov (.tmp 13), none⟩,
  ⟨(some 75), .load none (.tmp 20), none⟩,
  ⟨(some 76), .idx 1 (.tmp 74) (.tmp 75), none⟩,
  ⟨(some 77), .load none (.tmp 76), none⟩,
  ⟨(some 78), .mov (.tmp 21), none⟩,
  ⟨(some 79), .idx 1 (.tmp 77) (.tmp 78), none⟩,
  ⟨(some 80), .load none (.tmp 79), none⟩,
  ⟨(some 81), .lits 0 1 1 [.int .i64 0] [(0, (.tmp 80))], none⟩,
  ⟨(some 82), .append 1 1 8 (.tmp 73) (.tmp 81), none⟩,
  ⟨(some 19), .mov (.tmp 82), none⟩])
  (.seq
  (.tail 12 0 [
  ⟨(some 83), .fld 1 (.tmp 4), none⟩,
  ⟨(some 84), .load none (.tmp 83), none⟩,
  ⟨(some 85), .mov (.tmp 13), none⟩,
  ⟨(some 86), .load none (.tmp 20), none⟩,
  ⟨(some 87), .idx 1 (.tmp 85) (.tmp 86), none⟩,
  ⟨(some 88), .load none (.tmp 87), none⟩,
  ⟨(some 89), .mov (.tmp 21), none⟩,
  ⟨(some 90), .idx 1 (.tmp 88) (.tmp 89), none⟩,
  ⟨(some 91), .load none (.tmp 90), none⟩,
  ⟨(some 92), .idx 4 (.tmp 84) (.tmp 91), none⟩,
  ⟨(some 93), .fld 1 (.tmp 92), none⟩,
  ⟨(some 94), .load none (.tmp 93), none⟩,
  ⟨none, .store 1 (.tmp 20) (.tmp 94), none⟩])
  (.seq
  (.reg 0 [
  ⟨(some 95), .mov (.tmp 19), none⟩,
  ⟨(some 96), .fn 48 [(.tmp 4), (.tmp 20)], none⟩,
  ⟨(some 97), .call 46 [(.tmp 95), (.tmp 96)], none⟩,
  ⟨(some 22), .mov (.tmp 97), none⟩])
  (.seq
  (.reg 0 [
  ⟨(some 98), .mov (.tmp 22), none⟩,
  ⟨(some 99), .bin .geq false (.tmp 98) (.const (.int .i64 0)), none⟩])
  (.cond (.tmp 99)
  (.seq
  (.tail 4 0 [
  ⟨(some 100), .load none (.tmp 12), none⟩,
  ⟨(some 101), .mov (.tmp 19), none⟩,
  ⟨(some 102), .mov (.tmp 22), none⟩,
  ⟨(some 103), .slice 1 (.tmp 101) (some (.tmp 102)) none none, none⟩,
  ⟨(some 104), .call 49 [(.tmp 100), (.tmp 103)], none⟩])
  (.exit 3))
  .skip)))))))
  (.seq
  (.reg 0 [
  ⟨(some 105), .load none (.tmp 20), none⟩])
  (.reg 1 [
  ⟨(some 20), .alloc 0 (.int .i64 0), none⟩,
  ⟨none, .store 1 (.tmp 20) (.tmp 105), none⟩])))
def c22l1 : LCode :=
  .seq
  (.seq
  (.reg 0 [
  ⟨(some 61), .mov (.tmp 18), none⟩,
  ⟨(some 62), .bin .gtr false (.tmp 61) (.const (.int .i64 0)), none⟩])
  (.cond (.tmp 62)
  .skip
  (.exit 2)))
  (.block 3
  (.seq
  (.reg 0 [
  ⟨(some 19), .mov (.const (.slice none 0 0)), none⟩])
  (.seq
  (.seq
  (.reg 1 [
  ⟨(some 63), .mov (.tmp 1), none⟩,
  ⟨(some 20), .alloc 0 (.int .i64 0), none⟩,
  ⟨none, .store 1 (.tmp 20) (.tmp 63), none⟩])
  (.block 4
  (.loop c22l2)))
  (.seq
  (.tree 4
  (.take 0 [3, 7, 8, 9, 10, 11] ⟨(some 106), .mov (.tmp 16), none⟩
  (.take 1 [2, 3, 7, 8, 9, 10, 11] ⟨(some 107), .mov (.tmp 19), none⟩
  (.take 4 [9, 10, 11] ⟨(some 110), .mov (.tmp 17), none⟩
  (.take 5 [7, 8, 9, 10, 11] ⟨(some 111), .load none (.tmp 12), none⟩
  (.take 6 [7, 8, 9, 10, 11] ⟨(some 112), .mov (.tmp 19), none⟩
  (.alt 2 ⟨(some 108), .litsf [107] 0 1 1 [.slice none 0 0] [(0, (.tmp 107))], none⟩ true
  (.alt 3 ⟨(some 109), .append 1 1 24 (.tmp 106) (.tmp 108), none⟩ true
  (.alt 7 ⟨(some 113), .call 49 [(.tmp 111), (.tmp 112)], none⟩ false
  (.alt 8 ⟨(some 114), .lits 2 1 1 [.int .i64 0] [(0, (.tmp 113))], none⟩ false
  (.alt 9 ⟨(some 115), .append 3 1 8 (.tmp 110) (.tmp 114), none⟩ false
  (.take 10 [11] ⟨(some 16), .mov (.tmp 109), none⟩
  (.take 11 [] ⟨(some 17), .mov (.tmp 115), none⟩
  .done))
  .none)
  .none)
  .none)
  .none)
  .none)))))))
  (.reg 0 [
  ⟨(some 116), .mov (.tmp 18), none⟩,
  ⟨(some 117), .mov (.tmp 17), none⟩,
  ⟨(some 118), .mov (.tmp 17), none⟩,
  ⟨(some 119), .len (.tmp 118), none⟩,
  ⟨(some 120), .bin .sub true (.tmp 119) (.const (.int .i64 1)), none⟩,
  ⟨(some 121), .idx 1 (.tmp 117) (.tmp 120), none⟩,
  ⟨(some 122), .load none (.tmp 121), none⟩,
  ⟨(some 123), .bin .sub true (.tmp 116) (.tmp 122), none⟩,
  ⟨(some 18), .mov (.tmp 123), none⟩])))))

def c22 : LCode :=
  (.seq
  (.reg 1 [
  ⟨(some 4), .box 0 (.tmp 0), none⟩,
  ⟨(some 8), .mov (.const (.slice none 0 0)), none⟩,
  ⟨(some 9), .mov (.const (.slice none 0 0)), none⟩,
  ⟨(some 10), .mov (.const (.int .i64 0)), none⟩])
  (.seq
  (.seq
  (.reg 0 [
  ⟨(some 23), .load (some 2) (.tmp 4), none⟩,
  ⟨(some 24), .mov (.tmp 1), none⟩,
  ⟨(some 25), .mov (.tmp 2), none⟩,
  ⟨(some 26), .mov (.tmp 3), none⟩,
  ⟨(some 27), .call 17 [(.tmp 23), (.tmp 24), (.tmp 25), (.tmp 26)], none⟩,
  ⟨(some 11), .mov (.tmp 27), none⟩])
  (.seq
  (.reg 0 [
  ⟨(some 28), .mov (.tmp 11), none⟩,
  ⟨(some 29), .bin .neq false (.tmp 28) (.const (.int .i64 0)), none⟩])
  (.cond (.tmp 29)
  (.seq
  (.reg 0 [
  ⟨(some 30), .mov (.tmp 11), none⟩,
  ⟨(some 8), .mov (.const (.slice none 0 0)), none⟩,
  ⟨(some 9), .mov (.const (.slice none 0 0)), none⟩,
  ⟨(some 10), .mov (.tmp 30), none⟩])
  .ret)
  .skip)))
  (.seq
  (.reg 1 [
  ⟨(some 31), .mov (.tmp 3), none⟩,
  ⟨(some 32), .call 45 [(.tmp 31)], none⟩,
  ⟨(some 12), .alloc 0 (.slice none 0 0), none⟩,
  ⟨none, .store 1 (.tmp 12) (.tmp 32), none⟩])
  (.seq
  (.reg 1 [
  ⟨(some 33), .fld 0 (.tmp 4), none⟩,
  ⟨(some 34), .load none (.tmp 33), none⟩,
  ⟨(some 35), .mkv 0 1 24 [.slice none 0 0] (.tmp 34) (.tmp 34), none⟩,
  ⟨(some 13), .mov (.tmp 35), none⟩])
  (.seq
  (.seq
  (.reg 0 [
  ⟨(some 36), .fld 1 (.tmp 4), none⟩,
  ⟨(some 37), .load none (.tmp 36), none⟩,
  ⟨(some 38), .len (.tmp 37), none⟩,
  ⟨(some 39), .mov (.const (.int .i64 0)), none⟩])
  (.block 0
  (.loop c22l0)))
  (.seq
  (.reg 0 [
  ⟨(some 16), .mov (.const (.slice none 0 0)), none⟩])
  (.seq
  (.reg 0 [
  ⟨(some 17), .mov (.const (.slice none 0 0)), none⟩])
  (.seq
  (.reg 0 [
  ⟨(some 57), .load (some 2) (.tmp 4), none⟩,
  ⟨(some 58), .mov (.tmp 1), none⟩,
  ⟨(some 59), .mov (.tmp 3), none⟩,
  ⟨(some 60), .call 15 [(.tmp 57), (.tmp 58), (.tmp 59)], none⟩,
  ⟨(some 18), .mov (.tmp 60), none⟩])
  (.seq
  .skip
  (.seq
  (.block 2
  (.loop c22l1))
  (.seq
  (.reg 0 [
  ⟨(some 124), .mov (.tmp 16), none⟩,
  ⟨(some 125), .mov (.tmp 17), none⟩,
  ⟨(some 8), .mov (.tmp 124), none⟩,
  ⟨(some 9), .mov (.tmp 125), none⟩,
  ⟨(some 10), .mov (.const (.int .i64 0)), none⟩])
  .ret)))))))))))

def c23l0 : LCode :=
  .seq
  (.seq
  (.reg 0 [
  ⟨(some 25), .load (some 2) (.tmp 4), none⟩,
  ⟨(some 26), .mov (.tmp 1), none⟩,
  ⟨(some 27), .mov (.tmp 10), none⟩,
  ⟨(some 28), .call 30 [(.tmp 25), (.tmp 26), (.tmp 27)], none⟩,
  ⟨(some 29), .bin .gtr false (.tmp 28) (.const (.int .i64 0)), none⟩])
  (.cond (.tmp 29)
  .skip
  (.exit 0)))
  (.block 1
  (.seq
  (.reg 0 [
  ⟨(some 30), .load (some 2) (.tmp 4), none⟩,
  ⟨(some 31), .mov (.tmp 1), none⟩,
  ⟨(some 32), .mov (.tmp 2), none⟩,
  ⟨(some 33), .mov (.tmp 10), none⟩,
  ⟨(some 34), .call 50 [(.tmp 30), (.tmp 31), (.tmp 32), (.tmp 33)], none⟩,
  ⟨(some 12), .mov (.tmp 34), none⟩])
  (.seq
  (.seq
  (.reg 0 [
  ⟨(some 35), .mov (.tmp 12), none⟩,
  ⟨(some 36), .len (.tmp 35), none⟩,
  ⟨(some 37), .bin .eql false (.tmp 36) (.const (.int .i64 0)), none⟩])
  (.cond (.tmp 37)
  (.seq
  (.reg 0 [
  ⟨(some 38), .load (some 3) (.tmp 11), none⟩,
  ⟨none, .store 3 (.tmp 8) (.tmp 38), none⟩])
  .ret)
  .skip))
  (.seq
  (.reg 2 [
  ⟨(some 39), .fld 0 (.tmp 11), none⟩,
  ⟨(some 40), .load none (.tmp 39), none⟩,
  ⟨(some 41), .mov (.tmp 12), none⟩,
  ⟨(some 42), .litsf [41] 0 1 1 [.slice none 0 0] [(0, (.tmp 41))], none⟩,
  ⟨(some 43), .append 1 1 24 (.tmp 40) (.tmp 42), none⟩,
  ⟨(some 44), .fld 0 (.tmp 11), none⟩,
  ⟨none, .store 1 (.tmp 44) (.tmp 43), none⟩])
  (.tree 2
  (.take 0 [1, 6, 7, 8] ⟨(some 45), .fld 1 (.tmp 11), none⟩
  (.take 1 [6, 7, 8] ⟨(some 46), .load none (.tmp 45), none⟩
  (.take 2 [4, 5, 6, 7, 8] ⟨(some 47), .mov (.tmp 10), none⟩
  (.take 3 [4, 5, 6, 7, 8] ⟨(some 48), .mov (.tmp 12), none⟩
  (.alt 4 ⟨(some 49), .call 51 [(.tmp 47), (.tmp 48)], none⟩ true
  (.alt 5 ⟨(some 50), .lits 0 1 1 [.int .i64 0] [(0, (.tmp 49))], none⟩ true
  (.alt 6 ⟨(some 51), .append 1 1 8 (.tmp 46) (.tmp 50), none⟩ false
  (.take 7 [8] ⟨(some 52), .fld 1 (.tmp 11), none⟩
  (.alt 8 ⟨none, .store 1 (.tmp 52) (.tmp 51), none⟩ false
  .done
  .none))
  .none)
  .none)
  .none))))))))))

def c23 : LCode :=
  (.seq
  (.reg 2 [
  ⟨(some 4), .box 0 (.tmp 0), none⟩,
  ⟨(some 8), .alloc 1 (.agg #[.slice none 0 0, .slice none 0 0, .int .i64 0]), none⟩])
  (.seq
  (.reg 0 [
  ⟨(some 13), .load (some 2) (.tmp 4), none⟩,
  ⟨(some 14), .mov (.tmp 1), none⟩,
  ⟨(some 15), .mov (.tmp 2), none⟩,
  ⟨(some 16), .mov (.tmp 3), none⟩,
  ⟨(some 17), .call 27 [(.tmp 13), (.tmp 14), (.tmp 15), (.tmp 16)], none⟩,
  ⟨(some 9), .mov (.tmp 17), none⟩])
  (.seq
  (.seq
  (.reg 0 [
  ⟨(some 18), .mov (.tmp 9), none⟩,
  ⟨(some 19), .bin .neq false (.tmp 18) (.const (.int .i64 0)), none⟩])
  (.cond (.tmp 19)
  (.seq
  (.reg 0 [
  ⟨(some 20), .mov (.tmp 9), none⟩,
  ⟨(some 21), .build [.slice none 0 0, .slice none 0 0, .int .i64 0] [(2, 1, (.tmp 20))], none⟩,
  ⟨none, .store 3 (.tmp 8) (.tmp 21), none⟩])
  .ret)
  .skip))
  (.seq
  (.reg 2 [
  ⟨(some 22), .lits 0 1 0 [.int .i64 0] [], none⟩,
  ⟨(some 23), .mov (.tmp 3), none⟩,
  ⟨(some 24), .append 1 1 8 (.tmp 22) (.tmp 23), none⟩,
  ⟨(some 10), .mov (.tmp 24), none⟩])
  (.seq
  (.reg 1 [
  ⟨(some 11), .alloc 0 (.agg #[.slice none 0 0, .slice none 0 0, .int .i64 0]), none⟩])
  (.seq
  (.block 0
  (.loop c23l0))
  (.seq
  (.reg 0 [
  ⟨(some 53), .load (some 3) (.tmp 11), none⟩,
  ⟨none, .store 3 (.tmp 8) (.tmp 53), none⟩])
  .ret)))))))

def c24 : LCode :=
  (.seq
  (.reg 0 [
  ⟨(some 4), .mov (.const (.bool false)), none⟩])
  (.seq
  (.seq
  (.reg 0 [
  ⟨(some 7), .mov (.tmp 0), none⟩,
  ⟨(some 8), .len (.tmp 7), none⟩,
  ⟨(some 9), .mov (.tmp 1), none⟩,
  ⟨(some 10), .len (.tmp 9), none⟩,
  ⟨(some 11), .bin .neq false (.tmp 8) (.tmp 10), none⟩])
  (.cond (.tmp 11)
  (.seq
  (.reg 0 [
  ⟨(some 4), .mov (.const (.bool false)), none⟩])
  .ret)
  .skip))
  (.seq
  (.seq
  (.reg 0 [
  ⟨(some 5), .mov (.const (.int .i64 0)), none⟩])
  (.block 0
  (.loop
  (.seq
  (.seq
  (.reg 0 [
  ⟨(some 12), .mov (.tmp 5), none⟩,
  ⟨(some 13), .mov (.tmp 0), none⟩,
  ⟨(some 14), .len (.tmp 13), none⟩,
  ⟨(some 15), .bin .lss false (.tmp 12) (.tmp 14), none⟩])
  (.cond (.tmp 15)
  .skip
  (.exit 0)))
  (.seq
  (.block 1
  (.seq
  (.tail 8 0 [
  ⟨(some 18), .mov (.tmp 0), none⟩,
  ⟨(some 19), .mov (.tmp 5), none⟩,
  ⟨(some 20), .idx 1 (.tmp 18) (.tmp 19), none⟩,
  ⟨(some 21), .load none (.tmp 20), none⟩,
  ⟨(some 22), .mov (.tmp 1), none⟩,
  ⟨(some 23), .mov (.tmp 5), none⟩,
  ⟨(some 24), .idx 1 (.tmp 22) (.tmp 23), none⟩,
  ⟨(some 25), .load none (.tmp 24), none⟩,
  ⟨(some 26), .call 13 [(.tmp 21), (.tmp 25)], none⟩,
  ⟨(some 6), .mov (.tmp 26), none⟩])
  (.seq
  (.reg 0 [
  ⟨(some 27), .mov (.tmp 6), none⟩,
  ⟨(some 28), .not (.tmp 27), none⟩])
  (.cond (.tmp 28)
  (.seq
  (.reg 0 [
  ⟨(some 4), .mov (.const (.bool false)), none⟩])
  .ret)
  .skip))))
  (.reg 0 [
  ⟨(some 16), .mov (.tmp 5), none⟩,
  ⟨(some 17), .bin .add true (.tmp 16) (.const (.int .i64 1)), none⟩,
  ⟨(some 5), .mov (.tmp 17), none⟩]))))))
  (.seq
  (.reg 0 [
  ⟨(some 4), .mov (.const (.bool true)), none⟩])
  .ret))))

def c25 : LCode :=
  (.seq
  (.reg 1 [
  ⟨(some 1), .box 0 (.tmp 0), none⟩,
  ⟨(some 2), .mov (.const (.bool false)), none⟩])
  (.seq
  (.seq
  (.reg 0 [
  ⟨(some 3), .fld 0 (.tmp 1), none⟩,
  ⟨(some 4), .load none (.tmp 3), none⟩,
  ⟨(some 5), .bin .lss false (.tmp 4) (.const (.int .i64 1)), none⟩,
  ⟨(some 6), .mov (.tmp 5), none⟩,
  ⟨(some 7), .fld 0 (.tmp 1), (some (6, false))⟩,
  ⟨(some 8), .load none (.tmp 7), (some (6, false))⟩,
  ⟨(some 9), .bin .gtr false (.tmp 8) (.const (.int .i64 256)), (some (6, false))⟩,
  ⟨(some 10), .pick (.tmp 6) (.const (.bool true)) (.tmp 9), none⟩,
  ⟨(some 11), .mov (.tmp 10), none⟩,
  ⟨(some 12), .fld 1 (.tmp 1), (some (11, false))⟩,
  ⟨(some 13), .load none (.tmp 12), (some (11, false))⟩,
  ⟨(some 14), .len (.tmp 13), (some (11, false))⟩,
  ⟨(some 15), .bin .gtr false (.tmp 14) (.const (.int .i64 2048)), (some (11, false))⟩,
  ⟨(some 16), .pick (.tmp 11) (.const (.bool true)) (.tmp 15), none⟩])
  (.cond (.tmp 16)
  (.seq
  (.reg 0 [
  ⟨(some 2), .mov (.const (.bool false)), none⟩])
  .ret)
  .skip))
  (.seq
  (.reg 0 [
  ⟨(some 17), .fld 1 (.tmp 1), none⟩,
  ⟨(some 18), .load none (.tmp 17), none⟩,
  ⟨(some 19), .fn 53 [(.tmp 1)], none⟩,
  ⟨(some 20), .call 52 [(.tmp 18), (.tmp 19)], none⟩,
  ⟨(some 21), .not (.tmp 20), none⟩,
  ⟨(some 2), .mov (.tmp 21), none⟩])
  .ret)))

def c26 : LCode :=
  (.seq
  (.reg 1 [
  ⟨(some 1), .box 0 (.tmp 0), none⟩,
  ⟨(some 2), .mov (.const (.bool false)), none⟩])
  (.seq
  (.seq
  (.reg 0 [
  ⟨(some 5), .fld 0 (.tmp 1), none⟩,
  ⟨(some 6), .load none (.tmp 5), none⟩,
  ⟨(some 7), .bin .lss false (.tmp 6) (.const (.int .i64 1)), none⟩,
  ⟨(some 8), .mov (.tmp 7), none⟩,
  ⟨(some 9), .fld 0 (.tmp 1), (some (8, false))⟩,
  ⟨(some 10), .load none (.tmp 9), (some (8, false))⟩,
  ⟨(some 11), .bin .gtr false (.tmp 10) (.const (.int .i64 256)), (some (8, false))⟩,
  ⟨(some 12), .pick (.tmp 8) (.const (.bool true)) (.tmp 11), none⟩,
  ⟨(some 13), .mov (.tmp 12), none⟩,
  ⟨(some 14), .fld 1 (.tmp 1), (some (13, false))⟩,
  ⟨(some 15), .load none (.tmp 14), (some (13, false))⟩,
  ⟨(some 16), .len (.tmp 15), (some (13, false))⟩,
  ⟨(some 17), .bin .gtr false (.tmp 16) (.const (.int .i64 2048)), (some (13, false))⟩,
  ⟨(some 18), .pick (.tmp 13) (.const (.bool true)) (.tmp 17), none⟩])
  (.cond (.tmp 18)
  (.seq
  (.reg 0 [
  ⟨(some 2), .mov (.const (.bool false)), none⟩])
  .ret)
  .skip))
  (.seq
  (.seq
  (.reg 0 [
  ⟨(some 3), .mov (.const (.int .i64 0)), none⟩])
  (.block 0
  (.loop
  (.seq
  (.seq
  (.reg 0 [
  ⟨(some 19), .mov (.tmp 3), none⟩,
  ⟨(some 20), .fld 1 (.tmp 1), none⟩,
  ⟨(some 21), .load none (.tmp 20), none⟩,
  ⟨(some 22), .len (.tmp 21), none⟩,
  ⟨(some 23), .bin .lss false (.tmp 19) (.tmp 22), none⟩])
  (.cond (.tmp 23)
  .skip
  (.exit 0)))
  (.seq
  (.block 1
  (.seq
  (.reg 1 [
  ⟨(some 26), .fld 1 (.tmp 1), none⟩,
  ⟨(some 27), .load none (.tmp 26), none⟩,
  ⟨(some 28), .mov (.tmp 3), none⟩,
  ⟨(some 29), .idx 4 (.tmp 27) (.tmp 28), none⟩,
  ⟨(some 30), .load (some 4) (.tmp 29), none⟩,
  ⟨(some 4), .alloc 0 (.agg #[.int .i64 0, .int .i64 0, .int .i64 0, .int .i64 0]), none⟩,
  ⟨none, .store 4 (.tmp 4) (.tmp 30), none⟩])
  (.seq
  (.reg 0 [
  ⟨(some 31), .fld 0 (.tmp 4), none⟩,
  ⟨(some 32), .load none (.tmp 31), none⟩,
  ⟨(some 33), .bin .lss false (.tmp 32) (.const (.int .i64 0)), none⟩,
  ⟨(some 34), .mov (.tmp 33), none⟩,
  ⟨(some 35), .fld 0 (.tmp 4), (some (34, false))⟩,
  ⟨(some 36), .load none (.tmp 35), (some (34, false))⟩,
  ⟨(some 37), .fld 0 (.tmp 1), (some (34, false))⟩,
  ⟨(some 38), .load none (.tmp 37), (some (34, false))⟩,
  ⟨(some 39), .bin .geq false (.tmp 36) (.tmp 38), (some (34, false))⟩,
  ⟨(some 40), .pick (.tmp 34) (.const (.bool true)) (.tmp 39), none⟩,
  ⟨(some 41), .mov (.tmp 40), none⟩,
  ⟨(some 42), .fld 1 (.tmp 4), (some (41, false))⟩,
  ⟨(some 43), .load none (.tmp 42), (some (41, false))⟩,
  ⟨(some 44), .bin .lss false (.tmp 43) (.const (.int .i64 0)), (some (41, false))⟩,
  ⟨(some 45), .pick (.tmp 41) (.const (.bool true)) (.tmp 44), none⟩,
  ⟨(some 46), .mov (.tmp 45), none⟩,
  ⟨(some 47), .fld 1 (.tmp 4), (some (46, false))⟩,
  ⟨(some 48), .load none (.tmp 47), (some (46, false))⟩,
  ⟨(some 49), .fld 0 (.tmp 1), (some (46, false))⟩,
  ⟨(some 50), .load none (.tmp 49), (some (46, false))⟩,
  ⟨(some 51), .bin .geq false (.tmp 48) (.tmp 50), (some (46, false))⟩,
  ⟨(some 52), .pick (.tmp 46) (.const (.bool true)) (.tmp 51), none⟩,
  ⟨(some 53), .mov (.tmp 52), none⟩,
  ⟨(some 54), .fld 0 (.tmp 4), (some (53, false))⟩,
  ⟨(some 55), .load none (.tmp 54), (some (53, false))⟩,
  ⟨(some 56), .fld 1 (.tmp 4), (some (53, false))⟩,
  ⟨(some 57), .load none (.tmp 56), (some (53, false))⟩,
  ⟨(some 58), .bin .eql false (.tmp 55) (.tmp 57), (some (53, false))⟩,
  ⟨(some 59), .pick (.tmp 53) (.const (.bool true)) (.tmp 58), none⟩,
  ⟨(some 60), .mov (.tmp 59), none⟩,
  ⟨(some 61), .fld 2 (.tmp 4), (some (60, false))⟩,
  ⟨(some 62), .load none (.tmp 61), (some (60, false))⟩,
  ⟨(some 63), .bin .lss false (.tmp 62) (.const (.int .i64 0)), (some (60, false))⟩,
  ⟨(some 64), .pick (.tmp 60) (.const (.bool true)) (.tmp 63), none⟩,
  ⟨(some 65), .mov (.tmp 64), none⟩,
  ⟨(some 66), .fld 2 (.tmp 4), (some (65, false))⟩,
  ⟨(some 67), .load none (.tmp 66), (some (65, false))⟩,
  ⟨(some 68), .bin .gtr false (.tmp 67) (.const (.int .i64 1073741824)), (some (65, false))⟩,
  ⟨(some 69), .pick (.tmp 65) (.const (.bool true)) (.tmp 68), none⟩])
  (.cond (.tmp 69)
  (.seq
  (.reg 0 [
  ⟨(some 2), .mov (.const (.bool false)), none⟩])
  .ret)
  .skip))))
  (.reg 0 [
  ⟨(some 24), .mov (.tmp 3), none⟩,
  ⟨(some 25), .bin .add true (.tmp 24) (.const (.int .i64 1)), none⟩,
  ⟨(some 3), .mov (.tmp 25), none⟩]))))))
  (.seq
  (.reg 0 [
  ⟨(some 2), .mov (.const (.bool true)), none⟩])
  .ret))))

def c27 : LCode :=
  (.seq
  (.reg 1 [
  ⟨(some 4), .box 0 (.tmp 0), none⟩,
  ⟨(some 8), .mov (.const (.int .i64 0)), none⟩])
  (.seq
  (.seq
  (.reg 0 [
  ⟨(some 11), .load (some 2) (.tmp 4), none⟩,
  ⟨(some 12), .mov (.tmp 1), none⟩,
  ⟨(some 13), .mov (.tmp 2), none⟩,
  ⟨(some 14), .call 37 [(.tmp 11), (.tmp 12), (.tmp 13)], none⟩,
  ⟨(some 15), .not (.tmp 14), none⟩,
  ⟨(some 16), .mov (.tmp 15), none⟩,
  ⟨(some 17), .mov (.tmp 3), (some (16, false))⟩,
  ⟨(some 18), .len (.tmp 17), (some (16, false))⟩,
  ⟨(some 19), .fld 1 (.tmp 4), (some (16, false))⟩,
  ⟨(some 20), .load none (.tmp 19), (some (16, false))⟩,
  ⟨(some 21), .len (.tmp 20), (some (16, false))⟩,
  ⟨(some 22), .bin .neq false (.tmp 18) (.tmp 21), (some (16, false))⟩,
  ⟨(some 23), .pick (.tmp 16) (.const (.bool true)) (.tmp 22), none⟩])
  (.cond (.tmp 23)
  (.seq
  (.reg 0 [
  ⟨(some 8), .mov (.const (.int .i64 1)), none⟩])
  .ret)
  .skip))
  (.seq
  (.reg 0 [
  ⟨(some 24), .load (some 2) (.tmp 4), none⟩,
  ⟨(some 25), .mov (.tmp 3), none⟩,
  ⟨(some 26), .call 21 [(.tmp 24), (.tmp 25)], none⟩,
  ⟨(some 9), .mov (.tmp 26), none⟩])
  (.seq
  (.seq
  (.reg 0 [
  ⟨(some 27), .mov (.tmp 9), none⟩,
  ⟨(some 28), .not (.tmp 27), none⟩])
  (.cond (.tmp 28)
  (.seq
  (.reg 0 [
  ⟨(some 8), .mov (.const (.int .i64 101)), none⟩])
  .ret)
  .skip))
  (.seq
  (.seq
  (.reg 0 [
  ⟨(some 10), .mov (.const (.int .i64 0)), none⟩])
  (.block 0
  (.loop
  (.seq
  (.seq
  (.reg 0 [
  ⟨(some 29), .mov (.tmp 10), none⟩,
  ⟨(some 30), .fld 0 (.tmp 4), none⟩,
  ⟨(some 31), .load none (.tmp 30), none⟩,
  ⟨(some 32), .bin .lss false (.tmp 29) (.tmp 31), none⟩])
  (.cond (.tmp 32)
  .skip
  (.exit 0)))
  (.seq
  (.block 1
  (.seq
  (.reg 0 [
  ⟨(some 35), .mov (.tmp 10), none⟩,
  ⟨(some 36), .mov (.tmp 1), none⟩,
  ⟨(some 37), .bin .neq false (.tmp 35) (.tmp 36), none⟩,
  ⟨(some 38), .mov (.tmp 37), none⟩,
  ⟨(some 39), .mov (.tmp 10), (some (38, true))⟩,
  ⟨(some 40), .mov (.tmp 2), (some (38, true))⟩,
  ⟨(some 41), .bin .neq false (.tmp 39) (.tmp 40), (some (38, true))⟩,
  ⟨(some 42), .pick (.tmp 38) (.tmp 41) (.const (.bool false)), none⟩,
  ⟨(some 43), .mov (.tmp 42), none⟩,
  ⟨(some 44), .load (some 2) (.tmp 4), (some (43, true))⟩,
  ⟨(some 45), .mov (.tmp 10), (some (43, true))⟩,
  ⟨(some 46), .mov (.tmp 3), (some (43, true))⟩,
  ⟨(some 47), .call 30 [(.tmp 44), (.tmp 45), (.tmp 46)], (some (43, true))⟩,
  ⟨(some 48), .bin .neq false (.tmp 47) (.const (.int .i64 0)), (some (43, true))⟩,
  ⟨(some 49), .pick (.tmp 43) (.tmp 48) (.const (.bool false)), none⟩])
  (.cond (.tmp 49)
  (.seq
  (.reg 0 [
  ⟨(some 8), .mov (.const (.int .i64 100)), none⟩])
  .ret)
  .skip)))
  (.reg 0 [
  ⟨(some 33), .mov (.tmp 10), none⟩,
  ⟨(some 34), .bin .add true (.tmp 33) (.const (.int .i64 1)), none⟩,
  ⟨(some 10), .mov (.tmp 34), none⟩]))))))
  (.seq
  (.seq
  (.reg 0 [
  ⟨(some 50), .load (some 2) (.tmp 4), none⟩,
  ⟨(some 51), .mov (.tmp 1), none⟩,
  ⟨(some 52), .mov (.tmp 3), none⟩,
  ⟨(some 53), .call 30 [(.tmp 50), (.tmp 51), (.tmp 52)], none⟩,
  ⟨(some 54), .bin .lss false (.tmp 53) (.const (.int .i64 0)), none⟩])
  (.cond (.tmp 54)
  (.seq
  (.reg 0 [
  ⟨(some 8), .mov (.const (.int .i64 100)), none⟩])
  .ret)
  .skip))
  (.seq
  (.reg 0 [
  ⟨(some 8), .mov (.const (.int .i64 0)), none⟩])
  .ret)))))))

def c28 : LCode :=
  (.seq
  (.reg 1 [
  ⟨(some 5), .box 0 (.tmp 0), none⟩,
  ⟨(some 10), .mov (.const (.bool false)), none⟩])
  (.seq
  (.reg 0 [
  ⟨(some 12), .load (some 2) (.tmp 5), none⟩,
  ⟨(some 13), .mov (.tmp 1), none⟩,
  ⟨(some 14), .mov (.tmp 2), none⟩,
  ⟨(some 15), .mov (.tmp 3), none⟩,
  ⟨(some 16), .call 27 [(.tmp 12), (.tmp 13), (.tmp 14), (.tmp 15)], none⟩,
  ⟨(some 11), .mov (.tmp 16), none⟩])
  (.seq
  (.seq
  (.reg 0 [
  ⟨(some 17), .mov (.tmp 11), none⟩,
  ⟨(some 18), .bin .neq false (.tmp 17) (.const (.int .i64 0)), none⟩,
  ⟨(some 19), .mov (.tmp 18), none⟩,
  ⟨(some 20), .mov (.tmp 4), (some (19, false))⟩,
  ⟨(some 21), .len (.tmp 20), (some (19, false))⟩,
  ⟨(some 22), .fld 0 (.tmp 5), (some (19, false))⟩,
  ⟨(some 23), .load none (.tmp 22), (some (19, false))⟩,
  ⟨(some 24), .bin .neq false (.tmp 21) (.tmp 23), (some (19, false))⟩,
  ⟨(some 25), .pick (.tmp 19) (.const (.bool true)) (.tmp 24), none⟩,
  ⟨(some 26), .mov (.tmp 25), none⟩,
  ⟨(some 27), .mov (.tmp 4), (some (26, false))⟩,
  ⟨(some 28), .mov (.tmp 1), (some (26, false))⟩,
  ⟨(some 29), .idx 1 (.tmp 27) (.tmp 28), (some (26, false))⟩,
  ⟨(some 30), .load none (.tmp 29), (some (26, false))⟩,
  ⟨(some 31), .not (.tmp 30), (some (26, false))⟩,
  ⟨(some 32), .pick (.tmp 26) (.const (.bool true)) (.tmp 31), none⟩,
  ⟨(some 33), .mov (.tmp 32), none⟩,
  ⟨(some 34), .mov (.tmp 4), (some (33, false))⟩,
  ⟨(some 35), .mov (.tmp 2), (some (33, false))⟩,
  ⟨(some 36), .idx 1 (.tmp 34) (.tmp 35), (some (33, false))⟩,
  ⟨(some 37), .load none (.tmp 36), (some (33, false))⟩,
  ⟨(some 38), .pick (.tmp 33) (.const (.bool true)) (.tmp 37), none⟩])
  (.cond (.tmp 38)
  (.seq
  (.reg 0 [
  ⟨(some 10), .mov (.const (.bool false)), none⟩])
  .ret)
  .skip))
  (.seq
  (.tree 0
  (.take 0 [2, 6, 7, 8] ⟨(some 39), .load (some 2) (.tmp 5), none⟩
  (.take 1 [2, 6, 7, 8] ⟨(some 40), .mov (.tmp 4), none⟩
  (.take 3 [6, 7, 8] ⟨(some 42), .load (some 2) (.tmp 5), none⟩
  (.take 4 [6, 7, 8] ⟨(some 43), .mov (.tmp 1), none⟩
  (.take 5 [6, 7, 8] ⟨(some 44), .mov (.tmp 3), none⟩
  (.alt 2 ⟨(some 41), .call 29 [(.tmp 39), (.tmp 40)], none⟩ true
  (.alt 6 ⟨(some 45), .call 30 [(.tmp 42), (.tmp 43), (.tmp 44)], none⟩ false
  (.take 7 [8] ⟨(some 46), .bin .eql false (.tmp 41) (.tmp 45), none⟩
  (.take 8 [] ⟨(some 10), .mov (.tmp 46), none⟩
  .done))
  .none)
  .none)))))))
  .ret))))

def c29 : LCode :=
  (.seq
  (.reg 1 [
  ⟨(some 2), .box 0 (.tmp 0), none⟩,
  ⟨(some 4), .mov (.const (.int .i64 0)), none⟩])
  (.seq
  (.reg 0 [
  ⟨(some 5), .mov (.const (.int .i64 0)), none⟩])
  (.seq
  (.seq
  (.reg 0 [
  ⟨(some 6), .mov (.const (.int .i64 0)), none⟩])
  (.block 0
  (.loop
  (.seq
  (.seq
  (.reg 0 [
  ⟨(some 7), .mov (.tmp 6), none⟩,
  ⟨(some 8), .fld 1 (.tmp 2), none⟩,
  ⟨(some 9), .load none (.tmp 8), none⟩,
  ⟨(some 10), .len (.tmp 9), none⟩,
  ⟨(some 11), .bin .lss false (.tmp 7) (.tmp 10), none⟩])
  (.cond (.tmp 11)
  .skip
  (.exit 0)))
  (.seq
  (.block 1
  (.seq
  (.reg 0 [
  ⟨(some 14), .mov (.tmp 1), none⟩,
  ⟨(some 15), .fld 1 (.tmp 2), none⟩,
  ⟨(some 16), .load none (.tmp 15), none⟩,
  ⟨(some 17), .mov (.tmp 6), none⟩,
  ⟨(some 18), .idx 4 (.tmp 16) (.tmp 17), none⟩,
  ⟨(some 19), .fld 0 (.tmp 18), none⟩,
  ⟨(some 20), .load none (.tmp 19), none⟩,
  ⟨(some 21), .idx 1 (.tmp 14) (.tmp 20), none⟩,
  ⟨(some 22), .load none (.tmp 21), none⟩,
  ⟨(some 23), .mov (.tmp 22), none⟩,
  ⟨(some 24), .mov (.tmp 1), (some (23, true))⟩,
  ⟨(some 25), .fld 1 (.tmp 2), (some (23, true))⟩,
  ⟨(some 26), .load none (.tmp 25), (some (23, true))⟩,
  ⟨(some 27), .mov (.tmp 6), (some (23, true))⟩,
  ⟨(some 28), .idx 4 (.tmp 26) (.tmp 27), (some (23, true))⟩,
  ⟨(some 29), .fld 1 (.tmp 28), (some (23, true))⟩,
  ⟨(some 30), .load none (.tmp 29), (some (23, true))⟩,
  ⟨(some 31), .idx 1 (.tmp 24) (.tmp 30), (some (23, true))⟩,
  ⟨(some 32), .load none (.tmp 31), (some (23, true))⟩,
  ⟨(some 33), .not (.tmp 32), (some (23, true))⟩,
  ⟨(some 34), .pick (.tmp 23) (.tmp 33) (.const (.bool false)), none⟩])
  (.cond (.tmp 34)
  (.reg 0 [
  ⟨(some 35), .mov (.tmp 5), none⟩,
  ⟨(some 36), .fld 1 (.tmp 2), none⟩,
  ⟨(some 37), .load none (.tmp 36), none⟩,
  ⟨(some 38), .mov (.tmp 6), none⟩,
  ⟨(some 39), .idx 4 (.tmp 37) (.tmp 38), none⟩,
  ⟨(some 40), .fld 2 (.tmp 39), none⟩,
  ⟨(some 41), .load none (.tmp 40), none⟩,
  ⟨(some 42), .bin .add true (.tmp 35) (.tmp 41), none⟩,
  ⟨(some 5), .mov (.tmp 42), none⟩])
  .skip)))
  (.reg 0 [
  ⟨(some 12), .mov (.tmp 6), none⟩,
  ⟨(some 13), .bin .add true (.tmp 12) (.const (.int .i64 1)), none⟩,
  ⟨(some 6), .mov (.tmp 13), none⟩]))))))
  (.seq
  (.reg 0 [
  ⟨(some 43), .mov (.tmp 5), none⟩,
  ⟨(some 4), .mov (.tmp 43), none⟩])
  .ret))))

def c30 : LCode :=
  (.seq
  (.reg 1 [
  ⟨(some 3), .box 0 (.tmp 0), none⟩,
  ⟨(some 6), .mov (.const (.int .i64 0)), none⟩])
  (.seq
  (.reg 0 [
  ⟨(some 7), .mov (.const (.int .i64 0)), none⟩])
  (.seq
  (.seq
  (.reg 0 [
  ⟨(some 8), .mov (.const (.int .i64 0)), none⟩])
  (.block 0
  (.loop
  (.seq
  (.seq
  (.reg 0 [
  ⟨(some 9), .mov (.tmp 8), none⟩,
  ⟨(some 10), .fld 1 (.tmp 3), none⟩,
  ⟨(some 11), .load none (.tmp 10), none⟩,
  ⟨(some 12), .len (.tmp 11), none⟩,
  ⟨(some 13), .bin .lss false (.tmp 9) (.tmp 12), none⟩])
  (.cond (.tmp 13)
  .skip
  (.exit 0)))
  (.seq
  (.block 1
  (.seq
  (.seq
  (.reg 0 [
  ⟨(some 16), .fld 1 (.tmp 3), none⟩,
  ⟨(some 17), .load none (.tmp 16), none⟩,
  ⟨(some 18), .mov (.tmp 8), none⟩,
  ⟨(some 19), .idx 4 (.tmp 17) (.tmp 18), none⟩,
  ⟨(some 20), .fld 0 (.tmp 19), none⟩,
  ⟨(some 21), .load none (.tmp 20), none⟩,
  ⟨(some 22), .mov (.tmp 1), none⟩,
  ⟨(some 23), .bin .eql false (.tmp 21) (.tmp 22), none⟩])
  (.cond (.tmp 23)
  (.reg 0 [
  ⟨(some 24), .mov (.tmp 7), none⟩,
  ⟨(some 25), .mov (.tmp 2), none⟩,
  ⟨(some 26), .mov (.tmp 8), none⟩,
  ⟨(some 27), .idx 1 (.tmp 25) (.tmp 26), none⟩,
  ⟨(some 28), .load none (.tmp 27), none⟩,
  ⟨(some 29), .bin .add true (.tmp 24) (.tmp 28), none⟩,
  ⟨(some 7), .mov (.tmp 29), none⟩])
  .skip))
  (.seq
  (.reg 0 [
  ⟨(some 30), .fld 1 (.tmp 3), none⟩,
  ⟨(some 31), .load none (.tmp 30), none⟩,
  ⟨(some 32), .mov (.tmp 8), none⟩,
  ⟨(some 33), .idx 4 (.tmp 31) (.tmp 32), none⟩,
  ⟨(some 34), .fld 1 (.tmp 33), none⟩,
  ⟨(some 35), .load none (.tmp 34), none⟩,
  ⟨(some 36), .mov (.tmp 1), none⟩,
  ⟨(some 37), .bin .eql false (.tmp 35) (.tmp 36), none⟩])
  (.cond (.tmp 37)
  (.reg 0 [
  ⟨(some 38), .mov (.tmp 7), none⟩,
  ⟨(some 39), .mov (.tmp 2), none⟩,
  ⟨(some 40), .mov (.tmp 8), none⟩,
  ⟨(some 41), .idx 1 (.tmp 39) (.tmp 40), none⟩,
  ⟨(some 42), .load none (.tmp 41), none⟩,
  ⟨(some 43), .bin .sub true (.tmp 38) (.tmp 42), none⟩,
  ⟨(some 7), .mov (.tmp 43), none⟩])
  .skip))))
  (.reg 0 [
  ⟨(some 14), .mov (.tmp 8), none⟩,
  ⟨(some 15), .bin .add true (.tmp 14) (.const (.int .i64 1)), none⟩,
  ⟨(some 8), .mov (.tmp 15), none⟩]))))))
  (.seq
  (.reg 0 [
  ⟨(some 44), .mov (.tmp 7), none⟩,
  ⟨(some 6), .mov (.tmp 44), none⟩])
  .ret))))

def c31 : LCode :=
  (.seq
  (.reg 2 [
  ⟨(some 2), .box 0 (.tmp 0), none⟩,
  ⟨(some 3), .box 1 (.tmp 1), none⟩,
  ⟨(some 4), .mov (.const (.bool false)), none⟩])
  (.seq
  (.seq
  (.reg 0 [
  ⟨(some 6), .fld 0 (.tmp 2), none⟩,
  ⟨(some 7), .load none (.tmp 6), none⟩,
  ⟨(some 8), .fld 0 (.tmp 3), none⟩,
  ⟨(some 9), .load none (.tmp 8), none⟩,
  ⟨(some 10), .bin .neq false (.tmp 7) (.tmp 9), none⟩,
  ⟨(some 11), .mov (.tmp 10), none⟩,
  ⟨(some 12), .fld 1 (.tmp 2), (some (11, false))⟩,
  ⟨(some 13), .load none (.tmp 12), (some (11, false))⟩,
  ⟨(some 14), .len (.tmp 13), (some (11, false))⟩,
  ⟨(some 15), .fld 1 (.tmp 3), (some (11, false))⟩,
  ⟨(some 16), .load none (.tmp 15), (some (11, false))⟩,
  ⟨(some 17), .len (.tmp 16), (some (11, false))⟩,
  ⟨(some 18), .bin .neq false (.tmp 14) (.tmp 17), (some (11, false))⟩,
  ⟨(some 19), .pick (.tmp 11) (.const (.bool true)) (.tmp 18), none⟩])
  (.cond (.tmp 19)
  (.seq
  (.reg 0 [
  ⟨(some 4), .mov (.const (.bool false)), none⟩])
  .ret)
  .skip))
  (.seq
  (.seq
  (.reg 0 [
  ⟨(some 5), .mov (.const (.int .i64 0)), none⟩])
  (.block 0
  (.loop
  (.seq
  (.seq
  (.reg 0 [
  ⟨(some 20), .mov (.tmp 5), none⟩,
  ⟨(some 21), .fld 1 (.tmp 2), none⟩,
  ⟨(some 22), .load none (.tmp 21), none⟩,
  ⟨(some 23), .len (.tmp 22), none⟩,
  ⟨(some 24), .bin .lss false (.tmp 20) (.tmp 23), none⟩])
  (.cond (.tmp 24)
  .skip
  (.exit 0)))
  (.seq
  (.block 1
  (.seq
  (.qui 0 [
  ⟨(some 27), .fld 1 (.tmp 2), none⟩,
  ⟨(some 28), .load none (.tmp 27), none⟩,
  ⟨(some 29), .mov (.tmp 5), none⟩,
  ⟨(some 30), .idx 4 (.tmp 28) (.tmp 29), none⟩,
  ⟨(some 31), .load (some 4) (.tmp 30), none⟩,
  ⟨(some 32), .fld 1 (.tmp 3), none⟩,
  ⟨(some 33), .load none (.tmp 32), none⟩,
  ⟨(some 34), .mov (.tmp 5), none⟩,
  ⟨(some 35), .idx 4 (.tmp 33) (.tmp 34), none⟩,
  ⟨(some 36), .load (some 4) (.tmp 35), none⟩,
  ⟨(some 37), .eqf true [(0, (.int .i64)), (1, (.int .i64)), (2, (.int .i64)), (3, (.int .i64))] (.tmp 31) (.tmp 36), none⟩])
  (.cond (.tmp 37)
  (.seq
  (.reg 0 [
  ⟨(some 4), .mov (.const (.bool false)), none⟩])
  .ret)
  .skip)))
  (.reg 0 [
  ⟨(some 25), .mov (.tmp 5), none⟩,
  ⟨(some 26), .bin .add true (.tmp 25) (.const (.int .i64 1)), none⟩,
  ⟨(some 5), .mov (.tmp 26), none⟩]))))))
  (.seq
  (.reg 0 [
  ⟨(some 4), .mov (.const (.bool true)), none⟩])
  .ret))))

def c32 : LCode :=
  (.seq
  (.reg 2 [
  ⟨(some 2), .box 0 (.tmp 0), none⟩,
  ⟨(some 4), .alloc 1 (.agg #[.int .i64 0, .slice none 0 0]), none⟩])
  (.seq
  (.reg 1 [
  ⟨(some 8), .fld 0 (.tmp 2), none⟩,
  ⟨(some 9), .load none (.tmp 8), none⟩,
  ⟨(some 10), .build [.int .i64 0, .slice none 0 0] [(0, 1, (.tmp 9))], none⟩,
  ⟨(some 5), .alloc 0 (.agg #[.int .i64 0, .slice none 0 0]), none⟩,
  ⟨none, .store 2 (.tmp 5) (.tmp 10), none⟩])
  (.seq
  (.seq
  (.reg 0 [
  ⟨(some 11), .fld 1 (.tmp 2), none⟩,
  ⟨(some 12), .load none (.tmp 11), none⟩,
  ⟨(some 13), .len (.tmp 12), none⟩,
  ⟨(some 14), .mov (.const (.int .i64 0)), none⟩])
  (.block 0
  (.loop
  (.seq
  (.reg 0 [
  ⟨(some 15), .bin .lss false (.tmp 14) (.tmp 13), none⟩])
  (.seq
  (.cond (.tmp 15)
  .skip
  (.exit 0))
  (.seq
  (.block 1
  (.seq
  (.reg 1 [
  ⟨(some 16), .mov (.tmp 14), none⟩,
  ⟨(some 17), .idx 4 (.tmp 12) (.tmp 14), none⟩,
  ⟨(some 18), .load (some 4) (.tmp 17), none⟩,
  ⟨(some 7), .alloc 0 (.agg #[.int .i64 0, .int .i64 0, .int .i64 0, .int .i64 0]), none⟩,
  ⟨(some 6), .mov (.tmp 16), none⟩,
  ⟨none, .store 4 (.tmp 7) (.tmp 18), none⟩])
  (.tree 2
  (.take 0 [1, 29, 30, 31] ⟨(some 19), .fld 1 (.tmp 5), none⟩
  (.take 1 [29, 30, 31] ⟨(some 20), .load none (.tmp 19), none⟩
  (.take 2 [3, 15, 28, 29, 30, 31] ⟨(some 21), .fld 0 (.tmp 7), none⟩
  (.take 3 [15, 28, 29, 30, 31] ⟨(some 22), .load none (.tmp 21), none⟩
  (.take 4 [5, 15, 28, 29, 30, 31] ⟨(some 23), .fld 1 (.tmp 7), none⟩
  (.take 5 [15, 28, 29, 30, 31] ⟨(some 24), .load none (.tmp 23), none⟩
  (.take 6 [7, 12, 15, 28, 29, 30, 31] ⟨(some 25), .fld 2 (.tmp 7), none⟩
  (.take 7 [12, 15, 28, 29, 30, 31] ⟨(some 26), .load none (.tmp 25), none⟩
  (.take 8 [10, 11, 12, 15, 28, 29, 30, 31] ⟨(some 27), .mov (.tmp 1), none⟩
  (.take 9 [10, 11, 12, 15, 28, 29, 30, 31] ⟨(some 28), .mov (.tmp 6), none⟩
  (.take 10 [11, 12, 15, 28, 29, 30, 31] ⟨(some 29), .idx 1 (.tmp 27) (.tmp 28), none⟩
  (.take 11 [12, 15, 28, 29, 30, 31] ⟨(some 30), .load none (.tmp 29), none⟩
  (.take 12 [15, 28, 29, 30, 31] ⟨(some 31), .bin .sub true (.tmp 26) (.tmp 30), none⟩
  (.take 13 [14, 15, 28, 29, 30, 31] ⟨(some 32), .fld 3 (.tmp 7), none⟩
  (.take 14 [15, 28, 29, 30, 31] ⟨(some 33), .load none (.tmp 32), none⟩
  (.take 15 [28, 29, 30, 31] ⟨(some 34), .build [.int .i64 0, .int .i64 0, .int .i64 0, .int .i64 0] [(0, 1, (.tmp 22)), (1, 1, (.tmp 24)), (2, 1, (.tmp 31)), (3, 1, (.tmp 33))], none⟩
  (.take 16 [17, 27, 28, 29, 30, 31] ⟨(some 35), .fld 1 (.tmp 7), none⟩
  (.take 17 [27, 28, 29, 30, 31] ⟨(some 36), .load none (.tmp 35), none⟩
  (.take 18 [19, 27, 28, 29, 30, 31] ⟨(some 37), .fld 0 (.tmp 7), none⟩
  (.take 19 [27, 28, 29, 30, 31] ⟨(some 38), .load none (.tmp 37), none⟩
  (.take 20 [22, 23, 27, 28, 29, 30, 31] ⟨(some 39), .mov (.tmp 1), none⟩
  (.take 21 [22, 23, 27, 28, 29, 30, 31] ⟨(some 40), .mov (.tmp 6), none⟩
  (.take 22 [23, 27, 28, 29, 30, 31] ⟨(some 41), .idx 1 (.tmp 39) (.tmp 40), none⟩
  (.take 23 [27, 28, 29, 30, 31] ⟨(some 42), .load none (.tmp 41), none⟩
  (.take 24 [25, 26, 27, 28, 29, 30, 31] ⟨(some 43), .fld 3 (.tmp 7), none⟩
  (.take 25 [26, 27, 28, 29, 30, 31] ⟨(some 44), .load none (.tmp 43), none⟩
  (.take 26 [27, 28, 29, 30, 31] ⟨(some 45), .neg (.tmp 44), none⟩
  (.take 27 [28, 29, 30, 31] ⟨(some 46), .build [.int .i64 0, .int .i64 0, .int .i64 0, .int .i64 0] [(0, 1, (.tmp 36)), (1, 1, (.tmp 38)), (2, 1, (.tmp 42)), (3, 1, (.tmp 45))], none⟩
  (.alt 28 ⟨(some 47), .lits 0 4 2 [.int .i64 0, .int .i64 0, .int .i64 0, .int .i64 0] [(0, (.tmp 34)), (1, (.tmp 46))], none⟩ true
  (.alt 29 ⟨(some 48), .append 1 4 32 (.tmp 20) (.tmp 47), none⟩ false
  (.take 30 [31] ⟨(some 49), .fld 1 (.tmp 5), none⟩
  (.alt 31 ⟨none, .store 1 (.tmp 49) (.tmp 48), none⟩ false
  .done
  .none))
  .none)
  .none))))))))))))))))))))))))))))))))
  (.reg 0 [
  ⟨(some 50), .bin .add true (.tmp 14) (.const (.int .i64 1)), none⟩,
  ⟨(some 14), .mov (.tmp 50), none⟩])))))))
  (.seq
  (.reg 0 [
  ⟨(some 51), .load (some 2) (.tmp 5), none⟩,
  ⟨none, .store 2 (.tmp 4) (.tmp 51), none⟩])
  .ret))))

def c33 : LCode :=
  (.seq
  (.reg 2 [
  ⟨(some 2), .box 0 (.tmp 0), none⟩,
  ⟨(some 4), .alloc 1 (.agg #[.int .i64 0, .slice none 0 0]), none⟩])
  (.seq
  (.reg 1 [
  ⟨(some 8), .fld 0 (.tmp 2), none⟩,
  ⟨(some 9), .load none (.tmp 8), none⟩,
  ⟨(some 10), .build [.int .i64 0, .slice none 0 0] [(0, 1, (.tmp 9))], none⟩,
  ⟨(some 5), .alloc 0 (.agg #[.int .i64 0, .slice none 0 0]), none⟩,
  ⟨none, .store 2 (.tmp 5) (.tmp 10), none⟩])
  (.seq
  (.seq
  (.reg 0 [
  ⟨(some 6), .mov (.const (.int .i64 0)), none⟩])
  (.block 0
  (.loop
  (.seq
  (.seq
  (.reg 0 [
  ⟨(some 11), .mov (.tmp 6), none⟩,
  ⟨(some 12), .fld 1 (.tmp 2), none⟩,
  ⟨(some 13), .load none (.tmp 12), none⟩,
  ⟨(some 14), .len (.tmp 13), none⟩,
  ⟨(some 15), .bin .lss false (.tmp 11) (.tmp 14), none⟩])
  (.cond (.tmp 15)
  .skip
  (.exit 0)))
  (.seq
  (.block 1
  (.seq
  (.reg 1 [
  ⟨(some 18), .fld 1 (.tmp 2), none⟩,
  ⟨(some 19), .load none (.tmp 18), none⟩,
  ⟨(some 20), .mov (.tmp 6), none⟩,
  ⟨(some 21), .idx 4 (.tmp 19) (.tmp 20), none⟩,
  ⟨(some 22), .load (some 4) (.tmp 21), none⟩,
  ⟨(some 7), .alloc 0 (.agg #[.int .i64 0, .int .i64 0, .int .i64 0, .int .i64 0]), none⟩,
  ⟨none, .store 4 (.tmp 7) (.tmp 22), none⟩])
  (.tree 2
  (.take 0 [1, 29, 30, 31] ⟨(some 23), .fld 1 (.tmp 5), none⟩
  (.take 1 [29, 30, 31] ⟨(some 24), .load none (.tmp 23), none⟩
  (.take 2 [3, 15, 28, 29, 30, 31] ⟨(some 25), .fld 0 (.tmp 7), none⟩
  (.take 3 [15, 28, 29, 30, 31] ⟨(some 26), .load none (.tmp 25), none⟩
  (.take 4 [5, 15, 28, 29, 30, 31] ⟨(some 27), .fld 1 (.tmp 7), none⟩
  (.take 5 [15, 28, 29, 30, 31] ⟨(some 28), .load none (.tmp 27), none⟩
  (.take 6 [7, 12, 15, 28, 29, 30, 31] ⟨(some 29), .fld 2 (.tmp 7), none⟩
  (.take 7 [12, 15, 28, 29, 30, 31] ⟨(some 30), .load none (.tmp 29), none⟩
  (.take 8 [10, 11, 12, 15, 28, 29, 30, 31] ⟨(some 31), .mov (.tmp 1), none⟩
  (.take 9 [10, 11, 12, 15, 28, 29, 30, 31] ⟨(some 32), .mov (.tmp 6), none⟩
  (.take 10 [11, 12, 15, 28, 29, 30, 31] ⟨(some 33), .idx 1 (.tmp 31) (.tmp 32), none⟩
  (.take 11 [12, 15, 28, 29, 30, 31] ⟨(some 34), .load none (.tmp 33), none⟩
  (.take 12 [15, 28, 29, 30, 31] ⟨(some 35), .bin .sub true (.tmp 30) (.tmp 34), none⟩
  (.take 13 [14, 15, 28, 29, 30, 31] ⟨(some 36), .fld 3 (.tmp 7), none⟩
  (.take 14 [15, 28, 29, 30, 31] ⟨(some 37), .load none (.tmp 36), none⟩
  (.take 15 [28, 29, 30, 31] ⟨(some 38), .build [.int .i64 0, .int .i64 0, .int .i64 0, .int .i64 0] [(0, 1, (.tmp 26)), (1, 1, (.tmp 28)), (2, 1, (.tmp 35)), (3, 1, (.tmp 37))], none⟩
  (.take 16 [17, 27, 28, 29, 30, 31] ⟨(some 39), .fld 1 (.tmp 7), none⟩
  (.take 17 [27, 28, 29, 30, 31] ⟨(some 40), .load none (.tmp 39), none⟩
  (.take 18 [19, 27, 28, 29, 30, 31] ⟨(some 41), .fld 0 (.tmp 7), none⟩
  (.take 19 [27, 28, 29, 30, 31] ⟨(some 42), .load none (.tmp 41), none⟩
  (.take 20 [22, 23, 27, 28, 29, 30, 31] ⟨(some 43), .mov (.tmp 1), none⟩
  (.take 21 [22, 23, 27, 28, 29, 30, 31] ⟨(some 44), .mov (.tmp 6), none⟩
  (.take 22 [23, 27, 28, 29, 30, 31] ⟨(some 45), .idx 1 (.tmp 43) (.tmp 44), none⟩
  (.take 23 [27, 28, 29, 30, 31] ⟨(some 46), .load none (.tmp 45), none⟩
  (.take 24 [25, 26, 27, 28, 29, 30, 31] ⟨(some 47), .fld 3 (.tmp 7), none⟩
  (.take 25 [26, 27, 28, 29, 30, 31] ⟨(some 48), .load none (.tmp 47), none⟩
  (.take 26 [27, 28, 29, 30, 31] ⟨(some 49), .neg (.tmp 48), none⟩
  (.take 27 [28, 29, 30, 31] ⟨(some 50), .build [.int .i64 0, .int .i64 0, .int .i64 0, .int .i64 0] [(0, 1, (.tmp 40)), (1, 1, (.tmp 42)), (2, 1, (.tmp 46)), (3, 1, (.tmp 49))], none⟩
  (.alt 28 ⟨(some 51), .lits 0 4 2 [.int .i64 0, .int .i64 0, .int .i64 0, .int .i64 0] [(0, (.tmp 38)), (1, (.tmp 50))], none⟩ true
  (.alt 29 ⟨(some 52), .append 1 4 32 (.tmp 24) (.tmp 51), none⟩ false
  (.take 30 [31] ⟨(some 53), .fld 1 (.tmp 5), none⟩
  (.alt 31 ⟨none, .store 1 (.tmp 53) (.tmp 52), none⟩ false
  .done
  .none))
  .none)
  .none))))))))))))))))))))))))))))))))
  (.reg 0 [
  ⟨(some 16), .mov (.tmp 6), none⟩,
  ⟨(some 17), .bin .add true (.tmp 16) (.const (.int .i64 1)), none⟩,
  ⟨(some 6), .mov (.tmp 17), none⟩]))))))
  (.seq
  (.reg 0 [
  ⟨(some 54), .load (some 2) (.tmp 5), none⟩,
  ⟨none, .store 2 (.tmp 4) (.tmp 54), none⟩])
  .ret))))

def c34 : LCode :=
  (.seq
  (.reg 1 [
  ⟨(some 0), .alloc 0 (.agg #[.int .i64 0, .slice none 0 0]), none⟩])
  (.seq
  (.reg 1 [
  ⟨(some 1), .build [.int .i64 0, .int .i64 0, .int .i64 0, .int .i64 0] [(0, 1, (.const (.int .i64 0))), (1, 1, (.const (.int .i64 1))), (2, 1, (.const (.int .i64 3)))], none⟩,
  ⟨(some 2), .build [.int .i64 0, .int .i64 0, .int .i64 0, .int .i64 0] [(0, 1, (.const (.int .i64 0))), (1, 1, (.const (.int .i64 2))), (2, 1, (.const (.int .i64 2)))], none⟩,
  ⟨(some 3), .build [.int .i64 0, .int .i64 0, .int .i64 0, .int .i64 0] [(0, 1, (.const (.int .i64 1))), (1, 1, (.const (.int .i64 2))), (2, 1, (.const (.int .i64 5)))], none⟩,
  ⟨(some 4), .build [.int .i64 0, .int .i64 0, .int .i64 0, .int .i64 0] [(0, 1, (.const (.int .i64 1))), (1, 1, (.const (.int .i64 3))), (2, 1, (.const (.int .i64 2)))], none⟩,
  ⟨(some 5), .build [.int .i64 0, .int .i64 0, .int .i64 0, .int .i64 0] [(0, 1, (.const (.int .i64 2))), (1, 1, (.const (.int .i64 3))), (2, 1, (.const (.int .i64 3)))], none⟩,
  ⟨(some 6), .lits 0 4 5 [.int .i64 0, .int .i64 0, .int .i64 0, .int .i64 0] [(0, (.tmp 1)), (1, (.tmp 2)), (2, (.tmp 3)), (3, (.tmp 4)), (4, (.tmp 5))], none⟩,
  ⟨(some 7), .build [.int .i64 0, .slice none 0 0] [(0, 1, (.const (.int .i64 4))), (1, 1, (.tmp 6))], none⟩,
  ⟨none, .store 2 (.tmp 0) (.tmp 7), none⟩])
  .ret))

def c35 : LCode :=
  (.seq
  (.reg 1 [
  ⟨(some 3), .box 0 (.tmp 0), none⟩,
  ⟨(some 6), .mov (.const (.bool false)), none⟩])
  (.seq
  (.reg 0 [
  ⟨(some 7), .mov (.tmp 1), none⟩,
  ⟨(some 8), .mov (.tmp 2), none⟩,
  ⟨(some 9), .minmax false (.tmp 7) (.tmp 8), none⟩,
  ⟨(some 10), .bin .geq false (.tmp 9) (.const (.int .i64 0)), none⟩,
  ⟨(some 11), .mov (.tmp 10), none⟩,
  ⟨(some 12), .mov (.tmp 1), (some (11, true))⟩,
  ⟨(some 13), .mov (.tmp 2), (some (11, true))⟩,
  ⟨(some 14), .minmax true (.tmp 12) (.tmp 13), (some (11, true))⟩,
  ⟨(some 15), .fld 0 (.tmp 3), (some (11, true))⟩,
  ⟨(some 16), .load none (.tmp 15), (some (11, true))⟩,
  ⟨(some 17), .bin .lss false (.tmp 14) (.tmp 16), (some (11, true))⟩,
  ⟨(some 18), .pick (.tmp 11) (.tmp 17) (.const (.bool false)), none⟩,
  ⟨(some 19), .mov (.tmp 18), none⟩,
  ⟨(some 20), .mov (.tmp 1), (some (19, true))⟩,
  ⟨(some 21), .mov (.tmp 2), (some (19, true))⟩,
  ⟨(some 22), .bin .neq false (.tmp 20) (.tmp 21), (some (19, true))⟩,
  ⟨(some 23), .pick (.tmp 19) (.tmp 22) (.const (.bool false)), none⟩,
  ⟨(some 6), .mov (.tmp 23), none⟩])
  .ret))

def c36l0 : LCode :=
  .seq
  (.reg 0 [
  ⟨(some 41), .bin .lss false (.tmp 40) (.tmp 39), none⟩])
  (.seq
  (.cond (.tmp 41)
  .skip
  (.exit 0))
  (.seq
  (.block 1
  (.seq
  (.reg 1 [
  ⟨(some 42), .mov (.tmp 40), none⟩,
  ⟨(some 43), .idx 4 (.tmp 38) (.tmp 40), none⟩,
  ⟨(some 44), .load (some 4) (.tmp 43), none⟩,
  ⟨(some 11), .alloc 0 (.agg #[.int .i64 0, .int .i64 0, .int .i64 0, .int .i64 0]), none⟩,
  ⟨(some 10), .mov (.tmp 42), none⟩,
  ⟨none, .store 4 (.tmp 11) (.tmp 44), none⟩])
  (.tree 2
  (.take 0 [11, 12] ⟨(some 45), .mov (.tmp 9), none⟩
  (.take 1 [2, 11, 12] ⟨(some 46), .fld 0 (.tmp 11), none⟩
  (.take 2 [11, 12] ⟨(some 47), .load none (.tmp 46), none⟩
  (.take 3 [6, 7, 10, 11, 12] ⟨(some 48), .mov (.tmp 9), none⟩
  (.take 4 [5, 6, 7, 10, 11, 12] ⟨(some 49), .fld 0 (.tmp 11), none⟩
  (.take 5 [6, 7, 10, 11, 12] ⟨(some 50), .load none (.tmp 49), none⟩
  (.take 6 [7, 10, 11, 12] ⟨(some 51), .idx 1 (.tmp 48) (.tmp 50), none⟩
  (.take 7 [10, 11, 12] ⟨(some 52), .load none (.tmp 51), none⟩
  (.take 8 [9, 10, 11, 12] ⟨(some 53), .mov (.tmp 10), none⟩
  (.alt 9 ⟨(some 54), .lits 0 1 1 [.int .i64 0] [(0, (.tmp 53))], none⟩ true
  (.alt 10 ⟨(some 55), .append 1 1 8 (.tmp 52) (.tmp 54), none⟩ true
  (.take 11 [12] ⟨(some 56), .idx 1 (.tmp 45) (.tmp 47), none⟩
  (.alt 12 ⟨none, .store 1 (.tmp 56) (.tmp 55), none⟩ false
  .done
  .none))
  .none)
  .none)))))))))))))
  (.reg 0 [
  ⟨(some 57), .bin .add true (.tmp 40) (.const (.int .i64 1)), none⟩,
  ⟨(some 40), .mov (.tmp 57), none⟩])))
def c36l3 : LCode :=
  .seq
  (.reg 0 [
  ⟨(some 77), .bin .lss false (.tmp 76) (.tmp 75), none⟩])
  (.seq
  (.cond (.tmp 77)
  .skip
  (.exit 6))
  (.seq
  (.block 7
  (.seq
  (.reg 0 [
  ⟨(some 78), .idx 1 (.tmp 74) (.tmp 76), none⟩,
  ⟨(some 79), .load none (.tmp 78), none⟩,
  ⟨(some 16), .mov (.tmp 79), none⟩])
  (.seq
  (.reg 1 [
  ⟨(some 80), .fld 1 (.tmp 8), none⟩,
  ⟨(some 81), .load none (.tmp 80), none⟩,
  ⟨(some 82), .mov (.tmp 16), none⟩,
  ⟨(some 83), .idx 4 (.tmp 81) (.tmp 82), none⟩,
  ⟨(some 84), .load (some 4) (.tmp 83), none⟩,
  ⟨(some 17), .alloc 0 (.agg #[.int .i64 0, .int .i64 0, .int .i64 0, .int .i64 0]), none⟩,
  ⟨none, .store 4 (.tmp 17) (.tmp 84), none⟩])
  (.seq
  (.reg 0 [
  ⟨(some 86), .load none (.tmp 12), none⟩,
  ⟨(some 87), .fld 1 (.tmp 17), none⟩,
  ⟨(some 88), .load none (.tmp 87), none⟩,
  ⟨(some 89), .lookup (.int .i64) (.int .i64 0) true (.tmp 86) (.tmp 88), none⟩,
  ⟨(some 85), .mov (.tmp 89), none⟩,
  ⟨(some 90), .ext (.tmp 85) 0, none⟩,
  ⟨(some 91), .ext (.tmp 85) 1, none⟩,
  ⟨(some 18), .mov (.tmp 90), none⟩,
  ⟨(some 19), .mov (.tmp 91), none⟩])
  (.seq
  (.reg 0 [
  ⟨(some 92), .mov (.tmp 19), none⟩,
  ⟨(some 93), .not (.tmp 92), none⟩,
  ⟨(some 94), .mov (.tmp 93), none⟩,
  ⟨(some 95), .fld 2 (.tmp 17), (some (94, true))⟩,
  ⟨(some 96), .load none (.tmp 95), (some (94, true))⟩,
  ⟨(some 97), .bin .gtr false (.tmp 96) (.const (.int .i64 0)), (some (94, true))⟩,
  ⟨(some 98), .pick (.tmp 94) (.tmp 97) (.const (.bool false)), none⟩])
  (.cond (.tmp 98)
  (.tree 2
  (.take 0 [9, 10] ⟨(some 99), .load none (.tmp 12), none⟩
  (.take 1 [2, 9, 10] ⟨(some 100), .fld 1 (.tmp 17), none⟩
  (.take 2 [9, 10] ⟨(some 101), .load none (.tmp 100), none⟩
  (.take 3 [9, 10] ⟨(some 102), .mov (.tmp 16), none⟩
  (.take 4 [8, 9, 10] ⟨(some 103), .mov (.tmp 13), none⟩
  (.take 5 [6, 7, 8, 9, 10] ⟨(some 104), .fld 1 (.tmp 17), none⟩
  (.take 6 [7, 8, 9, 10] ⟨(some 105), .load none (.tmp 104), none⟩
  (.alt 7 ⟨(some 106), .lits 0 1 1 [.int .i64 0] [(0, (.tmp 105))], none⟩ true
  (.alt 8 ⟨(some 107), .append 1 1 8 (.tmp 103) (.tmp 106), none⟩ true
  (.alt 9 ⟨none, .mset (.int .i64) (.tmp 99) (.tmp 101) (.tmp 102), none⟩ false
  (.take 10 [] ⟨(some 13), .mov (.tmp 107), none⟩
  .done)
  .none)
  .none)
  .none)))))))))
  .skip))))))
  (.reg 0 [
  ⟨(some 108), .bin .add true (.tmp 76) (.const (.int .i64 1)), none⟩,
  ⟨(some 76), .mov (.tmp 108), none⟩])))
def c36l2 : LCode :=
  .seq
  (.seq
  (.reg 0 [
  ⟨(some 63), .mov (.tmp 13), none⟩,
  ⟨(some 64), .len (.tmp 63), none⟩,
  ⟨(some 65), .bin .gtr false (.tmp 64) (.const (.int .i64 0)), none⟩])
  (.cond (.tmp 65)
  .skip
  (.exit 4)))
  (.block 5
  (.seq
  (.reg 0 [
  ⟨(some 66), .mov (.tmp 13), none⟩,
  ⟨(some 67), .idx 1 (.tmp 66) (.const (.int .i64 0)), none⟩,
  ⟨(some 68), .load none (.tmp 67), none⟩,
  ⟨(some 14), .mov (.tmp 68), none⟩])
  (.seq
  (.reg 0 [
  ⟨(some 69), .mov (.tmp 13), none⟩,
  ⟨(some 70), .slice 1 (.tmp 69) (some (.const (.int .i64 1))) none none, none⟩,
  ⟨(some 13), .mov (.tmp 70), none⟩])
  (.seq
  (.reg 0 [
  ⟨(some 71), .mov (.tmp 9), none⟩,
  ⟨(some 72), .mov (.tmp 14), none⟩,
  ⟨(some 73), .idx 1 (.tmp 71) (.tmp 72), none⟩,
  ⟨(some 74), .load none (.tmp 73), none⟩,
  ⟨(some 75), .len (.tmp 74), none⟩,
  ⟨(some 76), .mov (.const (.int .i64 0)), none⟩])
  (.block 6
  (.loop c36l3))))))
def c36l4 : LCode :=
  .seq
  (.reg 0 [
  ⟨(some 127), .bin .lss false (.tmp 126) (.tmp 125), none⟩])
  (.seq
  (.cond (.tmp 127)
  .skip
  (.exit 8))
  (.seq
  (.block 9
  (.seq
  (.reg 0 [
  ⟨(some 128), .mov (.tmp 126), none⟩,
  ⟨(some 24), .mov (.tmp 128), none⟩])
  (.reg 0 [
  ⟨(some 129), .mov (.tmp 22), none⟩,
  ⟨(some 130), .mov (.tmp 24), none⟩,
  ⟨(some 131), .fld 1 (.tmp 8), none⟩,
  ⟨(some 132), .load none (.tmp 131), none⟩,
  ⟨(some 133), .mov (.tmp 24), none⟩,
  ⟨(some 134), .bin .mul true (.const (.int .i64 2)) (.tmp 133), none⟩,
  ⟨(some 135), .bin .add true (.tmp 134) (.const (.int .i64 1)), none⟩,
  ⟨(some 136), .idx 4 (.tmp 132) (.tmp 135), none⟩,
  ⟨(some 137), .fld 2 (.tmp 136), none⟩,
  ⟨(some 138), .load none (.tmp 137), none⟩,
  ⟨(some 139), .idx 1 (.tmp 129) (.tmp 130), none⟩,
  ⟨none, .store 1 (.tmp 139) (.tmp 138), none⟩])))
  (.reg 0 [
  ⟨(some 140), .bin .add true (.tmp 126) (.const (.int .i64 1)), none⟩,
  ⟨(some 126), .mov (.tmp 140), none⟩])))
def c36l5 : LCode :=
  .seq
  (.reg 0 [
  ⟨(some 143), .next (.tmp 142), none⟩,
  ⟨(some 144), .ext (.tmp 143) 0, none⟩])
  (.seq
  (.cond (.tmp 144)
  .skip
  (.exit 10))
  (.block 11
  (.seq
  (.reg 0 [
  ⟨(some 145), .entry (.tmp 142), none⟩,
  ⟨(some 146), .ext (.tmp 145) 0, none⟩,
  ⟨(some 25), .mov (.tmp 146), none⟩])
  (.reg 0 [
  ⟨(some 147), .mov (.tmp 23), none⟩,
  ⟨(some 148), .mov (.tmp 25), none⟩,
  ⟨(some 149), .idx 1 (.tmp 147) (.tmp 148), none⟩,
  ⟨none, .store 1 (.tmp 149) (.const (.bool true)), none⟩]))))
def c36l1 : LCode :=
  .block 3
  (.seq
  (.reg 2 [
  ⟨(some 58), .mkmap 0 none, none⟩,
  ⟨(some 59), .load none (.tmp 4), none⟩,
  ⟨none, .mset (.int .i64) (.tmp 58) (.tmp 59) (.const (.int .i64 (-1))), none⟩,
  ⟨(some 60), .mov (.tmp 58), none⟩,
  ⟨(some 12), .alloc 1 (.map none), none⟩,
  ⟨none, .store 1 (.tmp 12) (.tmp 60), none⟩])
  (.seq
  (.reg 1 [
  ⟨(some 61), .load none (.tmp 4), none⟩,
  ⟨(some 62), .lits 0 1 1 [.int .i64 0] [(0, (.tmp 61))], none⟩,
  ⟨(some 13), .mov (.tmp 62), none⟩])
  (.seq
  (.block 4
  (.loop c36l2))
  (.seq
  (.seq
  (.reg 0 [
  ⟨(some 110), .load none (.tmp 12), none⟩,
  ⟨(some 111), .load none (.tmp 5), none⟩,
  ⟨(some 112), .lookup (.int .i64) (.int .i64 0) true (.tmp 110) (.tmp 111), none⟩,
  ⟨(some 109), .mov (.tmp 112), none⟩,
  ⟨(some 113), .ext (.tmp 109) 0, none⟩,
  ⟨(some 114), .ext (.tmp 109) 1, none⟩,
  ⟨(some 20), .mov (.tmp 113), none⟩,
  ⟨(some 21), .mov (.tmp 114), none⟩])
  (.seq
  (.reg 0 [
  ⟨(some 115), .mov (.tmp 21), none⟩,
  ⟨(some 116), .not (.tmp 115), none⟩])
  (.cond (.tmp 116)
  (.seq
  (.tree 2
  (.take 0 [1, 2, 3, 7, 8] ⟨(some 117), .fld 1 (.tmp 3), none⟩
  (.take 1 [2, 3, 7, 8] ⟨(some 118), .load none (.tmp 117), none⟩
  (.take 2 [3, 7, 8] ⟨(some 119), .len (.tmp 118), none⟩
  (.take 4 [5, 6, 8] ⟨(some 121), .fld 0 (.tmp 3), none⟩
  (.take 5 [6, 8] ⟨(some 122), .load none (.tmp 121), none⟩
  (.alt 3 ⟨(some 120), .mk 0 1 8 [.int .i64 0] (.tmp 119) (.tmp 119), none⟩ true
  (.take 7 [8] ⟨(some 22), .mov (.tmp 120), none⟩
  (.alt 6 ⟨(some 123), .mk 1 1 1 [.bool false] (.tmp 122) (.tmp 122), none⟩ true
  (.take 8 [] ⟨(some 23), .mov (.tmp 123), none⟩
  .done)
  .none))
  (.alt 6 ⟨(some 123), .mk 1 1 1 [.bool false] (.tmp 122) (.tmp 122), none⟩ true
  (.alt 3 ⟨(some 120), .mk 0 1 8 [.int .i64 0] (.tmp 119) (.tmp 119), none⟩ true
  (.take 7 [8] ⟨(some 22), .mov (.tmp 120), none⟩
  (.take 8 [] ⟨(some 23), .mov (.tmp 123), none⟩
  .done))
  .none)
  .none))))))))
  (.seq
  (.seq
  (.reg 0 [
  ⟨(some 124), .mov (.tmp 22), none⟩,
  ⟨(some 125), .len (.tmp 124), none⟩,
  ⟨(some 126), .mov (.const (.int .i64 0)), none⟩])
  (.block 8
  (.loop c36l4)))
  (.seq
  (.seq
  (.reg 1 [
  ⟨(some 141), .load none (.tmp 12), none⟩,
  ⟨(some 142), .range 0 (.tmp 141), none⟩])
  (.block 10
  (.loop c36l5)))
  (.seq
  (.reg 0 [
  ⟨(some 150), .mov (.tmp 22), none⟩,
  ⟨(some 151), .mov (.tmp 23), none⟩,
  ⟨(some 6), .mov (.tmp 150), none⟩,
  ⟨(some 7), .mov (.tmp 151), none⟩])
  .ret))))
  .skip)))
  (.seq
  (.reg 0 [
  ⟨(some 152), .fn 54 [(.tmp 5), (.tmp 4), (.tmp 8), (.tmp 12)], none⟩,
  ⟨(some 26), .mov (.tmp 152), none⟩])
  (.seq
  (.reg 1 [
  ⟨(some 27), .alloc 0 (.int .i64 0), none⟩,
  ⟨none, .store 1 (.tmp 27) (.const (.int .i64 1073741824)), none⟩])
  (.seq
  (.reg 0 [
  ⟨(some 153), .mov (.tmp 26), none⟩,
  ⟨(some 154), .fn 55 [(.tmp 27), (.tmp 8)], none⟩,
  ⟨(some 155), .callv (.tmp 153) [(.tmp 154)], none⟩])
  (.reg 0 [
  ⟨(some 156), .mov (.tmp 26), none⟩,
  ⟨(some 157), .fn 56 [(.tmp 8), (.tmp 27)], none⟩,
  ⟨(some 158), .callv (.tmp 156) [(.tmp 157)], none⟩]))))))))

def c36 : LCode :=
  (.seq
  (.reg 3 [
  ⟨(some 3), .box 0 (.tmp 0), none⟩,
  ⟨(some 4), .box 1 (.tmp 1), none⟩,
  ⟨(some 5), .box 2 (.tmp 2), none⟩,
  ⟨(some 6), .mov (.const (.slice none 0 0)), none⟩,
  ⟨(some 7), .mov (.const (.slice none 0 0)), none⟩])
  (.seq
  (.tree 2
  (.take 0 [5, 7] ⟨(some 28), .load (some 2) (.tmp 3), none⟩
  (.take 1 [2, 3, 4, 5, 7] ⟨(some 29), .fld 1 (.tmp 3), none⟩
  (.take 2 [3, 4, 5, 7] ⟨(some 30), .load none (.tmp 29), none⟩
  (.take 3 [4, 5, 7] ⟨(some 31), .len (.tmp 30), none⟩
  (.alt 4 ⟨(some 32), .mk 0 1 8 [.int .i64 0] (.tmp 31) (.tmp 31), none⟩ true
  (.alt 5 ⟨(some 33), .call 32 [(.tmp 28), (.tmp 32)], none⟩ false
  (.alt 6 ⟨(some 8), .alloc 1 (.agg #[.int .i64 0, .slice none 0 0]), none⟩ true
  (.alt 7 ⟨none, .store 2 (.tmp 8) (.tmp 33), none⟩ false
  .done
  .none)
  .none)
  (.alt 6 ⟨(some 8), .alloc 1 (.agg #[.int .i64 0, .slice none 0 0]), none⟩ true
  (.alt 5 ⟨(some 33), .call 32 [(.tmp 28), (.tmp 32)], none⟩ false
  (.alt 7 ⟨none, .store 2 (.tmp 8) (.tmp 33), none⟩ false
  .done
  .none)
  .none)
  .none))
  (.alt 6 ⟨(some 8), .alloc 1 (.agg #[.int .i64 0, .slice none 0 0]), none⟩ true
  (.alt 4 ⟨(some 32), .mk 0 1 8 [.int .i64 0] (.tmp 31) (.tmp 31), none⟩ true
  (.alt 5 ⟨(some 33), .call 32 [(.tmp 28), (.tmp 32)], none⟩ false
  (.alt 7 ⟨none, .store 2 (.tmp 8) (.tmp 33), none⟩ false
  .done
  .none)
  .none)
  .none)
  .none)))))))
  (.seq
  (.reg 1 [
  ⟨(some 34), .fld 0 (.tmp 3), none⟩,
  ⟨(some 35), .load none (.tmp 34), none⟩,
  ⟨(some 36), .mkv 0 1 24 [.slice none 0 0] (.tmp 35) (.tmp 35), none⟩,
  ⟨(some 9), .mov (.tmp 36), none⟩])
  (.seq
  (.seq
  (.reg 0 [
  ⟨(some 37), .fld 1 (.tmp 8), none⟩,
  ⟨(some 38), .load none (.tmp 37), none⟩,
  ⟨(some 39), .len (.tmp 38), none⟩,
  ⟨(some 40), .mov (.const (.int .i64 0)), none⟩])
  (.block 0
  (.loop c36l0)))
  (.block 2
  (.loop c36l1))))))

def c37 : LCode :=
  (.seq
  (.reg 1 [
  ⟨(some 3), .box 0 (.tmp 0), none⟩,
  ⟨(some 6), .mov (.const (.bool false)), none⟩])
  (.seq
  (.reg 0 [
  ⟨(some 7), .mov (.tmp 1), none⟩,
  ⟨(some 8), .bin .geq false (.tmp 7) (.const (.int .i64 0)), none⟩,
  ⟨(some 9), .mov (.tmp 8), none⟩,
  ⟨(some 10), .mov (.tmp 1), (some (9, true))⟩,
  ⟨(some 11), .fld 0 (.tmp 3), (some (9, true))⟩,
  ⟨(some 12), .load none (.tmp 11), (some (9, true))⟩,
  ⟨(some 13), .bin .lss false (.tmp 10) (.tmp 12), (some (9, true))⟩,
  ⟨(some 14), .pick (.tmp 9) (.tmp 13) (.const (.bool false)), none⟩,
  ⟨(some 15), .mov (.tmp 14), none⟩,
  ⟨(some 16), .mov (.tmp 2), (some (15, true))⟩,
  ⟨(some 17), .bin .geq false (.tmp 16) (.const (.int .i64 0)), (some (15, true))⟩,
  ⟨(some 18), .pick (.tmp 15) (.tmp 17) (.const (.bool false)), none⟩,
  ⟨(some 19), .mov (.tmp 18), none⟩,
  ⟨(some 20), .mov (.tmp 2), (some (19, true))⟩,
  ⟨(some 21), .fld 0 (.tmp 3), (some (19, true))⟩,
  ⟨(some 22), .load none (.tmp 21), (some (19, true))⟩,
  ⟨(some 23), .bin .lss false (.tmp 20) (.tmp 22), (some (19, true))⟩,
  ⟨(some 24), .pick (.tmp 19) (.tmp 23) (.const (.bool false)), none⟩,
  ⟨(some 25), .mov (.tmp 24), none⟩,
  ⟨(some 26), .mov (.tmp 1), (some (25, true))⟩,
  ⟨(some 27), .mov (.tmp 2), (some (25, true))⟩,
  ⟨(some 28), .bin .neq false (.tmp 26) (.tmp 27), (some (25, true))⟩,
  ⟨(some 29), .pick (.tmp 25) (.tmp 28) (.const (.bool false)), none⟩,
  ⟨(some 6), .mov (.tmp 29), none⟩])
  .ret))

def c38 : LCode :=
  (.seq
  (.reg 2 [
  ⟨(some 3), .box 0 (.tmp 0), none⟩,
  ⟨(some 6), .alloc 1 (.agg #[.slice none 0 0, .slice none 0 0, .int .i64 0]), none⟩])
  (.seq
  (.reg 1 [
  ⟨(some 16), .fld 1 (.tmp 3), none⟩,
  ⟨(some 17), .load none (.tmp 16), none⟩,
  ⟨(some 18), .len (.tmp 17), none⟩,
  ⟨(some 19), .mk 0 1 8 [.int .i64 0] (.tmp 18) (.tmp 18), none⟩,
  ⟨(some 7), .mov (.tmp 19), none⟩])
  (.block 0
  (.loop
  (.block 1
  (.seq
  (.reg 1 [
  ⟨(some 20), .load (some 2) (.tmp 3), none⟩,
  ⟨(some 21), .mov (.tmp 7), none⟩,
  ⟨(some 22), .call 33 [(.tmp 20), (.tmp 21)], none⟩,
  ⟨(some 8), .alloc 0 (.agg #[.int .i64 0, .slice none 0 0]), none⟩,
  ⟨none, .store 2 (.tmp 8) (.tmp 22), none⟩])
  (.seq
  (.reg 1 [
  ⟨(some 23), .load (some 2) (.tmp 8), none⟩,
  ⟨(some 24), .mov (.tmp 1), none⟩,
  ⟨(some 25), .call 57 [(.tmp 23), (.tmp 24)], none⟩,
  ⟨(some 9), .alloc 0 (.agg #[.slice none 0 0]), none⟩,
  ⟨none, .store 1 (.tmp 9) (.tmp 25), none⟩])
  (.seq
  (.seq
  (.reg 0 [
  ⟨(some 26), .fld 0 (.tmp 9), none⟩,
  ⟨(some 27), .load none (.tmp 26), none⟩,
  ⟨(some 28), .mov (.tmp 2), none⟩,
  ⟨(some 29), .idx 1 (.tmp 27) (.tmp 28), none⟩,
  ⟨(some 30), .load none (.tmp 29), none⟩,
  ⟨(some 31), .bin .eql false (.tmp 30) (.const (.int .i64 (-2))), none⟩])
  (.cond (.tmp 31)
  (.seq
  (.reg 1 [
  ⟨(some 32), .fld 0 (.tmp 3), none⟩,
  ⟨(some 33), .load none (.tmp 32), none⟩,
  ⟨(some 34), .mk 0 1 1 [.bool false] (.tmp 33) (.tmp 33), none⟩,
  ⟨(some 10), .mov (.tmp 34), none⟩])
  (.seq
  (.seq
  (.reg 0 [
  ⟨(some 11), .mov (.const (.int .i64 0)), none⟩])
  (.block 2
  (.loop
  (.seq
  (.seq
  (.reg 0 [
  ⟨(some 35), .mov (.tmp 11), none⟩,
  ⟨(some 36), .fld 0 (.tmp 3), none⟩,
  ⟨(some 37), .load none (.tmp 36), none⟩,
  ⟨(some 38), .bin .lss false (.tmp 35) (.tmp 37), none⟩])
  (.cond (.tmp 38)
  .skip
  (.exit 2)))
  (.seq
  (.block 3
  (.reg 0 [
  ⟨(some 41), .mov (.tmp 10), none⟩,
  ⟨(some 42), .mov (.tmp 11), none⟩,
  ⟨(some 43), .fld 0 (.tmp 9), none⟩,
  ⟨(some 44), .load none (.tmp 43), none⟩,
  ⟨(some 45), .mov (.tmp 11), none⟩,
  ⟨(some 46), .idx 1 (.tmp 44) (.tmp 45), none⟩,
  ⟨(some 47), .load none (.tmp 46), none⟩,
  ⟨(some 48), .bin .neq false (.tmp 47) (.const (.int .i64 (-2))), none⟩,
  ⟨(some 49), .idx 1 (.tmp 41) (.tmp 42), none⟩,
  ⟨none, .store 1 (.tmp 49) (.tmp 48), none⟩]))
  (.reg 0 [
  ⟨(some 39), .mov (.tmp 11), none⟩,
  ⟨(some 40), .bin .add true (.tmp 39) (.const (.int .i64 1)), none⟩,
  ⟨(some 11), .mov (.tmp 40), none⟩]))))))
  (.seq
  (.reg 0 [
  ⟨(some 50), .mov (.tmp 7), none⟩,
  ⟨(some 51), .mov (.tmp 10), none⟩,
  ⟨(some 52), .build [.slice none 0 0, .slice none 0 0, .int .i64 0] [(0, 1, (.tmp 50)), (1, 1, (.tmp 51))], none⟩,
  ⟨none, .store 3 (.tmp 6) (.tmp 52), none⟩])
  .ret)))
  .skip))
  (.seq
  (.reg 0 [
  ⟨(some 12), .mov (.const (.int .i64 1073741824)), none⟩])
  (.seq
  (.seq
  (.reg 0 [
  ⟨(some 53), .mov (.tmp 2), none⟩,
  ⟨(some 13), .mov (.tmp 53), none⟩])
  (.block 4
  (.loop
  (.seq
  (.seq
  (.reg 0 [
  ⟨(some 54), .fld 0 (.tmp 9), none⟩,
  ⟨(some 55), .load none (.tmp 54), none⟩,
  ⟨(some 56), .mov (.tmp 13), none⟩,
  ⟨(some 57), .idx 1 (.tmp 55) (.tmp 56), none⟩,
  ⟨(some 58), .load none (.tmp 57), none⟩,
  ⟨(some 59), .bin .geq false (.tmp 58) (.const (.int .i64 0)), none⟩])
  (.cond (.tmp 59)
  .skip
  (.exit 4)))
  (.seq
  (.block 5
  (.qui 0 [
  ⟨(some 70), .mov (.tmp 12), none⟩,
  ⟨(some 71), .fld 1 (.tmp 8), none⟩,
  ⟨(some 72), .load none (.tmp 71), none⟩,
  ⟨(some 73), .fld 0 (.tmp 9), none⟩,
  ⟨(some 74), .load none (.tmp 73), none⟩,
  ⟨(some 75), .mov (.tmp 13), none⟩,
  ⟨(some 76), .idx 1 (.tmp 74) (.tmp 75), none⟩,
  ⟨(some 77), .load none (.tmp 76), none⟩,
  ⟨(some 78), .idx 4 (.tmp 72) (.tmp 77), none⟩,
  ⟨(some 79), .fld 2 (.tmp 78), none⟩,
  ⟨(some 80), .load none (.tmp 79), none⟩,
  ⟨(some 81), .minmax false (.tmp 70) (.tmp 80), none⟩,
  ⟨(some 12), .mov (.tmp 81), none⟩]))
  (.qui 0 [
  ⟨(some 60), .fld 1 (.tmp 8), none⟩,
  ⟨(some 61), .load none (.tmp 60), none⟩,
  ⟨(some 62), .fld 0 (.tmp 9), none⟩,
  ⟨(some 63), .load none (.tmp 62), none⟩,
  ⟨(some 64), .mov (.tmp 13), none⟩,
  ⟨(some 65), .idx 1 (.tmp 63) (.tmp 64), none⟩,
  ⟨(some 66), .load none (.tmp 65), none⟩,
  ⟨(some 67), .idx 4 (.tmp 61) (.tmp 66), none⟩,
  ⟨(some 68), .fld 0 (.tmp 67), none⟩,
  ⟨(some 69), .load none (.tmp 68), none⟩,
  ⟨(some 13), .mov (.tmp 69), none⟩]))))))
  (.seq
  (.reg 0 [
  ⟨(some 82), .mov (.tmp 2), none⟩,
  ⟨(some 14), .mov (.tmp 82), none⟩])
  (.block 6
  (.loop
  (.seq
  (.seq
  (.reg 0 [
  ⟨(some 83), .fld 0 (.tmp 9), none⟩,
  ⟨(some 84), .load none (.tmp 83), none⟩,
  ⟨(some 85), .mov (.tmp 14), none⟩,
  ⟨(some 86), .idx 1 (.tmp 84) (.tmp 85), none⟩,
  ⟨(some 87), .load none (.tmp 86), none⟩,
  ⟨(some 88), .bin .geq false (.tmp 87) (.const (.int .i64 0)), none⟩])
  (.cond (.tmp 88)
  .skip
  (.exit 6)))
  (.seq
  (.block 7
  (.seq
  (.reg 0 [
  ⟨(some 99), .fld 0 (.tmp 9), none⟩,
  ⟨(some 100), .load none (.tmp 99), none⟩,
  ⟨(some 101), .mov (.tmp 14), none⟩,
  ⟨(some 102), .idx 1 (.tmp 100) (.tmp 101), none⟩,
  ⟨(some 103), .load none (.tmp 102), none⟩,
  ⟨(some 15), .mov (.tmp 103), none⟩])
  (.seq
  (.reg 0 [
  ⟨(some 104), .mov (.tmp 15), none⟩,
  ⟨(some 105), .bin .rem false (.tmp 104) (.const (.int .i64 2)), none⟩,
  ⟨(some 106), .bin .eql false (.tmp 105) (.const (.int .i64 0)), none⟩])
  (.cond (.tmp 106)
  (.reg 0 [
  ⟨(some 107), .mov (.tmp 7), none⟩,
  ⟨(some 108), .mov (.tmp 15), none⟩,
  ⟨(some 109), .bin .quo true (.tmp 108) (.const (.int .i64 2)), none⟩,
  ⟨(some 110), .mov (.tmp 7), none⟩,
  ⟨(some 111), .mov (.tmp 15), none⟩,
  ⟨(some 112), .bin .quo true (.tmp 111) (.const (.int .i64 2)), none⟩,
  ⟨(some 113), .idx 1 (.tmp 110) (.tmp 112), none⟩,
  ⟨(some 114), .load none (.tmp 113), none⟩,
  ⟨(some 115), .mov (.tmp 12), none⟩,
  ⟨(some 116), .bin .add true (.tmp 114) (.tmp 115), none⟩,
  ⟨(some 117), .idx 1 (.tmp 107) (.tmp 109), none⟩,
  ⟨none, .store 1 (.tmp 117) (.tmp 116), none⟩])
  (.reg 0 [
  ⟨(some 118), .mov (.tmp 7), none⟩,
  ⟨(some 119), .mov (.tmp 15), none⟩,
  ⟨(some 120), .bin .quo true (.tmp 119) (.const (.int .i64 2)), none⟩,
  ⟨(some 121), .mov (.tmp 7), none⟩,
  ⟨(some 122), .mov (.tmp 15), none⟩,
  ⟨(some 123), .bin .quo true (.tmp 122) (.const (.int .i64 2)), none⟩,
  ⟨(some 124), .idx 1 (.tmp 121) (.tmp 123), none⟩,
  ⟨(some 125), .load none (.tmp 124), none⟩,
  ⟨(some 126), .mov (.tmp 12), none⟩,
  ⟨(some 127), .bin .sub true (.tmp 125) (.tmp 126), none⟩,
  ⟨(some 128), .idx 1 (.tmp 118) (.tmp 120), none⟩,
  ⟨none, .store 1 (.tmp 128) (.tmp 127), none⟩])))))
  (.qui 0 [
  ⟨(some 89), .fld 1 (.tmp 8), none⟩,
  ⟨(some 90), .load none (.tmp 89), none⟩,
  ⟨(some 91), .fld 0 (.tmp 9), none⟩,
  ⟨(some 92), .load none (.tmp 91), none⟩,
  ⟨(some 93), .mov (.tmp 14), none⟩,
  ⟨(some 94), .idx 1 (.tmp 92) (.tmp 93), none⟩,
  ⟨(some 95), .load none (.tmp 94), none⟩,
  ⟨(some 96), .idx 4 (.tmp 90) (.tmp 95), none⟩,
  ⟨(some 97), .fld 0 (.tmp 96), none⟩,
  ⟨(some 98), .load none (.tmp 97), none⟩,
  ⟨(some 14), .mov (.tmp 98), none⟩]))))))))))))))))

def c39 : LCode :=
  (.seq
  (.reg 1 [
  ⟨(some 2), .box 0 (.tmp 0), none⟩,
  ⟨(some 4), .mov (.const (.slice none 0 0)), none⟩])
  (.seq
  (.reg 1 [
  ⟨(some 8), .fld 0 (.tmp 2), none⟩,
  ⟨(some 9), .load none (.tmp 8), none⟩,
  ⟨(some 10), .mk 0 1 8 [.int .i64 0] (.tmp 9) (.tmp 9), none⟩,
  ⟨(some 5), .mov (.tmp 10), none⟩])
  (.seq
  (.seq
  (.reg 0 [
  ⟨(some 11), .fld 1 (.tmp 2), none⟩,
  ⟨(some 12), .load none (.tmp 11), none⟩,
  ⟨(some 13), .len (.tmp 12), none⟩,
  ⟨(some 14), .mov (.const (.int .i64 0)), none⟩])
  (.block 0
  (.loop
  (.seq
  (.reg 0 [
  ⟨(some 15), .bin .lss false (.tmp 14) (.tmp 13), none⟩])
  (.seq
  (.cond (.tmp 15)
  .skip
  (.exit 0))
  (.seq
  (.block 1
  (.seq
  (.reg 1 [
  ⟨(some 16), .mov (.tmp 14), none⟩,
  ⟨(some 17), .idx 4 (.tmp 12) (.tmp 14), none⟩,
  ⟨(some 18), .load (some 4) (.tmp 17), none⟩,
  ⟨(some 7), .alloc 0 (.agg #[.int .i64 0, .int .i64 0, .int .i64 0, .int .i64 0]), none⟩,
  ⟨(some 6), .mov (.tmp 16), none⟩,
  ⟨none, .store 4 (.tmp 7) (.tmp 18), none⟩])
  (.seq
  (.tail 11 0 [
  ⟨(some 19), .mov (.tmp 5), none⟩,
  ⟨(some 20), .fld 0 (.tmp 7), none⟩,
  ⟨(some 21), .load none (.tmp 20), none⟩,
  ⟨(some 22), .idx 1 (.tmp 19) (.tmp 21), none⟩,
  ⟨(some 23), .load none (.tmp 22), none⟩,
  ⟨(some 24), .mov (.tmp 1), none⟩,
  ⟨(some 25), .mov (.tmp 6), none⟩,
  ⟨(some 26), .idx 1 (.tmp 24) (.tmp 25), none⟩,
  ⟨(some 27), .load none (.tmp 26), none⟩,
  ⟨(some 28), .bin .add true (.tmp 23) (.tmp 27), none⟩,
  ⟨(some 29), .idx 1 (.tmp 19) (.tmp 21), none⟩,
  ⟨none, .store 1 (.tmp 29) (.tmp 28), none⟩])
  (.tail 11 0 [
  ⟨(some 30), .mov (.tmp 5), none⟩,
  ⟨(some 31), .fld 1 (.tmp 7), none⟩,
  ⟨(some 32), .load none (.tmp 31), none⟩,
  ⟨(some 33), .idx 1 (.tmp 30) (.tmp 32), none⟩,
  ⟨(some 34), .load none (.tmp 33), none⟩,
  ⟨(some 35), .mov (.tmp 1), none⟩,
  ⟨(some 36), .mov (.tmp 6), none⟩,
  ⟨(some 37), .idx 1 (.tmp 35) (.tmp 36), none⟩,
  ⟨(some 38), .load none (.tmp 37), none⟩,
  ⟨(some 39), .bin .sub true (.tmp 34) (.tmp 38), none⟩,
  ⟨(some 40), .idx 1 (.tmp 30) (.tmp 32), none⟩,
  ⟨none, .store 1 (.tmp 40) (.tmp 39), none⟩]))))
  (.reg 0 [
  ⟨(some 41), .bin .add true (.tmp 14) (.const (.int .i64 1)), none⟩,
  ⟨(some 14), .mov (.tmp 41), none⟩])))))))
  (.seq
  (.reg 0 [
  ⟨(some 42), .mov (.tmp 5), none⟩,
  ⟨(some 4), .mov (.tmp 42), none⟩])
  .ret))))

def c40 : LCode :=
  (.seq
  (.reg 0 [
  ⟨(some 4), .mov (.const (.bool false)), none⟩])
  (.seq
  (.reg 0 [
  ⟨(some 5), .mov (.tmp 0), none⟩,
  ⟨(some 6), .mov (.tmp 1), none⟩,
  ⟨(some 7), .call 46 [(.tmp 5), (.tmp 6)], none⟩,
  ⟨(some 8), .bin .geq false (.tmp 7) (.const (.int .i64 0)), none⟩,
  ⟨(some 4), .mov (.tmp 8), none⟩])
  .ret))

def c41 : LCode :=
  (.seq
  (.reg 0 [
  ⟨(some 2), .mov (.const (.bool false)), none⟩])
  (.seq
  (.reg 0 [
  ⟨(some 3), .mov (.tmp 0), none⟩,
  ⟨(some 4), .bin .gtr false (.tmp 3) (.const (.int .i64 1073741824)), none⟩,
  ⟨(some 5), .mov (.tmp 4), none⟩,
  ⟨(some 6), .mov (.tmp 0), (some (5, false))⟩,
  ⟨(some 7), .bin .lss false (.tmp 6) (.const (.int .i64 (-1073741824))), (some (5, false))⟩,
  ⟨(some 8), .pick (.tmp 5) (.const (.bool true)) (.tmp 7), none⟩,
  ⟨(some 2), .mov (.tmp 8), none⟩])
  .ret))

def c42 : LCode :=
  (.seq
  (.reg 0 [
  ⟨(some 2), .mov (.const (.slice none 0 0)), none⟩])
  (.seq
  (.seq
  (.reg 0 [
  ⟨(some 3), .mov (.tmp 0), none⟩,
  ⟨(some 4), .eqn false (.tmp 3) (.const (.slice none 0 0)), none⟩])
  (.cond (.tmp 4)
  (.seq
  (.reg 0 [
  ⟨(some 2), .mov (.const (.slice none 0 0)), none⟩])
  .ret)
  .skip))
  (.seq
  (.reg 2 [
  ⟨(some 5), .lits 0 4 0 [.int .i64 0, .int .i64 0, .int .i64 0, .int .i64 0] [], none⟩,
  ⟨(some 6), .mov (.tmp 0), none⟩,
  ⟨(some 7), .append 1 4 32 (.tmp 5) (.tmp 6), none⟩,
  ⟨(some 2), .mov (.tmp 7), none⟩])
  .ret)))

def c43 : LCode :=
  (.seq
  (.reg 0 [
  ⟨(some 4), .mov (.const (.slice none 0 0)), none⟩])
  (.seq
  (.seq
  (.reg 0 [
  ⟨(some 9), .mov (.tmp 1), none⟩,
  ⟨(some 10), .bin .lss false (.tmp 9) (.const (.int .i64 0)), none⟩])
  (.cond (.tmp 10)
  (.reg 0 [
  ⟨(some 11), .bad, none⟩,
  ⟨none, .bad, none⟩])
  .skip))
  (.seq
  (.reg 0 [
  ⟨(some 13), .mov (.tmp 0), none⟩,
  ⟨(some 14), .len (.tmp 13), none⟩,
  ⟨(some 15), .conv false .u64 (.tmp 14), none⟩,
  ⟨(some 16), .mov (.tmp 1), none⟩,
  ⟨(some 17), .conv false .u64 (.tmp 16), none⟩,
  ⟨(some 18), .call 58 [(.tmp 15), (.tmp 17)], none⟩,
  ⟨(some 12), .mov (.tmp 18), none⟩,
  ⟨(some 19), .ext (.tmp 12) 0, none⟩,
  ⟨(some 20), .ext (.tmp 12) 1, none⟩,
  ⟨(some 5), .mov (.tmp 19), none⟩,
  ⟨(some 6), .mov (.tmp 20), none⟩])
  (.seq
  (.seq
  (.reg 0 [
  ⟨(some 21), .mov (.tmp 5), none⟩,
  ⟨(some 22), .bin .gtr false (.tmp 21) (.const (.int .u64 0)), none⟩,
  ⟨(some 23), .mov (.tmp 22), none⟩,
  ⟨(some 24), .mov (.tmp 6), (some (23, false))⟩,
  ⟨(some 25), .bin .gtr false (.tmp 24) (.const (.int .u64 9223372036854775807)), (some (23, false))⟩,
  ⟨(some 26), .pick (.tmp 23) (.const (.bool true)) (.tmp 25), none⟩])
  (.cond (.tmp 26)
  (.reg 0 [
  ⟨(some 27), .bad, none⟩,
  ⟨none, .bad, none⟩])
  .skip))
  (.seq
  (.reg 1 [
  ⟨(some 28), .mov (.tmp 6), none⟩,
  ⟨(some 29), .conv false .i64 (.tmp 28), none⟩,
  ⟨(some 30), .mk 0 1 1 [.bool false] (.tmp 29) (.tmp 29), none⟩,
  ⟨(some 7), .mov (.tmp 30), none⟩])
  (.seq
  (.reg 0 [
  ⟨(some 31), .mov (.tmp 7), none⟩,
  ⟨(some 32), .mov (.tmp 0), none⟩,
  ⟨(some 33), .copy 1 (.tmp 31) (.tmp 32), none⟩,
  ⟨(some 8), .mov (.tmp 33), none⟩])
  (.seq
  (.block 0
  (.loop
  (.seq
  (.seq
  (.reg 0 [
  ⟨(some 34), .mov (.tmp 8), none⟩,
  ⟨(some 35), .mov (.tmp 7), none⟩,
  ⟨(some 36), .len (.tmp 35), none⟩,
  ⟨(some 37), .bin .lss false (.tmp 34) (.tmp 36), none⟩])
  (.cond (.tmp 37)
  .skip
  (.exit 0)))
  (.block 1
  (.tree 0
  (.take 0 [8, 9] ⟨(some 38), .mov (.tmp 8), none⟩
  (.take 1 [3, 7, 8, 9] ⟨(some 39), .mov (.tmp 7), none⟩
  (.take 2 [3, 7, 8, 9] ⟨(some 40), .mov (.tmp 8), none⟩
  (.take 3 [7, 8, 9] ⟨(some 41), .slice 1 (.tmp 39) (some (.tmp 40)) none none, none⟩
  (.take 4 [6, 7, 8, 9] ⟨(some 42), .mov (.tmp 7), none⟩
  (.take 5 [6, 7, 8, 9] ⟨(some 43), .mov (.tmp 8), none⟩
  (.take 6 [7, 8, 9] ⟨(some 44), .slice 1 (.tmp 42) none (some (.tmp 43)) none, none⟩
  (.alt 7 ⟨(some 45), .copy 1 (.tmp 41) (.tmp 44), none⟩ false
  (.take 8 [9] ⟨(some 46), .bin .add true (.tmp 38) (.tmp 45), none⟩
  (.take 9 [] ⟨(some 8), .mov (.tmp 46), none⟩
  .done))
  .none)))))))))))))
  (.seq
  (.reg 0 [
  ⟨(some 47), .mov (.tmp 7), none⟩,
  ⟨(some 4), .mov (.tmp 47), none⟩])
  .ret))))))))

def c44 : LCode :=
  (.seq
  (.reg 1 [
  ⟨(some 2), .box 0 (.tmp 0), none⟩,
  ⟨(some 4), .mov (.const (.bool false)), none⟩])
  (.seq
  (.seq
  (.reg 0 [
  ⟨(some 5), .mov (.const (.int .i64 0)), none⟩])
  (.block 0
  (.loop
  (.seq
  (.seq
  (.reg 0 [
  ⟨(some 6), .mov (.tmp 5), none⟩,
  ⟨(some 7), .mov (.tmp 1), none⟩,
  ⟨(some 8), .len (.tmp 7), none⟩,
  ⟨(some 9), .bin .lss false (.tmp 6) (.tmp 8), none⟩])
  (.cond (.tmp 9)
  .skip
  (.exit 0)))
  (.seq
  (.block 1
  (.seq
  (.reg 0 [
  ⟨(some 12), .mov (.tmp 1), none⟩,
  ⟨(some 13), .mov (.tmp 5), none⟩,
  ⟨(some 14), .idx 1 (.tmp 12) (.tmp 13), none⟩,
  ⟨(some 15), .load none (.tmp 14), none⟩,
  ⟨(some 16), .bin .gtr false (.tmp 15) (.const (.int .i64 1073741824)), none⟩,
  ⟨(some 17), .mov (.tmp 16), none⟩,
  ⟨(some 18), .mov (.tmp 1), (some (17, false))⟩,
  ⟨(some 19), .mov (.tmp 5), (some (17, false))⟩,
  ⟨(some 20), .idx 1 (.tmp 18) (.tmp 19), (some (17, false))⟩,
  ⟨(some 21), .load none (.tmp 20), (some (17, false))⟩,
  ⟨(some 22), .bin .lss false (.tmp 21) (.const (.int .i64 (-1073741824))), (some (17, false))⟩,
  ⟨(some 23), .pick (.tmp 17) (.const (.bool true)) (.tmp 22), none⟩])
  (.cond (.tmp 23)
  (.seq
  (.reg 0 [
  ⟨(some 4), .mov (.const (.bool false)), none⟩])
  .ret)
  .skip)))
  (.reg 0 [
  ⟨(some 10), .mov (.tmp 5), none⟩,
  ⟨(some 11), .bin .add true (.tmp 10) (.const (.int .i64 1)), none⟩,
  ⟨(some 5), .mov (.tmp 11), none⟩]))))))
  (.seq
  (.reg 0 [
  ⟨(some 24), .mov (.tmp 1), none⟩,
  ⟨(some 25), .len (.tmp 24), none⟩,
  ⟨(some 26), .fld 0 (.tmp 2), none⟩,
  ⟨(some 27), .load none (.tmp 26), none⟩,
  ⟨(some 28), .bin .eql false (.tmp 25) (.tmp 27), none⟩,
  ⟨(some 4), .mov (.tmp 28), none⟩])
  .ret)))

def c45 : LCode :=
  (.seq
  (.reg 0 [
  ⟨(some 2), .mov (.const (.slice none 0 0)), none⟩])
  (.seq
  (.seq
  (.reg 0 [
  ⟨(some 3), .mov (.tmp 0), none⟩,
  ⟨(some 4), .eqn false (.tmp 3) (.const (.slice none 0 0)), none⟩])
  (.cond (.tmp 4)
  (.seq
  (.reg 0 [
  ⟨(some 2), .mov (.const (.slice none 0 0)), none⟩])
  .ret)
  .skip))
  (.seq
  (.reg 2 [
  ⟨(some 5), .lits 0 1 0 [.int .i64 0] [], none⟩,
  ⟨(some 6), .mov (.tmp 0), none⟩,
  ⟨(some 7), .append 1 1 8 (.tmp 5) (.tmp 6), none⟩,
  ⟨(some 2), .mov (.tmp 7), none⟩])
  .ret)))

def c46 : LCode :=
  (.seq
  (.reg 0 [
  ⟨(some 4), .mov (.const (.int .i64 0)), none⟩])
  (.seq
  (.seq
  (.reg 0 [
  ⟨(some 6), .mov (.tmp 0), none⟩,
  ⟨(some 7), .len (.tmp 6), none⟩,
  ⟨(some 8), .mov (.const (.int .i64 0)), none⟩])
  (.block 0
  (.loop
  (.seq
  (.reg 0 [
  ⟨(some 9), .bin .lss false (.tmp 8) (.tmp 7), none⟩])
  (.seq
  (.cond (.tmp 9)
  .skip
  (.exit 0))
  (.seq
  (.block 1
  (.seq
  (.reg 0 [
  ⟨(some 10), .mov (.tmp 8), none⟩,
  ⟨(some 5), .mov (.tmp 10), none⟩])
  (.seq
  (.reg 0 [
  ⟨(some 11), .mov (.tmp 1), none⟩,
  ⟨(some 12), .mov (.tmp 0), none⟩,
  ⟨(some 13), .mov (.tmp 5), none⟩,
  ⟨(some 14), .idx 1 (.tmp 12) (.tmp 13), none⟩,
  ⟨(some 15), .load none (.tmp 14), none⟩,
  ⟨(some 16), .callv (.tmp 11) [(.tmp 15)], none⟩])
  (.cond (.tmp 16)
  (.seq
  (.reg 0 [
  ⟨(some 17), .mov (.tmp 5), none⟩,
  ⟨(some 4), .mov (.tmp 17), none⟩])
  .ret)
  .skip))))
  (.reg 0 [
  ⟨(some 18), .bin .add true (.tmp 8) (.const (.int .i64 1)), none⟩,
  ⟨(some 8), .mov (.tmp 18), none⟩])))))))
  (.seq
  (.reg 0 [
  ⟨(some 4), .mov (.const (.int .i64 (-1))), none⟩])
  .ret)))

def c47 : LCode :=
  (.seq
  (.reg 0 [
  ⟨(some 3), .mov (.const (.bool false)), none⟩])
  (.seq
  (.reg 0 [
  ⟨(some 4), .load none (.tmp 1), none⟩,
  ⟨(some 5), .mov (.tmp 0), none⟩,
  ⟨(some 6), .idx 1 (.tmp 4) (.tmp 5), none⟩,
  ⟨(some 7), .load none (.tmp 6), none⟩,
  ⟨(some 8), .bin .gtr false (.tmp 7) (.const (.int .i64 0)), none⟩,
  ⟨(some 3), .mov (.tmp 8), none⟩])
  .ret))

def c48 : LCode :=
  (.seq
  (.reg 0 [
  ⟨(some 4), .mov (.const (.bool false)), none⟩])
  (.seq
  (.qui 0 [
  ⟨(some 5), .fld 1 (.tmp 1), none⟩,
  ⟨(some 6), .load none (.tmp 5), none⟩,
  ⟨(some 7), .mov (.tmp 0), none⟩,
  ⟨(some 8), .idx 4 (.tmp 6) (.tmp 7), none⟩,
  ⟨(some 9), .fld 0 (.tmp 8), none⟩,
  ⟨(some 10), .load none (.tmp 9), none⟩,
  ⟨(some 11), .load none (.tmp 2), none⟩,
  ⟨(some 12), .bin .eql false (.tmp 10) (.tmp 11), none⟩,
  ⟨(some 4), .mov (.tmp 12), none⟩])
  .ret))

def c49 : LCode :=
  (.seq
  (.reg 0 [
  ⟨(some 4), .mov (.const (.int .i64 0)), none⟩])
  (.seq
  (.reg 0 [
  ⟨(some 10), .mov (.tmp 0), none⟩,
  ⟨(some 11), .mov (.tmp 1), none⟩,
  ⟨(some 12), .idx 1 (.tmp 11) (.const (.int .i64 0)), none⟩,
  ⟨(some 13), .load none (.tmp 12), none⟩,
  ⟨(some 14), .idx 1 (.tmp 10) (.tmp 13), none⟩,
  ⟨(some 15), .load none (.tmp 14), none⟩,
  ⟨(some 5), .mov (.tmp 15), none⟩])
  (.seq
  (.seq
  (.reg 0 [
  ⟨(some 16), .mov (.tmp 1), none⟩,
  ⟨(some 17), .len (.tmp 16), none⟩,
  ⟨(some 18), .mov (.const (.int .i64 0)), none⟩])
  (.block 0
  (.loop
  (.seq
  (.reg 0 [
  ⟨(some 19), .bin .lss false (.tmp 18) (.tmp 17), none⟩])
  (.seq
  (.cond (.tmp 19)
  .skip
  (.exit 0))
  (.seq
  (.block 1
  (.seq
  (.reg 0 [
  ⟨(some 20), .idx 1 (.tmp 16) (.tmp 18), none⟩,
  ⟨(some 21), .load none (.tmp 20), none⟩,
  ⟨(some 7), .mov (.tmp 21), none⟩])
  (.reg 0 [
  ⟨(some 22), .mov (.tmp 5), none⟩,
  ⟨(some 23), .mov (.tmp 0), none⟩,
  ⟨(some 24), .mov (.tmp 7), none⟩,
  ⟨(some 25), .idx 1 (.tmp 23) (.tmp 24), none⟩,
  ⟨(some 26), .load none (.tmp 25), none⟩,
  ⟨(some 27), .minmax false (.tmp 22) (.tmp 26), none⟩,
  ⟨(some 5), .mov (.tmp 27), none⟩])))
  (.reg 0 [
  ⟨(some 28), .bin .add true (.tmp 18) (.const (.int .i64 1)), none⟩,
  ⟨(some 18), .mov (.tmp 28), none⟩])))))))
  (.seq
  (.seq
  (.reg 0 [
  ⟨(some 29), .mov (.tmp 1), none⟩,
  ⟨(some 30), .len (.tmp 29), none⟩,
  ⟨(some 31), .mov (.const (.int .i64 0)), none⟩])
  (.block 2
  (.loop
  (.seq
  (.reg 0 [
  ⟨(some 32), .bin .lss false (.tmp 31) (.tmp 30), none⟩])
  (.seq
  (.cond (.tmp 32)
  .skip
  (.exit 2))
  (.seq
  (.block 3
  (.seq
  (.reg 0 [
  ⟨(some 33), .idx 1 (.tmp 29) (.tmp 31), none⟩,
  ⟨(some 34), .load none (.tmp 33), none⟩,
  ⟨(some 9), .mov (.tmp 34), none⟩])
  (.reg 0 [
  ⟨(some 35), .mov (.tmp 0), none⟩,
  ⟨(some 36), .mov (.tmp 9), none⟩,
  ⟨(some 37), .idx 1 (.tmp 35) (.tmp 36), none⟩,
  ⟨(some 38), .load none (.tmp 37), none⟩,
  ⟨(some 39), .mov (.tmp 5), none⟩,
  ⟨(some 40), .bin .sub true (.tmp 38) (.tmp 39), none⟩,
  ⟨(some 41), .idx 1 (.tmp 35) (.tmp 36), none⟩,
  ⟨none, .store 1 (.tmp 41) (.tmp 40), none⟩])))
  (.reg 0 [
  ⟨(some 42), .bin .add true (.tmp 31) (.const (.int .i64 1)), none⟩,
  ⟨(some 31), .mov (.tmp 42), none⟩])))))))
  (.seq
  (.reg 0 [
  ⟨(some 43), .mov (.tmp 5), none⟩,
  ⟨(some 4), .mov (.tmp 43), none⟩])
  .ret)))))

def c50l0 : LCode :=
  .seq
  (.seq
  (.reg 0 [
  ⟨(some 14), .mov (.tmp 10), none⟩,
  ⟨(some 15), .mov (.tmp 2), none⟩,
  ⟨(some 16), .bin .neq false (.tmp 14) (.tmp 15), none⟩])
  (.cond (.tmp 16)
  .skip
  (.exit 0)))
  (.block 1
  (.seq
  (.reg 0 [
  ⟨(some 17), .load (some 2) (.tmp 4), none⟩,
  ⟨(some 18), .mov (.tmp 3), none⟩,
  ⟨(some 19), .mov (.tmp 10), none⟩,
  ⟨(some 20), .call 59 [(.tmp 17), (.tmp 18), (.tmp 19)], none⟩,
  ⟨(some 11), .mov (.tmp 20), none⟩])
  (.seq
  (.seq
  (.reg 0 [
  ⟨(some 21), .mov (.tmp 11), none⟩,
  ⟨(some 22), .bin .lss false (.tmp 21) (.const (.int .i64 0)), none⟩])
  (.cond (.tmp 22)
  (.seq
  (.reg 0 [
  ⟨(some 8), .mov (.const (.slice none 0 0)), none⟩])
  .ret)
  .skip))
  (.seq
  (.reg 2 [
  ⟨(some 23), .mov (.tmp 9), none⟩,
  ⟨(some 24), .mov (.tmp 11), none⟩,
  ⟨(some 25), .lits 0 1 1 [.int .i64 0] [(0, (.tmp 24))], none⟩,
  ⟨(some 26), .append 1 1 8 (.tmp 23) (.tmp 25), none⟩,
  ⟨(some 9), .mov (.tmp 26), none⟩])
  (.seq
  (.reg 0 [
  ⟨(some 27), .fld 1 (.tmp 4), none⟩,
  ⟨(some 28), .load none (.tmp 27), none⟩,
  ⟨(some 29), .mov (.tmp 11), none⟩,
  ⟨(some 30), .idx 4 (.tmp 28) (.tmp 29), none⟩,
  ⟨(some 31), .fld 1 (.tmp 30), none⟩,
  ⟨(some 32), .load none (.tmp 31), none⟩,
  ⟨(some 10), .mov (.tmp 32), none⟩])
  (.seq
  (.reg 0 [
  ⟨(some 33), .load (some 2) (.tmp 4), none⟩,
  ⟨(some 34), .mov (.tmp 9), none⟩,
  ⟨(some 35), .mov (.tmp 10), none⟩,
  ⟨(some 36), .call 60 [(.tmp 33), (.tmp 34), (.tmp 35)], none⟩,
  ⟨(some 12), .mov (.tmp 36), none⟩])
  (.seq
  (.reg 0 [
  ⟨(some 37), .mov (.tmp 12), none⟩,
  ⟨(some 38), .bin .geq false (.tmp 37) (.const (.int .i64 0)), none⟩])
  (.cond (.tmp 38)
  (.seq
  (.reg 0 [
  ⟨(some 39), .mov (.tmp 3), none⟩,
  ⟨(some 40), .mov (.tmp 9), none⟩,
  ⟨(some 41), .mov (.tmp 12), none⟩,
  ⟨(some 42), .slice 1 (.tmp 40) (some (.tmp 41)) none none, none⟩,
  ⟨(some 43), .call 51 [(.tmp 39), (.tmp 42)], none⟩])
  (.seq
  (.reg 0 [
  ⟨(some 9), .mov (.const (.slice none 0 0)), none⟩])
  (.reg 0 [
  ⟨(some 44), .mov (.tmp 1), none⟩,
  ⟨(some 10), .mov (.tmp 44), none⟩])))
  .skip))))))))

def c50 : LCode :=
  (.seq
  (.reg 1 [
  ⟨(some 4), .box 0 (.tmp 0), none⟩,
  ⟨(some 8), .mov (.const (.slice none 0 0)), none⟩])
  (.seq
  (.reg 0 [
  ⟨(some 9), .mov (.const (.slice none 0 0)), none⟩])
  (.seq
  (.reg 0 [
  ⟨(some 13), .mov (.tmp 1), none⟩,
  ⟨(some 10), .mov (.tmp 13), none⟩])
  (.seq
  (.block 0
  (.loop c50l0))
  (.seq
  (.reg 0 [
  ⟨(some 45), .mov (.tmp 9), none⟩,
  ⟨(some 8), .mov (.tmp 45), none⟩])
  .ret)))))

def c51 : LCode :=
  (.seq
  (.reg 0 [
  ⟨(some 4), .mov (.const (.int .i64 0)), none⟩])
  (.seq
  (.reg 0 [
  ⟨(some 8), .mov (.tmp 0), none⟩,
  ⟨(some 9), .mov (.tmp 1), none⟩,
  ⟨(some 10), .idx 1 (.tmp 9) (.const (.int .i64 0)), none⟩,
  ⟨(some 11), .load none (.tmp 10), none⟩,
  ⟨(some 12), .idx 1 (.tmp 8) (.tmp 11), none⟩,
  ⟨(some 13), .load none (.tmp 12), none⟩,
  ⟨(some 5), .mov (.tmp 13), none⟩])
  (.seq
  (.seq
  (.reg 0 [
  ⟨(some 6), .mov (.const (.int .i64 0)), none⟩])
  (.block 0
  (.loop
  (.seq
  (.seq
  (.reg 0 [
  ⟨(some 14), .mov (.tmp 6), none⟩,
  ⟨(some 15), .mov (.tmp 1), none⟩,
  ⟨(some 16), .len (.tmp 15), none⟩,
  ⟨(some 17), .bin .lss false (.tmp 14) (.tmp 16), none⟩])
  (.cond (.tmp 17)
  .skip
  (.exit 0)))
  (.seq
  (.block 1
  (.reg 0 [
  ⟨(some 20), .mov (.tmp 5), none⟩,
  ⟨(some 21), .mov (.tmp 0), none⟩,
  ⟨(some 22), .mov (.tmp 1), none⟩,
  ⟨(some 23), .mov (.tmp 6), none⟩,
  ⟨(some 24), .idx 1 (.tmp 22) (.tmp 23), none⟩,
  ⟨(some 25), .load none (.tmp 24), none⟩,
  ⟨(some 26), .idx 1 (.tmp 21) (.tmp 25), none⟩,
  ⟨(some 27), .load none (.tmp 26), none⟩,
  ⟨(some 28), .minmax false (.tmp 20) (.tmp 27), none⟩,
  ⟨(some 5), .mov (.tmp 28), none⟩]))
  (.reg 0 [
  ⟨(some 18), .mov (.tmp 6), none⟩,
  ⟨(some 19), .bin .add true (.tmp 18) (.const (.int .i64 1)), none⟩,
  ⟨(some 6), .mov (.tmp 19), none⟩]))))))
  (.seq
  (.seq
  (.reg 0 [
  ⟨(some 7), .mov (.const (.int .i64 0)), none⟩])
  (.block 2
  (.loop
  (.seq
  (.seq
  (.reg 0 [
  ⟨(some 29), .mov (.tmp 7), none⟩,
  ⟨(some 30), .mov (.tmp 1), none⟩,
  ⟨(some 31), .len (.tmp 30), none⟩,
  ⟨(some 32), .bin .lss false (.tmp 29) (.tmp 31), none⟩])
  (.cond (.tmp 32)
  .skip
  (.exit 2)))
  (.seq
  (.block 3
  (.tail 15 0 [
  ⟨(some 35), .mov (.tmp 0), none⟩,
  ⟨(some 36), .mov (.tmp 1), none⟩,
  ⟨(some 37), .mov (.tmp 7), none⟩,
  ⟨(some 38), .idx 1 (.tmp 36) (.tmp 37), none⟩,
  ⟨(some 39), .load none (.tmp 38), none⟩,
  ⟨(some 40), .mov (.tmp 0), none⟩,
  ⟨(some 41), .mov (.tmp 1), none⟩,
  ⟨(some 42), .mov (.tmp 7), none⟩,
  ⟨(some 43), .idx 1 (.tmp 41) (.tmp 42), none⟩,
  ⟨(some 44), .load none (.tmp 43), none⟩,
  ⟨(some 45), .idx 1 (.tmp 40) (.tmp 44), none⟩,
  ⟨(some 46), .load none (.tmp 45), none⟩,
  ⟨(some 47), .mov (.tmp 5), none⟩,
  ⟨(some 48), .bin .sub true (.tmp 46) (.tmp 47), none⟩,
  ⟨(some 49), .idx 1 (.tmp 35) (.tmp 39), none⟩,
  ⟨none, .store 1 (.tmp 49) (.tmp 48), none⟩]))
  (.reg 0 [
  ⟨(some 33), .mov (.tmp 7), none⟩,
  ⟨(some 34), .bin .add true (.tmp 33) (.const (.int .i64 1)), none⟩,
  ⟨(some 7), .mov (.tmp 34), none⟩]))))))
  (.seq
  (.reg 0 [
  ⟨(some 50), .mov (.tmp 5), none⟩,
  ⟨(some 4), .mov (.tmp 50), none⟩])
  .ret)))))

def c52 : LCode :=
  (.seq
  (.reg 0 [
  ⟨(some 4), .mov (.const (.bool false)), none⟩])
  (.seq
  (.reg 0 [
  ⟨(some 5), .mov (.tmp 0), none⟩,
  ⟨(some 6), .mov (.tmp 1), none⟩,
  ⟨(some 7), .call 61 [(.tmp 5), (.tmp 6)], none⟩,
  ⟨(some 8), .bin .geq false (.tmp 7) (.const (.int .i64 0)), none⟩,
  ⟨(some 4), .mov (.tmp 8), none⟩])
  .ret))

def c53 : LCode :=
  (.seq
  (.reg 1 [
  ⟨(some 2), .box 0 (.tmp 0), none⟩,
  ⟨(some 3), .mov (.const (.bool false)), none⟩])
  (.seq
  (.reg 0 [
  ⟨(some 4), .fld 0 (.tmp 2), none⟩,
  ⟨(some 5), .load none (.tmp 4), none⟩,
  ⟨(some 6), .fld 1 (.tmp 2), none⟩,
  ⟨(some 7), .load none (.tmp 6), none⟩,
  ⟨(some 8), .minmax false (.tmp 5) (.tmp 7), none⟩,
  ⟨(some 9), .bin .lss false (.tmp 8) (.const (.int .i64 0)), none⟩,
  ⟨(some 10), .mov (.tmp 9), none⟩,
  ⟨(some 11), .fld 0 (.tmp 2), (some (10, false))⟩,
  ⟨(some 12), .load none (.tmp 11), (some (10, false))⟩,
  ⟨(some 13), .fld 1 (.tmp 2), (some (10, false))⟩,
  ⟨(some 14), .load none (.tmp 13), (some (10, false))⟩,
  ⟨(some 15), .minmax true (.tmp 12) (.tmp 14), (some (10, false))⟩,
  ⟨(some 16), .fld 0 (.tmp 1), (some (10, false))⟩,
  ⟨(some 17), .load none (.tmp 16), (some (10, false))⟩,
  ⟨(some 18), .bin .geq false (.tmp 15) (.tmp 17), (some (10, false))⟩,
  ⟨(some 19), .pick (.tmp 10) (.const (.bool true)) (.tmp 18), none⟩,
  ⟨(some 20), .mov (.tmp 19), none⟩,
  ⟨(some 21), .fld 0 (.tmp 2), (some (20, false))⟩,
  ⟨(some 22), .load none (.tmp 21), (some (20, false))⟩,
  ⟨(some 23), .fld 1 (.tmp 2), (some (20, false))⟩,
  ⟨(some 24), .load none (.tmp 23), (some (20, false))⟩,
  ⟨(some 25), .bin .eql false (.tmp 22) (.tmp 24), (some (20, false))⟩,
  ⟨(some 26), .pick (.tmp 20) (.const (.bool true)) (.tmp 25), none⟩,
  ⟨(some 27), .mov (.tmp 26), none⟩,
  ⟨(some 28), .fld 2 (.tmp 2), (some (27, false))⟩,
  ⟨(some 29), .load none (.tmp 28), (some (27, false))⟩,
  ⟨(some 30), .bin .lss false (.tmp 29) (.const (.int .i64 0)), (some (27, false))⟩,
  ⟨(some 31), .pick (.tmp 27) (.const (.bool true)) (.tmp 30), none⟩,
  ⟨(some 32), .mov (.tmp 31), none⟩,
  ⟨(some 33), .fld 2 (.tmp 2), (some (32, false))⟩,
  ⟨(some 34), .load none (.tmp 33), (some (32, false))⟩,
  ⟨(some 35), .bin .gtr false (.tmp 34) (.const (.int .i64 1073741824)), (some (32, false))⟩,
  ⟨(some 36), .pick (.tmp 32) (.const (.bool true)) (.tmp 35), none⟩,
  ⟨(some 3), .mov (.tmp 36), none⟩])
  .ret))

def c54l0 : LCode :=
  .seq
  (.seq
  (.reg 0 [
  ⟨(some 8), .mov (.tmp 6), none⟩,
  ⟨(some 9), .load none (.tmp 2), none⟩,
  ⟨(some 10), .bin .neq false (.tmp 8) (.tmp 9), none⟩])
  (.cond (.tmp 10)
  .skip
  (.exit 0)))
  (.seq
  (.block 1
  (.reg 0 [
  ⟨(some 19), .mov (.tmp 0), none⟩,
  ⟨(some 20), .load none (.tmp 4), none⟩,
  ⟨(some 21), .mov (.tmp 6), none⟩,
  ⟨(some 22), .lookup (.int .i64) (.int .i64 0) false (.tmp 20) (.tmp 21), none⟩,
  ⟨(some 23), .callv (.tmp 19) [(.tmp 22)], none⟩]))
  (.reg 0 [
  ⟨(some 11), .fld 1 (.tmp 3), none⟩,
  ⟨(some 12), .load none (.tmp 11), none⟩,
  ⟨(some 13), .load none (.tmp 4), none⟩,
  ⟨(some 14), .mov (.tmp 6), none⟩,
  ⟨(some 15), .lookup (.int .i64) (.int .i64 0) false (.tmp 13) (.tmp 14), none⟩,
  ⟨(some 16), .idx 4 (.tmp 12) (.tmp 15), none⟩,
  ⟨(some 17), .fld 0 (.tmp 16), none⟩,
  ⟨(some 18), .load none (.tmp 17), none⟩,
  ⟨(some 6), .mov (.tmp 18), none⟩]))

def c54 : LCode :=
  (.seq
  (.reg 0 [
  ⟨(some 7), .load none (.tmp 1), none⟩,
  ⟨(some 6), .mov (.tmp 7), none⟩])
  (.block 0
  (.loop c54l0)))

def c55 : LCode :=
  (.tail 8 0 [
  ⟨(some 4), .load none (.tmp 1), none⟩,
  ⟨(some 5), .fld 1 (.tmp 2), none⟩,
  ⟨(some 6), .load none (.tmp 5), none⟩,
  ⟨(some 7), .mov (.tmp 0), none⟩,
  ⟨(some 8), .idx 4 (.tmp 6) (.tmp 7), none⟩,
  ⟨(some 9), .fld 2 (.tmp 8), none⟩,
  ⟨(some 10), .load none (.tmp 9), none⟩,
  ⟨(some 11), .minmax false (.tmp 4) (.tmp 10), none⟩,
  ⟨none, .store 1 (.tmp 1) (.tmp 11), none⟩])

def c56 : LCode :=
  (.seq
  (.tail 10 0 [
  ⟨(some 4), .fld 1 (.tmp 1), none⟩,
  ⟨(some 5), .load none (.tmp 4), none⟩,
  ⟨(some 6), .mov (.tmp 0), none⟩,
  ⟨(some 7), .idx 4 (.tmp 5) (.tmp 6), none⟩,
  ⟨(some 8), .fld 2 (.tmp 7), none⟩,
  ⟨(some 9), .load none (.tmp 8), none⟩,
  ⟨(some 10), .load none (.tmp 2), none⟩,
  ⟨(some 11), .bin .sub true (.tmp 9) (.tmp 10), none⟩,
  ⟨(some 12), .idx 4 (.tmp 5) (.tmp 6), none⟩,
  ⟨(some 13), .fld 2 (.tmp 12), none⟩,
  ⟨none, .store 1 (.tmp 13) (.tmp 11), none⟩])
  (.tail 11 0 [
  ⟨(some 14), .fld 1 (.tmp 1), none⟩,
  ⟨(some 15), .load none (.tmp 14), none⟩,
  ⟨(some 16), .mov (.tmp 0), none⟩,
  ⟨(some 17), .bin .xor false (.tmp 16) (.const (.int .i64 1)), none⟩,
  ⟨(some 18), .idx 4 (.tmp 15) (.tmp 17), none⟩,
  ⟨(some 19), .fld 2 (.tmp 18), none⟩,
  ⟨(some 20), .load none (.tmp 19), none⟩,
  ⟨(some 21), .load none (.tmp 2), none⟩,
  ⟨(some 22), .bin .add true (.tmp 20) (.tmp 21), none⟩,
  ⟨(some 23), .idx 4 (.tmp 15) (.tmp 17), none⟩,
  ⟨(some 24), .fld 2 (.tmp 23), none⟩,
  ⟨none, .store 1 (.tmp 24) (.tmp 22), none⟩]))

def c57 : LCode :=
  (.seq
  (.reg 2 [
  ⟨(some 2), .box 0 (.tmp 0), none⟩,
  ⟨(some 4), .alloc 1 (.agg #[.slice none 0 0]), none⟩])
  (.seq
  (.reg 1 [
  ⟨(some 11), .fld 0 (.tmp 2), none⟩,
  ⟨(some 12), .load none (.tmp 11), none⟩,
  ⟨(some 13), .mk 0 1 8 [.int .i64 0] (.tmp 12) (.tmp 12), none⟩,
  ⟨(some 5), .mov (.tmp 13), none⟩])
  (.seq
  (.seq
  (.reg 0 [
  ⟨(some 6), .mov (.const (.int .i64 0)), none⟩])
  (.block 0
  (.loop
  (.seq
  (.seq
  (.reg 0 [
  ⟨(some 14), .mov (.tmp 6), none⟩,
  ⟨(some 15), .fld 0 (.tmp 2), none⟩,
  ⟨(some 16), .load none (.tmp 15), none⟩,
  ⟨(some 17), .bin .lss false (.tmp 14) (.tmp 16), none⟩])
  (.cond (.tmp 17)
  .skip
  (.exit 0)))
  (.seq
  (.block 1
  (.reg 0 [
  ⟨(some 20), .mov (.tmp 5), none⟩,
  ⟨(some 21), .mov (.tmp 6), none⟩,
  ⟨(some 22), .idx 1 (.tmp 20) (.tmp 21), none⟩,
  ⟨none, .store 1 (.tmp 22) (.const (.int .i64 (-2))), none⟩]))
  (.reg 0 [
  ⟨(some 18), .mov (.tmp 6), none⟩,
  ⟨(some 19), .bin .add true (.tmp 18) (.const (.int .i64 1)), none⟩,
  ⟨(some 6), .mov (.tmp 19), none⟩]))))))
  (.seq
  (.reg 0 [
  ⟨(some 23), .mov (.tmp 5), none⟩,
  ⟨(some 24), .mov (.tmp 1), none⟩,
  ⟨(some 25), .idx 1 (.tmp 23) (.tmp 24), none⟩,
  ⟨none, .store 1 (.tmp 25) (.const (.int .i64 (-1))), none⟩])
  (.seq
  (.reg 1 [
  ⟨(some 26), .mov (.tmp 1), none⟩,
  ⟨(some 27), .lits 0 1 1 [.int .i64 0] [(0, (.tmp 26))], none⟩,
  ⟨(some 7), .mov (.tmp 27), none⟩])
  (.seq
  (.block 2
  (.loop
  (.seq
  (.seq
  (.reg 0 [
  ⟨(some 28), .mov (.tmp 7), none⟩,
  ⟨(some 29), .len (.tmp 28), none⟩,
  ⟨(some 30), .bin .gtr false (.tmp 29) (.const (.int .i64 0)), none⟩])
  (.cond (.tmp 30)
  .skip
  (.exit 2)))
  (.block 3
  (.seq
  (.reg 0 [
  ⟨(some 31), .mov (.tmp 7), none⟩,
  ⟨(some 32), .idx 1 (.tmp 31) (.const (.int .i64 0)), none⟩,
  ⟨(some 33), .load none (.tmp 32), none⟩,
  ⟨(some 8), .mov (.tmp 33), none⟩])
  (.seq
  (.reg 0 [
  ⟨(some 34), .mov (.tmp 7), none⟩,
  ⟨(some 35), .slice 1 (.tmp 34) (some (.const (.int .i64 1))) none none, none⟩,
  ⟨(some 7), .mov (.tmp 35), none⟩])
  (.seq
  (.reg 0 [
  ⟨(some 9), .mov (.const (.int .i64 0)), none⟩])
  (.block 4
  (.loop
  (.seq
  (.seq
  (.reg 0 [
  ⟨(some 36), .mov (.tmp 9), none⟩,
  ⟨(some 37), .fld 1 (.tmp 2), none⟩,
  ⟨(some 38), .load none (.tmp 37), none⟩,
  ⟨(some 39), .len (.tmp 38), none⟩,
  ⟨(some 40), .bin .lss false (.tmp 36) (.tmp 39), none⟩])
  (.cond (.tmp 40)
  .skip
  (.exit 4)))
  (.seq
  (.block 5
  (.seq
  (.reg 1 [
  ⟨(some 43), .fld 1 (.tmp 2), none⟩,
  ⟨(some 44), .load none (.tmp 43), none⟩,
  ⟨(some 45), .mov (.tmp 9), none⟩,
  ⟨(some 46), .idx 4 (.tmp 44) (.tmp 45), none⟩,
  ⟨(some 47), .load (some 4) (.tmp 46), none⟩,
  ⟨(some 10), .alloc 0 (.agg #[.int .i64 0, .int .i64 0, .int .i64 0, .int .i64 0]), none⟩,
  ⟨none, .store 4 (.tmp 10) (.tmp 47), none⟩])
  (.seq
  (.reg 0 [
  ⟨(some 48), .fld 0 (.tmp 10), none⟩,
  ⟨(some 49), .load none (.tmp 48), none⟩,
  ⟨(some 50), .mov (.tmp 8), none⟩,
  ⟨(some 51), .bin .eql false (.tmp 49) (.tmp 50), none⟩,
  ⟨(some 52), .mov (.tmp 51), none⟩,
  ⟨(some 53), .fld 2 (.tmp 10), (some (52, true))⟩,
  ⟨(some 54), .load none (.tmp 53), (some (52, true))⟩,
  ⟨(some 55), .bin .gtr false (.tmp 54) (.const (.int .i64 0)), (some (52, true))⟩,
  ⟨(some 56), .pick (.tmp 52) (.tmp 55) (.const (.bool false)), none⟩,
  ⟨(some 57), .mov (.tmp 56), none⟩,
  ⟨(some 58), .mov (.tmp 5), (some (57, true))⟩,
  ⟨(some 59), .fld 1 (.tmp 10), (some (57, true))⟩,
  ⟨(some 60), .load none (.tmp 59), (some (57, true))⟩,
  ⟨(some 61), .idx 1 (.tmp 58) (.tmp 60), (some (57, true))⟩,
  ⟨(some 62), .load none (.tmp 61), (some (57, true))⟩,
  ⟨(some 63), .bin .eql false (.tmp 62) (.const (.int .i64 (-2))), (some (57, true))⟩,
  ⟨(some 64), .pick (.tmp 57) (.tmp 63) (.const (.bool false)), none⟩])
  (.cond (.tmp 64)
  (.seq
  (.reg 0 [
  ⟨(some 65), .mov (.tmp 5), none⟩,
  ⟨(some 66), .fld 1 (.tmp 10), none⟩,
  ⟨(some 67), .load none (.tmp 66), none⟩,
  ⟨(some 68), .mov (.tmp 9), none⟩,
  ⟨(some 69), .idx 1 (.tmp 65) (.tmp 67), none⟩,
  ⟨none, .store 1 (.tmp 69) (.tmp 68), none⟩])
  (.reg 2 [
  ⟨(some 70), .mov (.tmp 7), none⟩,
  ⟨(some 71), .fld 1 (.tmp 10), none⟩,
  ⟨(some 72), .load none (.tmp 71), none⟩,
  ⟨(some 73), .lits 0 1 1 [.int .i64 0] [(0, (.tmp 72))], none⟩,
  ⟨(some 74), .append 1 1 8 (.tmp 70) (.tmp 73), none⟩,
  ⟨(some 7), .mov (.tmp 74), none⟩]))
  .skip))))
  (.reg 0 [
  ⟨(some 41), .mov (.tmp 9), none⟩,
  ⟨(some 42), .bin .add true (.tmp 41) (.const (.int .i64 1)), none⟩,
  ⟨(some 9), .mov (.tmp 42), none⟩]))))))))))))
  (.seq
  (.reg 0 [
  ⟨(some 75), .mov (.tmp 5), none⟩,
  ⟨(some 76), .build [.slice none 0 0] [(0, 1, (.tmp 75))], none⟩,
  ⟨none, .store 1 (.tmp 4) (.tmp 76), none⟩])
  .ret)))))))

def c58 : LCode :=
  (.seq
  (.reg 0 [
  ⟨(some 4), .mov (.const (.int .u64 0)), none⟩,
  ⟨(some 5), .mov (.const (.int .u64 0)), none⟩])
  (.seq
  (.cond (.const (.bool false))
  (.seq
  (.reg 0 [
  ⟨(some 11), .mov (.tmp 0), none⟩,
  ⟨(some 12), .conv false .u32 (.tmp 11), none⟩,
  ⟨(some 13), .mov (.tmp 1), none⟩,
  ⟨(some 14), .conv false .u32 (.tmp 13), none⟩,
  ⟨(some 15), .call 62 [(.tmp 12), (.tmp 14)], none⟩,
  ⟨(some 10), .mov (.tmp 15), none⟩,
  ⟨(some 16), .ext (.tmp 10) 0, none⟩,
  ⟨(some 17), .ext (.tmp 10) 1, none⟩,
  ⟨(some 6), .mov (.tmp 16), none⟩,
  ⟨(some 7), .mov (.tmp 17), none⟩])
  (.seq
  (.reg 0 [
  ⟨(some 18), .mov (.tmp 6), none⟩,
  ⟨(some 19), .conv true .u64 (.tmp 18), none⟩,
  ⟨(some 20), .mov (.tmp 7), none⟩,
  ⟨(some 21), .conv true .u64 (.tmp 20), none⟩,
  ⟨(some 4), .mov (.tmp 19), none⟩,
  ⟨(some 5), .mov (.tmp 21), none⟩])
  .ret))
  .skip)
  (.seq
  (.reg 0 [
  ⟨(some 23), .mov (.tmp 0), none⟩,
  ⟨(some 24), .mov (.tmp 1), none⟩,
  ⟨(some 25), .call 63 [(.tmp 23), (.tmp 24)], none⟩,
  ⟨(some 22), .mov (.tmp 25), none⟩,
  ⟨(some 26), .ext (.tmp 22) 0, none⟩,
  ⟨(some 27), .ext (.tmp 22) 1, none⟩,
  ⟨(some 8), .mov (.tmp 26), none⟩,
  ⟨(some 9), .mov (.tmp 27), none⟩])
  (.seq
  (.reg 0 [
  ⟨(some 28), .mov (.tmp 8), none⟩,
  ⟨(some 29), .mov (.tmp 9), none⟩,
  ⟨(some 4), .mov (.tmp 28), none⟩,
  ⟨(some 5), .mov (.tmp 29), none⟩])
  .ret))))

def c59 : LCode :=
  (.seq
  (.reg 1 [
  ⟨(some 3), .box 0 (.tmp 0), none⟩,
  ⟨(some 6), .mov (.const (.int .i64 0)), none⟩])
  (.seq
  (.seq
  (.reg 0 [
  ⟨(some 7), .mov (.const (.int .i64 0)), none⟩])
  (.block 0
  (.loop
  (.seq
  (.seq
  (.reg 0 [
  ⟨(some 8), .mov (.tmp 7), none⟩,
  ⟨(some 9), .fld 1 (.tmp 3), none⟩,
  ⟨(some 10), .load none (.tmp 9), none⟩,
  ⟨(some 11), .len (.tmp 10), none⟩,
  ⟨(some 12), .bin .lss false (.tmp 8) (.tmp 11), none⟩])
  (.cond (.tmp 12)
  .skip
  (.exit 0)))
  (.seq
  (.block 1
  (.seq
  (.reg 0 [
  ⟨(some 15), .fld 1 (.tmp 3), none⟩,
  ⟨(some 16), .load none (.tmp 15), none⟩,
  ⟨(some 17), .mov (.tmp 7), none⟩,
  ⟨(some 18), .idx 4 (.tmp 16) (.tmp 17), none⟩,
  ⟨(some 19), .fld 0 (.tmp 18), none⟩,
  ⟨(some 20), .load none (.tmp 19), none⟩,
  ⟨(some 21), .mov (.tmp 2), none⟩,
  ⟨(some 22), .bin .eql false (.tmp 20) (.tmp 21), none⟩,
  ⟨(some 23), .mov (.tmp 22), none⟩,
  ⟨(some 24), .mov (.tmp 1), (some (23, true))⟩,
  ⟨(some 25), .mov (.tmp 7), (some (23, true))⟩,
  ⟨(some 26), .idx 1 (.tmp 24) (.tmp 25), (some (23, true))⟩,
  ⟨(some 27), .load none (.tmp 26), (some (23, true))⟩,
  ⟨(some 28), .bin .gtr false (.tmp 27) (.const (.int .i64 0)), (some (23, true))⟩,
  ⟨(some 29), .pick (.tmp 23) (.tmp 28) (.const (.bool false)), none⟩])
  (.cond (.tmp 29)
  (.seq
  (.reg 0 [
  ⟨(some 30), .mov (.tmp 7), none⟩,
  ⟨(some 6), .mov (.tmp 30), none⟩])
  .ret)
  .skip)))
  (.reg 0 [
  ⟨(some 13), .mov (.tmp 7), none⟩,
  ⟨(some 14), .bin .add true (.tmp 13) (.const (.int .i64 1)), none⟩,
  ⟨(some 7), .mov (.tmp 14), none⟩]))))))
  (.seq
  (.reg 0 [
  ⟨(some 6), .mov (.const (.int .i64 (-1))), none⟩])
  .ret)))

def c60 : LCode :=
  (.seq
  (.reg 1 [
  ⟨(some 3), .box 0 (.tmp 0), none⟩,
  ⟨(some 6), .mov (.const (.int .i64 0)), none⟩])
  (.seq
  (.seq
  (.reg 0 [
  ⟨(some 7), .mov (.const (.int .i64 0)), none⟩])
  (.block 0
  (.loop
  (.seq
  (.seq
  (.reg 0 [
  ⟨(some 8), .mov (.tmp 7), none⟩,
  ⟨(some 9), .mov (.tmp 1), none⟩,
  ⟨(some 10), .len (.tmp 9), none⟩,
  ⟨(some 11), .bin .lss false (.tmp 8) (.tmp 10), none⟩])
  (.cond (.tmp 11)
  .skip
  (.exit 0)))
  (.seq
  (.block 1
  (.seq
  (.qui 0 [
  ⟨(some 14), .fld 1 (.tmp 3), none⟩,
  ⟨(some 15), .load none (.tmp 14), none⟩,
  ⟨(some 16), .mov (.tmp 1), none⟩,
  ⟨(some 17), .mov (.tmp 7), none⟩,
  ⟨(some 18), .idx 1 (.tmp 16) (.tmp 17), none⟩,
  ⟨(some 19), .load none (.tmp 18), none⟩,
  ⟨(some 20), .idx 4 (.tmp 15) (.tmp 19), none⟩,
  ⟨(some 21), .fld 0 (.tmp 20), none⟩,
  ⟨(some 22), .load none (.tmp 21), none⟩,
  ⟨(some 23), .mov (.tmp 2), none⟩,
  ⟨(some 24), .bin .eql false (.tmp 22) (.tmp 23), none⟩])
  (.cond (.tmp 24)
  (.seq
  (.reg 0 [
  ⟨(some 25), .mov (.tmp 7), none⟩,
  ⟨(some 6), .mov (.tmp 25), none⟩])
  .ret)
  .skip)))
  (.reg 0 [
  ⟨(some 12), .mov (.tmp 7), none⟩,
  ⟨(some 13), .bin .add true (.tmp 12) (.const (.int .i64 1)), none⟩,
  ⟨(some 7), .mov (.tmp 13), none⟩]))))))
  (.seq
  (.reg 0 [
  ⟨(some 6), .mov (.const (.int .i64 (-1))), none⟩])
  .ret)))

def c61 : LCode :=
  (.seq
  (.reg 0 [
  ⟨(some 4), .mov (.const (.int .i64 0)), none⟩])
  (.seq
  (.seq
  (.reg 0 [
  ⟨(some 6), .mov (.tmp 0), none⟩,
  ⟨(some 7), .len (.tmp 6), none⟩,
  ⟨(some 8), .mov (.const (.int .i64 0)), none⟩])
  (.block 0
  (.loop
  (.seq
  (.reg 0 [
  ⟨(some 9), .bin .lss false (.tmp 8) (.tmp 7), none⟩])
  (.seq
  (.cond (.tmp 9)
  .skip
  (.exit 0))
  (.seq
  (.block 1
  (.seq
  (.reg 0 [
  ⟨(some 10), .mov (.tmp 8), none⟩,
  ⟨(some 5), .mov (.tmp 10), none⟩])
  (.seq
  (.reg 0 [
  ⟨(some 11), .mov (.tmp 1), none⟩,
  ⟨(some 12), .mov (.tmp 0), none⟩,
  ⟨(some 13), .mov (.tmp 5), none⟩,
  ⟨(some 14), .idx 4 (.tmp 12) (.tmp 13), none⟩,
  ⟨(some 15), .load (some 4) (.tmp 14), none⟩,
  ⟨(some 16), .callv (.tmp 11) [(.tmp 15)], none⟩])
  (.cond (.tmp 16)
  (.seq
  (.reg 0 [
  ⟨(some 17), .mov (.tmp 5), none⟩,
  ⟨(some 4), .mov (.tmp 17), none⟩])
  .ret)
  .skip))))
  (.reg 0 [
  ⟨(some 18), .bin .add true (.tmp 8) (.const (.int .i64 1)), none⟩,
  ⟨(some 8), .mov (.tmp 18), none⟩])))))))
  (.seq
  (.reg 0 [
  ⟨(some 4), .mov (.const (.int .i64 (-1))), none⟩])
  .ret)))

def c62 : LCode :=
  (.seq
  (.reg 0 [
  ⟨(some 4), .mov (.const (.int .u32 0)), none⟩,
  ⟨(some 5), .mov (.const (.int .u32 0)), none⟩])
  (.seq
  (.reg 0 [
  ⟨(some 7), .mov (.tmp 0), none⟩,
  ⟨(some 8), .conv true .u64 (.tmp 7), none⟩,
  ⟨(some 9), .mov (.tmp 1), none⟩,
  ⟨(some 10), .conv true .u64 (.tmp 9), none⟩,
  ⟨(some 11), .bin .mul true (.tmp 8) (.tmp 10), none⟩,
  ⟨(some 6), .mov (.tmp 11), none⟩])
  (.seq
  (.reg 0 [
  ⟨(some 12), .mov (.tmp 6), none⟩,
  ⟨(some 13), .shift .shr (.tmp 12) (.const (.int .u64 32)), none⟩,
  ⟨(some 14), .conv false .u32 (.tmp 13), none⟩,
  ⟨(some 15), .mov (.tmp 6), none⟩,
  ⟨(some 16), .conv false .u32 (.tmp 15), none⟩,
  ⟨(some 4), .mov (.tmp 14), none⟩,
  ⟨(some 5), .mov (.tmp 16), none⟩])
  .ret)))

def c63 : LCode :=
  (.seq
  (.reg 0 [
  ⟨(some 4), .mov (.const (.int .u64 0)), none⟩,
  ⟨(some 5), .mov (.const (.int .u64 0)), none⟩])
  (.seq
  (.reg 0 [
  ⟨(some 14), .mov (.tmp 0), none⟩,
  ⟨(some 15), .bin .and false (.tmp 14) (.const (.int .u64 4294967295)), none⟩,
  ⟨(some 6), .mov (.tmp 15), none⟩])
  (.seq
  (.reg 0 [
  ⟨(some 16), .mov (.tmp 0), none⟩,
  ⟨(some 17), .shift .shr (.tmp 16) (.const (.int .u64 32)), none⟩,
  ⟨(some 7), .mov (.tmp 17), none⟩])
  (.seq
  (.reg 0 [
  ⟨(some 18), .mov (.tmp 1), none⟩,
  ⟨(some 19), .bin .and false (.tmp 18) (.const (.int .u64 4294967295)), none⟩,
  ⟨(some 8), .mov (.tmp 19), none⟩])
  (.seq
  (.reg 0 [
  ⟨(some 20), .mov (.tmp 1), none⟩,
  ⟨(some 21), .shift .shr (.tmp 20) (.const (.int .u64 32)), none⟩,
  ⟨(some 9), .mov (.tmp 21), none⟩])
  (.seq
  (.reg 0 [
  ⟨(some 22), .mov (.tmp 6), none⟩,
  ⟨(some 23), .mov (.tmp 8), none⟩,
  ⟨(some 24), .bin .mul true (.tmp 22) (.tmp 23), none⟩,
  ⟨(some 10), .mov (.tmp 24), none⟩])
  (.seq
  (.reg 0 [
  ⟨(some 25), .mov (.tmp 7), none⟩,
  ⟨(some 26), .mov (.tmp 8), none⟩,
  ⟨(some 27), .bin .mul true (.tmp 25) (.tmp 26), none⟩,
  ⟨(some 28), .mov (.tmp 10), none⟩,
  ⟨(some 29), .shift .shr (.tmp 28) (.const (.int .u64 32)), none⟩,
  ⟨(some 30), .bin .add true (.tmp 27) (.tmp 29), none⟩,
  ⟨(some 11), .mov (.tmp 30), none⟩])
  (.seq
  (.reg 0 [
  ⟨(some 31), .mov (.tmp 11), none⟩,
  ⟨(some 32), .bin .and false (.tmp 31) (.const (.int .u64 4294967295)), none⟩,
  ⟨(some 12), .mov (.tmp 32), none⟩])
  (.seq
  (.reg 0 [
  ⟨(some 33), .mov (.tmp 11), none⟩,
  ⟨(some 34), .shift .shr (.tmp 33) (.const (.int .u64 32)), none⟩,
  ⟨(some 13), .mov (.tmp 34), none⟩])
  (.seq
  (.reg 0 [
  ⟨(some 35), .mov (.tmp 12), none⟩,
  ⟨(some 36), .mov (.tmp 6), none⟩,
  ⟨(some 37), .mov (.tmp 9), none⟩,
  ⟨(some 38), .bin .mul true (.tmp 36) (.tmp 37), none⟩,
  ⟨(some 39), .bin .add true (.tmp 35) (.tmp 38), none⟩,
  ⟨(some 12), .mov (.tmp 39), none⟩])
  (.seq
  (.reg 0 [
  ⟨(some 40), .mov (.tmp 7), none⟩,
  ⟨(some 41), .mov (.tmp 9), none⟩,
  ⟨(some 42), .bin .mul true (.tmp 40) (.tmp 41), none⟩,
  ⟨(some 43), .mov (.tmp 13), none⟩,
  ⟨(some 44), .bin .add true (.tmp 42) (.tmp 43), none⟩,
  ⟨(some 45), .mov (.tmp 12), none⟩,
  ⟨(some 46), .shift .shr (.tmp 45) (.const (.int .u64 32)), none⟩,
  ⟨(some 47), .bin .add true (.tmp 44) (.tmp 46), none⟩,
  ⟨(some 4), .mov (.tmp 47), none⟩])
  (.seq
  (.reg 0 [
  ⟨(some 48), .mov (.tmp 0), none⟩,
  ⟨(some 49), .mov (.tmp 1), none⟩,
  ⟨(some 50), .bin .mul true (.tmp 48) (.tmp 49), none⟩,
  ⟨(some 5), .mov (.tmp 50), none⟩])
  .ret))))))))))))

def tbl : List (Option Ent) := [
  none,
  none,
  none,
  some ⟨c3, [.tmp 6], 46, false⟩,
  some ⟨c4, [.tmp 10], 117, false⟩,
  some ⟨c5, [.tmp 4], 42, false⟩,
  some ⟨c6, [.tmp 6], 142, false⟩,
  some ⟨c7, [.tmp 8], 50, false⟩,
  some ⟨c8, [.tmp 10], 106, false⟩,
  some ⟨c9, [.tmp 6], 22, false⟩,
  some ⟨c10, [.tmp 0], 123, false⟩,
  some ⟨c11, [.tmp 6, .tmp 7, .tmp 8], 25, false⟩,
  some ⟨c12, [.cell 6 (some 3)], 17, false⟩,
  some ⟨c13, [.tmp 4], 26, false⟩,
  some ⟨c14, [.tmp 4], 26, false⟩,
  some ⟨c15, [.tmp 6], 13, false⟩,
  some ⟨c16, [.tmp 10], 47, false⟩,
  some ⟨c17, [.tmp 8], 77, false⟩,
  some ⟨c18, [.tmp 4], 34, false⟩,
  some ⟨c19, [.tmp 4, .tmp 5, .tmp 6], 104, false⟩,
  some ⟨c20, [.cell 4 (some 3)], 127, false⟩,
  some ⟨c21, [.tmp 4], 36, false⟩,
  some ⟨c22, [.tmp 8, .tmp 9, .tmp 10], 126, false⟩,
  some ⟨c23, [.cell 8 (some 3)], 54, false⟩,
  some ⟨c24, [.tmp 4], 29, false⟩,
  some ⟨c25, [.tmp 2], 22, false⟩,
  some ⟨c26, [.tmp 2], 70, false⟩,
  some ⟨c27, [.tmp 8], 55, false⟩,
  some ⟨c28, [.tmp 10], 47, false⟩,
  some ⟨c29, [.tmp 4], 44, false⟩,
  some ⟨c30, [.tmp 6], 45, false⟩,
  some ⟨c31, [.tmp 4], 38, false⟩,
  some ⟨c32, [.cell 4 (some 2)], 52, false⟩,
  some ⟨c33, [.cell 4 (some 2)], 55, false⟩,
  some ⟨c34, [.cell 0 (some 2)], 8, false⟩,
  some ⟨c35, [.tmp 6], 24, false⟩,
  some ⟨c36, [.tmp 6, .tmp 7], 159, false⟩,
  some ⟨c37, [.tmp 6], 30, false⟩,
  some ⟨c38, [.cell 6 (some 3)], 129, false⟩,
  some ⟨c39, [.tmp 4], 43, false⟩,
  some ⟨c40, [.tmp 4], 9, false⟩,
  some ⟨c41, [.tmp 2], 9, false⟩,
  some ⟨c42, [.tmp 2], 8, false⟩,
  some ⟨c43, [.tmp 4], 48, false⟩,
  some ⟨c44, [.tmp 4], 29, false⟩,
  some ⟨c45, [.tmp 2], 8, false⟩,
  some ⟨c46, [.tmp 4], 19, false⟩,
  some ⟨c47, [.tmp 3], 9, false⟩,
  some ⟨c48, [.tmp 4], 13, false⟩,
  some ⟨c49, [.tmp 4], 44, false⟩,
  some ⟨c50, [.tmp 8], 46, false⟩,
  some ⟨c51, [.tmp 4], 51, false⟩,
  some ⟨c52, [.tmp 4], 9, false⟩,
  some ⟨c53, [.tmp 3], 37, false⟩,
  some ⟨c54, [], 24, false⟩,
  some ⟨c55, [], 12, false⟩,
  some ⟨c56, [], 25, false⟩,
  some ⟨c57, [.cell 4 (some 1)], 77, false⟩,
  some ⟨c58, [.tmp 4, .tmp 5], 30, false⟩,
  some ⟨c59, [.tmp 6], 31, false⟩,
  some ⟨c60, [.tmp 6], 26, false⟩,
  some ⟨c61, [.tmp 4], 19, false⟩,
  some ⟨c62, [.tmp 4, .tmp 5], 17, false⟩,
  some ⟨c63, [.tmp 4, .tmp 5], 51, false⟩]
end Go.Fx.F
