import Derived.Test.YtjijbjnelflcfaaGreatJLow
import Derived.Test.YtjijbjnelflcfaaGreatTZ
import Derived.Test.YtjijbjnelflcfaaGreatJCode
set_option linter.unusedVariables false
set_option linter.unusedSimpArgs false
set_option linter.unusedSectionVars false
open Bool renaming true_and → yA
open List renaming take_succ_cons → yB, drop_succ_cons → yC, getElem_mem → yD, take_of_length_le → yE, mem_append → yF, take → yG, map_cons → yH, map_nil → yI, length_append → yJ, mem_map → yK, getElem_of_mem → yL, getElem?_eq_getElem → yM, getElem?_cons_succ → yP, map_append → yQ, nodup_append → yS, mem_cons_self → yU, length_take → yV, mem_cons → yW, any_eq_true → yX, mem_cons_of_mem → yY, getD_eq_getElem?_getD → vA, mem_of_mem_take → vB, length_map → vC, take_append_drop → vD, mem_filter → vF, getD_cons_succ → vG, getD_cons_zero → vH, take_succ_eq_append_getElem → vJ, length_eq_zero_iff → vK, map_set → vM, pairwise_iff_getElem → vO, getElem_take → vP, getElem_drop → vQ, length_drop → vR, mem_singleton → vU, findIdx_lt_length → vV, take_length → vW, mem_map_of_mem → vX, drop_eq_getElem_cons → vY, sum_cons → uA, length_cons → uB, map_map → uC, mem_of_mem_drop → uD, getElem?_append_right → uF, map_take → uG, map_drop → uH, mem_filterMap → uJ, append_nil → uK, pairwise_cons → uL, pairwise_map → uM, sum_append → uN, filter_cons → uO, length_singleton → uP, getElem_append_left → uQ, replicate_succ → uR, getElem?_append_left → uS, getElem_append → uT, filterMap_append → uU, length_filterMap_le → uV, length_take_of_le → uW, pairwise_append → uX, mem_or_eq_of_mem_set → uY, getElem_set_self → uZ, filterMap_cons → xA
open Nat renaming lt_or_ge → yN, le_trans → yO, mul_one → yZ, zero_le → vI, mod_lt → vT, lt_trichotomy → uE
open Int renaming natCast_zero → yT, toNat → vE, tmod_eq_emod_of_nonneg → vL, le_refl → vS
open Option renaming getD_some → vN
open Option.some renaming inj → vZ
open List.Pairwise renaming imp_of_mem → uI
namespace Go.Fx.J
open Go Go.Fx Go.Proofs
set_option maxRecDepth 20000
def c10f : LCode :=
 (.seq
 (.reg 2 [
 ⟨(some 4), .box 0 (.tmp 0), none⟩,
 ⟨(some 8), .alloc 1 (.agg #[.int .i64 0, .slice none 0 0]), none⟩,
 ⟨(some 9), .mov (.const (.slice none 0 0)), none⟩,
 ⟨(some 10), .mov (.const (.int .i64 0)), none⟩])
 (.seq
 (.seq
 (.reg 0 [
 ⟨(some 19), .mov (.tmp 1), none⟩,
 ⟨(some 20), .lens (.tmp 19), none⟩,
 ⟨(some 21), .bin .gtr false (.tmp 20) (.const (.int .i64 4096)), none⟩,
 ⟨(some 22), .mov (.tmp 21), none⟩,
 ⟨(some 23), .mov (.tmp 3), (some (22, false))⟩,
 ⟨(some 24), .call 37 [(.tmp 23)], (some (22, false))⟩,
 ⟨(some 25), .not (.tmp 24), (some (22, false))⟩,
 ⟨(some 26), .pick (.tmp 22) (.const (.bool true)) (.tmp 25), none⟩,
 ⟨(some 27), .mov (.tmp 26), none⟩,
 ⟨(some 28), .mov (.tmp 3), (some (27, false))⟩,
 ⟨(some 29), .len (.tmp 28), (some (27, false))⟩,
 ⟨(some 30), .bin .eql false (.tmp 29) (.const (.int .i64 0)), (some (27, false))⟩,
 ⟨(some 31), .pick (.tmp 27) (.const (.bool true)) (.tmp 30), none⟩])
 (.cond (.tmp 31)
 (.seq
 (.reg 0 [
 ⟨(some 32), .load (some 2) (.tmp 4), none⟩,
 ⟨none, .store 2 (.tmp 8) (.tmp 32), none⟩,
 ⟨(some 9), .mov (.const (.slice none 0 0)), none⟩,
 ⟨(some 10), .mov (.const (.int .i64 1)), none⟩])
 .ret)
 .skip))
 (.seq
 (.reg 0 [
 ⟨(some 34), .load (some 2) (.tmp 4), none⟩,
 ⟨(some 35), .mov (.tmp 1), none⟩,
 ⟨(some 36), .call 38 [(.tmp 34), (.tmp 35)], none⟩,
 ⟨(some 33), .mov (.tmp 36), none⟩,
 ⟨(some 37), .ext (.tmp 33) 0, none⟩,
 ⟨(some 38), .ext (.tmp 33) 1, none⟩,
 ⟨(some 11), .mov (.tmp 37), none⟩,
 ⟨(some 12), .mov (.tmp 38), none⟩])
 (.seq
 (.reg 1 [
 ⟨(some 39), .load (some 2) (.tmp 4), none⟩,
 ⟨(some 13), .alloc 0 (.agg #[.int .i64 0, .slice none 0 0]), none⟩,
 ⟨none, .store 2 (.tmp 13) (.tmp 39), none⟩])
 (.seq
 (.seq
 (.reg 0 [
 ⟨(some 40), .mov (.tmp 12), none⟩,
 ⟨(some 41), .not (.tmp 40), none⟩])
 (.cond (.tmp 41)
 (.seq
 (.seq
 (.reg 0 [
 ⟨(some 42), .fld 1 (.tmp 4), none⟩,
 ⟨(some 43), .load none (.tmp 42), none⟩,
 ⟨(some 44), .len (.tmp 43), none⟩,
 ⟨(some 45), .bin .geq false (.tmp 44) (.const (.int .i64 1000)), none⟩])
 (.cond (.tmp 45)
 (.seq
 (.reg 0 [
 ⟨(some 46), .load (some 2) (.tmp 4), none⟩,
 ⟨none, .store 2 (.tmp 8) (.tmp 46), none⟩,
 ⟨(some 9), .mov (.const (.slice none 0 0)), none⟩,
 ⟨(some 10), .mov (.const (.int .i64 2)), none⟩])
 .ret)
 .skip))
 (.reg 1 [
 ⟨(some 47), .fld 1 (.tmp 4), none⟩,
 ⟨(some 48), .load none (.tmp 47), none⟩,
 ⟨(some 49), .call 40 [(.tmp 48)], none⟩,
 ⟨(some 50), .mov (.tmp 11), none⟩,
 ⟨(some 51), .mov (.tmp 1), none⟩,
 ⟨(some 52), .build [.string ⟨#[]⟩, .slice none 0 0, .slice none 0 0] [(0, 1, (.tmp 51))], none⟩,
 ⟨(some 53), .lits 0 3 1 [.string ⟨#[]⟩, .slice none 0 0, .slice none 0 0] [(0, (.tmp 52))], none⟩,
 ⟨(some 54), .call 39 [(.tmp 49), (.tmp 50), (.tmp 53)], none⟩,
 ⟨(some 55), .fld 1 (.tmp 13), none⟩,
 ⟨none, .store 1 (.tmp 55) (.tmp 54), none⟩]))
 .skip))
 (.seq
 (.reg 0 [
 ⟨(some 57), .load (some 2) (.tmp 13), none⟩,
 ⟨(some 58), .mov (.tmp 11), none⟩,
 ⟨(some 59), .call 41 [(.tmp 57), (.tmp 58)], none⟩,
 ⟨(some 56), .mov (.tmp 59), none⟩,
 ⟨(some 60), .ext (.tmp 56) 0, none⟩,
 ⟨(some 61), .ext (.tmp 56) 1, none⟩,
 ⟨none, .store 2 (.tmp 13) (.tmp 60), none⟩,
 ⟨(some 14), .mov (.tmp 61), none⟩])
 (.seq
 (.reg 0 [
 ⟨(some 63), .mov (.tmp 14), none⟩,
 ⟨(some 64), .nilc (.tmp 63), none⟩,
 ⟨(some 65), .load (some 3) (.tmp 64), none⟩,
 ⟨(some 66), .mov (.tmp 2), none⟩,
 ⟨(some 67), .call 42 [(.tmp 65), (.tmp 66)], none⟩,
 ⟨(some 62), .mov (.tmp 67), none⟩,
 ⟨(some 68), .ext (.tmp 62) 0, none⟩,
 ⟨(some 69), .ext (.tmp 62) 1, none⟩,
 ⟨(some 15), .mov (.tmp 68), none⟩,
 ⟨(some 16), .mov (.tmp 69), none⟩])
 (.seq
 (.seq
 (.reg 0 [
 ⟨(some 70), .mov (.tmp 16), none⟩])
 (.cond (.tmp 70)
 (.seq
 (.reg 0 [
 ⟨(some 71), .load (some 2) (.tmp 4), none⟩,
 ⟨none, .store 2 (.tmp 8) (.tmp 71), none⟩,
 ⟨(some 9), .mov (.const (.slice none 0 0)), none⟩,
 ⟨(some 10), .mov (.const (.int .i64 6)), none⟩])
 .ret)
 .skip))
 (.seq
 (.reg 0 [
 ⟨(some 72), .mov (.tmp 3), none⟩,
 ⟨(some 73), .mov (.tmp 14), none⟩,
 ⟨(some 74), .nilc (.tmp 73), none⟩,
 ⟨(some 75), .load (some 3) (.tmp 74), none⟩,
 ⟨(some 76), .call 44 [(.tmp 75)], none⟩,
 ⟨(some 77), .call 43 [(.tmp 72), (.tmp 76)], none⟩,
 ⟨(some 17), .mov (.tmp 77), none⟩])
 (.seq
 (.seq
 (.reg 0 [
 ⟨(some 78), .mov (.tmp 14), none⟩,
 ⟨(some 79), .nilc (.tmp 78), none⟩,
 ⟨(some 80), .fld 2 (.tmp 79), none⟩,
 ⟨(some 81), .load none (.tmp 80), none⟩,
 ⟨(some 82), .len (.tmp 81), none⟩,
 ⟨(some 83), .bin .geq false (.tmp 82) (.const (.int .i64 1000)), none⟩,
 ⟨(some 84), .mov (.tmp 83), none⟩,
 ⟨(some 85), .fld 0 (.tmp 4), (some (84, false))⟩,
 ⟨(some 86), .load none (.tmp 85), (some (84, false))⟩,
 ⟨(some 87), .mov (.tmp 17), (some (84, false))⟩,
 ⟨(some 88), .len (.tmp 87), (some (84, false))⟩,
 ⟨(some 89), .bin .sub true (.const (.int .i64 1152921504606846976)) (.tmp 88), (some (84, false))⟩,
 ⟨(some 90), .bin .gtr false (.tmp 86) (.tmp 89), (some (84, false))⟩,
 ⟨(some 91), .pick (.tmp 84) (.const (.bool true)) (.tmp 90), none⟩])
 (.cond (.tmp 91)
 (.seq
 (.reg 0 [
 ⟨(some 92), .load (some 2) (.tmp 4), none⟩,
 ⟨none, .store 2 (.tmp 8) (.tmp 92), none⟩,
 ⟨(some 9), .mov (.const (.slice none 0 0)), none⟩,
 ⟨(some 10), .mov (.const (.int .i64 2)), none⟩])
 .ret)
 .skip))
 (.seq
 (.tree 1
 (.take 0 [12, 13, 14] ⟨(some 93), .mov (.tmp 14), none⟩
 (.take 1 [2, 3, 4, 11, 12, 13, 14] ⟨(some 94), .mov (.tmp 14), none⟩
 (.take 2 [3, 4, 11, 12, 13, 14] ⟨(some 95), .nilc (.tmp 94), none⟩
 (.take 3 [4, 11, 12, 13, 14] ⟨(some 96), .fld 2 (.tmp 95), none⟩
 (.take 4 [11, 12, 13, 14] ⟨(some 97), .load none (.tmp 96), none⟩
 (.take 5 [11, 12, 13, 14] ⟨(some 98), .mov (.tmp 15), none⟩
 (.take 6 [9, 10, 11, 12, 13, 14] ⟨(some 99), .mov (.tmp 2), none⟩
 (.take 7 [8, 9, 10, 11, 12, 13, 14] ⟨(some 100), .mov (.tmp 3), none⟩
 (.alt 8 ⟨(some 101), .call 46 [(.tmp 100)], none⟩ true
 (.take 9 [10, 11, 12, 13, 14] ⟨(some 102), .build [.int .i64 0, .slice none 0 0] [(0, 1, (.tmp 99)), (1, 1, (.tmp 101))], none⟩
 (.alt 10 ⟨(some 103), .litsf [101] 0 2 1 [.int .i64 0, .slice none 0 0] [(0, (.tmp 102))], none⟩ true
 (.alt 11 ⟨(some 104), .call 45 [(.tmp 97), (.tmp 98), (.tmp 103)], none⟩ false
 (.take 12 [13, 14] ⟨(some 105), .nilc (.tmp 93), none⟩
 (.take 13 [14] ⟨(some 106), .fld 2 (.tmp 105), none⟩
 (.alt 14 ⟨none, .store 1 (.tmp 106) (.tmp 104), none⟩ false
 .done
 .none)))
 .none)
 .none))
 .none))))))))))
 (.frz [104] (.seq
 (.reg 0 [
 ⟨(some 107), .mov (.tmp 14), none⟩,
 ⟨(some 108), .mov (.tmp 17), none⟩,
 ⟨(some 109), .call 47 [(.tmp 13), (.tmp 107), (.tmp 108)], none⟩,
 ⟨(some 18), .mov (.tmp 109), none⟩])
 (.seq
 (.reg 0 [
 ⟨(some 110), .load (some 2) (.tmp 13), none⟩,
 ⟨(some 111), .mov (.tmp 18), none⟩,
 ⟨none, .store 2 (.tmp 8) (.tmp 110), none⟩,
 ⟨(some 9), .mov (.tmp 111), none⟩,
 ⟨(some 10), .mov (.const (.int .i64 0)), none⟩])
 .ret))))))))))))))
def c15f : LCode :=
 (.seq
 (.reg 2 [
 ⟨(some 3), .box 0 (.tmp 0), none⟩,
 ⟨(some 6), .alloc 1 (.agg #[.int .i64 0, .slice none 0 0]), none⟩,
 ⟨(some 7), .mov (.const (.slice none 0 0)), none⟩,
 ⟨(some 8), .mov (.const (.int .i64 0)), none⟩])
 (.seq
 (.reg 0 [
 ⟨(some 16), .load (some 2) (.tmp 3), none⟩,
 ⟨(some 17), .mov (.tmp 1), none⟩,
 ⟨(some 18), .call 38 [(.tmp 16), (.tmp 17)], none⟩,
 ⟨(some 15), .mov (.tmp 18), none⟩,
 ⟨(some 19), .ext (.tmp 15) 0, none⟩,
 ⟨(some 20), .ext (.tmp 15) 1, none⟩,
 ⟨(some 9), .mov (.tmp 19), none⟩,
 ⟨(some 10), .mov (.tmp 20), none⟩])
 (.seq
 (.seq
 (.reg 0 [
 ⟨(some 21), .mov (.tmp 10), none⟩,
 ⟨(some 22), .not (.tmp 21), none⟩])
 (.cond (.tmp 22)
 (.seq
 (.reg 0 [
 ⟨(some 23), .load (some 2) (.tmp 3), none⟩,
 ⟨none, .store 2 (.tmp 6) (.tmp 23), none⟩,
 ⟨(some 7), .mov (.const (.slice none 0 0)), none⟩,
 ⟨(some 8), .mov (.const (.int .i64 5)), none⟩])
 .ret)
 .skip))
 (.seq
 (.reg 0 [
 ⟨(some 25), .fld 1 (.tmp 3), none⟩,
 ⟨(some 26), .load none (.tmp 25), none⟩,
 ⟨(some 27), .mov (.tmp 9), none⟩,
 ⟨(some 28), .idx 3 (.tmp 26) (.tmp 27), none⟩,
 ⟨(some 29), .load (some 3) (.tmp 28), none⟩,
 ⟨(some 30), .mov (.tmp 2), none⟩,
 ⟨(some 31), .call 42 [(.tmp 29), (.tmp 30)], none⟩,
 ⟨(some 24), .mov (.tmp 31), none⟩,
 ⟨(some 32), .ext (.tmp 24) 0, none⟩,
 ⟨(some 33), .ext (.tmp 24) 1, none⟩,
 ⟨(some 11), .mov (.tmp 32), none⟩,
 ⟨(some 10), .mov (.tmp 33), none⟩])
 (.seq
 (.seq
 (.reg 0 [
 ⟨(some 34), .mov (.tmp 10), none⟩,
 ⟨(some 35), .not (.tmp 34), none⟩])
 (.cond (.tmp 35)
 (.seq
 (.reg 0 [
 ⟨(some 36), .load (some 2) (.tmp 3), none⟩,
 ⟨none, .store 2 (.tmp 6) (.tmp 36), none⟩,
 ⟨(some 7), .mov (.const (.slice none 0 0)), none⟩,
 ⟨(some 8), .mov (.const (.int .i64 5)), none⟩])
 .ret)
 .skip))
 (.seq
 (.reg 1 [
 ⟨(some 38), .load (some 2) (.tmp 3), none⟩,
 ⟨(some 39), .mov (.tmp 9), none⟩,
 ⟨(some 40), .call 41 [(.tmp 38), (.tmp 39)], none⟩,
 ⟨(some 37), .mov (.tmp 40), none⟩,
 ⟨(some 41), .ext (.tmp 37) 0, none⟩,
 ⟨(some 42), .ext (.tmp 37) 1, none⟩,
 ⟨(some 12), .alloc 0 (.agg #[.int .i64 0, .slice none 0 0]), none⟩,
 ⟨none, .store 2 (.tmp 12) (.tmp 41), none⟩,
 ⟨(some 13), .mov (.tmp 42), none⟩])
 (.seq
 (.reg 0 [
 ⟨(some 43), .mov (.tmp 13), none⟩,
 ⟨(some 44), .mov (.tmp 13), none⟩,
 ⟨(some 45), .nilc (.tmp 44), none⟩,
 ⟨(some 46), .fld 2 (.tmp 45), none⟩,
 ⟨(some 47), .load none (.tmp 46), none⟩,
 ⟨(some 48), .mov (.tmp 11), none⟩,
 ⟨(some 49), .mov (.tmp 11), none⟩,
 ⟨(some 50), .bin .add true (.tmp 49) (.const (.int .i64 1)), none⟩,
 ⟨(some 51), .call 52 [(.tmp 47), (.tmp 48), (.tmp 50)], none⟩,
 ⟨(some 52), .nilc (.tmp 43), none⟩,
 ⟨(some 53), .fld 2 (.tmp 52), none⟩,
 ⟨none, .store 1 (.tmp 53) (.tmp 51), none⟩])
 (.frz [51] (.seq
 (.reg 0 [
 ⟨(some 54), .mov (.tmp 9), none⟩,
 ⟨(some 55), .call 53 [(.tmp 12), (.tmp 54)], none⟩,
 ⟨(some 14), .mov (.tmp 55), none⟩])
 (.seq
 (.reg 0 [
 ⟨(some 56), .load (some 2) (.tmp 12), none⟩,
 ⟨(some 57), .mov (.tmp 14), none⟩,
 ⟨none, .store 2 (.tmp 6) (.tmp 56), none⟩,
 ⟨(some 7), .mov (.tmp 57), none⟩,
 ⟨(some 8), .mov (.const (.int .i64 0)), none⟩])
 .ret))))))))))
def c18f : LCode :=
 (.seq
 (.reg 2 [
 ⟨(some 4), .box 0 (.tmp 0), none⟩,
 ⟨(some 8), .alloc 1 (.agg #[.int .i64 0, .slice none 0 0]), none⟩,
 ⟨(some 9), .mov (.const (.slice none 0 0)), none⟩,
 ⟨(some 10), .mov (.const (.slice none 0 0)), none⟩,
 ⟨(some 11), .mov (.const (.int .i64 0)), none⟩])
 (.seq
 (.reg 0 [
 ⟨(some 26), .load (some 2) (.tmp 4), none⟩,
 ⟨(some 27), .mov (.tmp 1), none⟩,
 ⟨(some 28), .call 38 [(.tmp 26), (.tmp 27)], none⟩,
 ⟨(some 25), .mov (.tmp 28), none⟩,
 ⟨(some 29), .ext (.tmp 25) 0, none⟩,
 ⟨(some 30), .ext (.tmp 25) 1, none⟩,
 ⟨(some 12), .mov (.tmp 29), none⟩,
 ⟨(some 13), .mov (.tmp 30), none⟩])
 (.seq
 (.seq
 (.reg 0 [
 ⟨(some 31), .mov (.tmp 13), none⟩,
 ⟨(some 32), .not (.tmp 31), none⟩,
 ⟨(some 33), .mov (.tmp 32), none⟩,
 ⟨(some 34), .fld 1 (.tmp 4), (some (33, false))⟩,
 ⟨(some 35), .load none (.tmp 34), (some (33, false))⟩,
 ⟨(some 36), .mov (.tmp 12), (some (33, false))⟩,
 ⟨(some 37), .idx 3 (.tmp 35) (.tmp 36), (some (33, false))⟩,
 ⟨(some 38), .load (some 3) (.tmp 37), (some (33, false))⟩,
 ⟨(some 39), .mov (.tmp 2), (some (33, false))⟩,
 ⟨(some 40), .call 54 [(.tmp 38), (.tmp 39)], (some (33, false))⟩,
 ⟨(some 41), .bin .lss false (.tmp 40) (.const (.int .i64 0)), (some (33, false))⟩,
 ⟨(some 42), .pick (.tmp 33) (.const (.bool true)) (.tmp 41), none⟩])
 (.cond (.tmp 42)
 (.seq
 (.reg 0 [
 ⟨(some 43), .load (some 2) (.tmp 4), none⟩,
 ⟨none, .store 2 (.tmp 8) (.tmp 43), none⟩,
 ⟨(some 9), .mov (.const (.slice none 0 0)), none⟩,
 ⟨(some 10), .mov (.const (.slice none 0 0)), none⟩,
 ⟨(some 11), .mov (.const (.int .i64 5)), none⟩])
 .ret)
 .skip))
 (.seq
 (.seq
 (.reg 0 [
 ⟨(some 44), .mov (.tmp 3), none⟩,
 ⟨(some 45), .call 37 [(.tmp 44)], none⟩,
 ⟨(some 46), .not (.tmp 45), none⟩])
 (.cond (.tmp 46)
 (.seq
 (.reg 0 [
 ⟨(some 47), .load (some 2) (.tmp 4), none⟩,
 ⟨none, .store 2 (.tmp 8) (.tmp 47), none⟩,
 ⟨(some 9), .mov (.const (.slice none 0 0)), none⟩,
 ⟨(some 10), .mov (.const (.slice none 0 0)), none⟩,
 ⟨(some 11), .mov (.const (.int .i64 1)), none⟩])
 .ret)
 .skip))
 (.seq
 (.reg 1 [
 ⟨(some 49), .load (some 2) (.tmp 4), none⟩,
 ⟨(some 50), .mov (.tmp 12), none⟩,
 ⟨(some 51), .call 41 [(.tmp 49), (.tmp 50)], none⟩,
 ⟨(some 48), .mov (.tmp 51), none⟩,
 ⟨(some 52), .ext (.tmp 48) 0, none⟩,
 ⟨(some 53), .ext (.tmp 48) 1, none⟩,
 ⟨(some 14), .alloc 0 (.agg #[.int .i64 0, .slice none 0 0]), none⟩,
 ⟨none, .store 2 (.tmp 14) (.tmp 52), none⟩,
 ⟨(some 15), .mov (.tmp 53), none⟩])
 (.seq
 (.reg 0 [
 ⟨(some 54), .mov (.tmp 15), none⟩,
 ⟨(some 55), .nilc (.tmp 54), none⟩,
 ⟨(some 56), .load (some 3) (.tmp 55), none⟩,
 ⟨(some 57), .mov (.tmp 2), none⟩,
 ⟨(some 58), .call 54 [(.tmp 56), (.tmp 57)], none⟩,
 ⟨(some 16), .mov (.tmp 58), none⟩])
 (.seq
 (.reg 1 [
 ⟨(some 59), .mov (.tmp 15), none⟩,
 ⟨(some 60), .nilc (.tmp 59), none⟩,
 ⟨(some 61), .fld 1 (.tmp 60), none⟩,
 ⟨(some 62), .load none (.tmp 61), none⟩,
 ⟨(some 63), .mov (.tmp 16), none⟩,
 ⟨(some 64), .idx 3 (.tmp 62) (.tmp 63), none⟩,
 ⟨(some 65), .fld 1 (.tmp 64), none⟩,
 ⟨(some 66), .load (some 2) (.tmp 65), none⟩,
 ⟨(some 67), .lits 0 2 1 [.int .i64 0, .int .i64 0] [(0, (.tmp 66))], none⟩,
 ⟨(some 17), .mov (.tmp 67), none⟩])
 (.frz [67] (.seq
 (.reg 0 [
 ⟨(some 68), .mov (.tmp 15), none⟩,
 ⟨(some 69), .mov (.tmp 15), none⟩,
 ⟨(some 70), .nilc (.tmp 69), none⟩,
 ⟨(some 71), .fld 1 (.tmp 70), none⟩,
 ⟨(some 72), .load none (.tmp 71), none⟩,
 ⟨(some 73), .mov (.tmp 16), none⟩,
 ⟨(some 74), .mov (.tmp 16), none⟩,
 ⟨(some 75), .bin .add true (.tmp 74) (.const (.int .i64 1)), none⟩,
 ⟨(some 76), .call 55 [(.tmp 72), (.tmp 73), (.tmp 75)], none⟩,
 ⟨(some 77), .nilc (.tmp 68), none⟩,
 ⟨(some 78), .fld 1 (.tmp 77), none⟩,
 ⟨none, .store 1 (.tmp 78) (.tmp 76), none⟩])
 (.seq
 (.reg 0 [
 ⟨(some 79), .mov (.tmp 17), none⟩,
 ⟨(some 80), .mov (.tmp 3), none⟩,
 ⟨(some 81), .call 56 [(.tmp 79), (.tmp 80)], none⟩,
 ⟨(some 18), .mov (.tmp 81), none⟩])
 (.seq
 (.reg 0 [
 ⟨(some 19), .mov (.const (.slice none 0 0)), none⟩])
 (.seq
 (.reg 0 [
 ⟨(some 20), .mov (.const (.slice none 0 0)), none⟩])
 (.seq
 (.seq
 (.reg 0 [
 ⟨(some 82), .mov (.tmp 15), none⟩,
 ⟨(some 83), .nilc (.tmp 82), none⟩,
 ⟨(some 84), .fld 2 (.tmp 83), none⟩,
 ⟨(some 85), .load none (.tmp 84), none⟩,
 ⟨(some 86), .len (.tmp 85), none⟩,
 ⟨(some 87), .mov (.const (.int .i64 0)), none⟩])
 (.block 0
 (.loop c18l0)))
 (.seq
 (.reg 0 [
 ⟨(some 110), .mov (.tmp 15), none⟩,
 ⟨(some 111), .mov (.tmp 20), none⟩,
 ⟨(some 112), .nilc (.tmp 110), none⟩,
 ⟨(some 113), .fld 2 (.tmp 112), none⟩,
 ⟨none, .store 1 (.tmp 113) (.tmp 111), none⟩])
 (.frz [20] (.seq
 (.tree 0
 (.take 0 [2, 6, 7, 8] ⟨(some 114), .mov (.tmp 17), none⟩
 (.take 1 [2, 6, 7, 8] ⟨(some 115), .mov (.tmp 18), none⟩
 (.take 3 [4, 5, 6, 7, 8] ⟨(some 117), .mov (.tmp 15), none⟩
 (.take 4 [5, 6, 7, 8] ⟨(some 118), .nilc (.tmp 117), none⟩
 (.take 5 [6, 7, 8] ⟨(some 119), .load (some 3) (.tmp 118), none⟩
 (.alt 2 ⟨(some 116), .call 43 [(.tmp 114), (.tmp 115)], none⟩ true
 (.alt 6 ⟨(some 120), .call 57 [(.tmp 119)], none⟩ false
 (.alt 7 ⟨(some 121), .call 56 [(.tmp 116), (.tmp 120)], none⟩ false
 (.take 8 [] ⟨(some 23), .mov (.tmp 121), none⟩
 .done)
 .none)
 .none)
 .none)))))))
 (.seq
 (.seq
 (.reg 0 [
 ⟨(some 122), .fld 0 (.tmp 4), none⟩,
 ⟨(some 123), .load none (.tmp 122), none⟩,
 ⟨(some 124), .mov (.tmp 23), none⟩,
 ⟨(some 125), .len (.tmp 124), none⟩,
 ⟨(some 126), .bin .sub true (.const (.int .i64 1152921504606846976)) (.tmp 125), none⟩,
 ⟨(some 127), .bin .gtr false (.tmp 123) (.tmp 126), none⟩])
 (.cond (.tmp 127)
 (.seq
 (.reg 0 [
 ⟨(some 128), .load (some 2) (.tmp 4), none⟩,
 ⟨none, .store 2 (.tmp 8) (.tmp 128), none⟩,
 ⟨(some 9), .mov (.const (.slice none 0 0)), none⟩,
 ⟨(some 10), .mov (.const (.slice none 0 0)), none⟩,
 ⟨(some 11), .mov (.const (.int .i64 2)), none⟩])
 .ret)
 .skip))
 (.seq
 (.reg 0 [
 ⟨(some 129), .mov (.tmp 15), none⟩,
 ⟨(some 130), .mov (.tmp 23), none⟩,
 ⟨(some 131), .call 47 [(.tmp 14), (.tmp 129), (.tmp 130)], none⟩,
 ⟨(some 24), .mov (.tmp 131), none⟩])
 (.seq
 (.reg 0 [
 ⟨(some 132), .mov (.tmp 12), none⟩,
 ⟨(some 133), .call 53 [(.tmp 14), (.tmp 132)], none⟩])
 (.seq
 (.reg 0 [
 ⟨(some 134), .load (some 2) (.tmp 14), none⟩,
 ⟨(some 135), .mov (.tmp 19), none⟩,
 ⟨(some 136), .mov (.tmp 24), none⟩,
 ⟨none, .store 2 (.tmp 8) (.tmp 134), none⟩,
 ⟨(some 9), .mov (.tmp 135), none⟩,
 ⟨(some 10), .mov (.tmp 136), none⟩,
 ⟨(some 11), .mov (.const (.int .i64 0)), none⟩])
 .ret))))))))))))))))))))
def c20f : LCode :=
 (.seq
 (.reg 2 [
 ⟨(some 3), .box 0 (.tmp 0), none⟩,
 ⟨(some 6), .alloc 1 (.agg #[.int .i64 0, .slice none 0 0]), none⟩,
 ⟨(some 7), .mov (.const (.slice none 0 0)), none⟩,
 ⟨(some 8), .mov (.const (.slice none 0 0)), none⟩,
 ⟨(some 9), .mov (.const (.int .i64 0)), none⟩])
 (.seq
 (.reg 0 [
 ⟨(some 19), .load (some 2) (.tmp 3), none⟩,
 ⟨(some 20), .mov (.tmp 1), none⟩,
 ⟨(some 21), .call 38 [(.tmp 19), (.tmp 20)], none⟩,
 ⟨(some 18), .mov (.tmp 21), none⟩,
 ⟨(some 22), .ext (.tmp 18) 0, none⟩,
 ⟨(some 23), .ext (.tmp 18) 1, none⟩,
 ⟨(some 10), .mov (.tmp 22), none⟩,
 ⟨(some 11), .mov (.tmp 23), none⟩])
 (.seq
 (.seq
 (.reg 0 [
 ⟨(some 24), .mov (.tmp 11), none⟩,
 ⟨(some 25), .not (.tmp 24), none⟩,
 ⟨(some 26), .mov (.tmp 25), none⟩,
 ⟨(some 27), .fld 1 (.tmp 3), (some (26, false))⟩,
 ⟨(some 28), .load none (.tmp 27), (some (26, false))⟩,
 ⟨(some 29), .mov (.tmp 10), (some (26, false))⟩,
 ⟨(some 30), .idx 3 (.tmp 28) (.tmp 29), (some (26, false))⟩,
 ⟨(some 31), .load (some 3) (.tmp 30), (some (26, false))⟩,
 ⟨(some 32), .mov (.tmp 2), (some (26, false))⟩,
 ⟨(some 33), .call 54 [(.tmp 31), (.tmp 32)], (some (26, false))⟩,
 ⟨(some 34), .bin .lss false (.tmp 33) (.const (.int .i64 0)), (some (26, false))⟩,
 ⟨(some 35), .pick (.tmp 26) (.const (.bool true)) (.tmp 34), none⟩])
 (.cond (.tmp 35)
 (.seq
 (.reg 0 [
 ⟨(some 36), .load (some 2) (.tmp 3), none⟩,
 ⟨none, .store 2 (.tmp 6) (.tmp 36), none⟩,
 ⟨(some 7), .mov (.const (.slice none 0 0)), none⟩,
 ⟨(some 8), .mov (.const (.slice none 0 0)), none⟩,
 ⟨(some 9), .mov (.const (.int .i64 5)), none⟩])
 .ret)
 .skip))
 (.seq
 (.reg 1 [
 ⟨(some 38), .load (some 2) (.tmp 3), none⟩,
 ⟨(some 39), .mov (.tmp 10), none⟩,
 ⟨(some 40), .call 41 [(.tmp 38), (.tmp 39)], none⟩,
 ⟨(some 37), .mov (.tmp 40), none⟩,
 ⟨(some 41), .ext (.tmp 37) 0, none⟩,
 ⟨(some 42), .ext (.tmp 37) 1, none⟩,
 ⟨(some 12), .alloc 0 (.agg #[.int .i64 0, .slice none 0 0]), none⟩,
 ⟨none, .store 2 (.tmp 12) (.tmp 41), none⟩,
 ⟨(some 13), .mov (.tmp 42), none⟩])
 (.seq
 (.reg 0 [
 ⟨(some 43), .mov (.tmp 13), none⟩,
 ⟨(some 44), .nilc (.tmp 43), none⟩,
 ⟨(some 45), .load (some 3) (.tmp 44), none⟩,
 ⟨(some 46), .mov (.tmp 2), none⟩,
 ⟨(some 47), .call 54 [(.tmp 45), (.tmp 46)], none⟩,
 ⟨(some 14), .mov (.tmp 47), none⟩])
 (.seq
 (.reg 1 [
 ⟨(some 48), .mov (.tmp 13), none⟩,
 ⟨(some 49), .nilc (.tmp 48), none⟩,
 ⟨(some 50), .fld 1 (.tmp 49), none⟩,
 ⟨(some 51), .load none (.tmp 50), none⟩,
 ⟨(some 52), .mov (.tmp 14), none⟩,
 ⟨(some 53), .idx 3 (.tmp 51) (.tmp 52), none⟩,
 ⟨(some 54), .fld 1 (.tmp 53), none⟩,
 ⟨(some 55), .load (some 2) (.tmp 54), none⟩,
 ⟨(some 15), .alloc 0 (.agg #[.int .i64 0, .int .i64 0]), none⟩,
 ⟨none, .store 2 (.tmp 15) (.tmp 55), none⟩])
 (.seq
 (.reg 0 [
 ⟨(some 56), .mov (.tmp 13), none⟩,
 ⟨(some 57), .mov (.tmp 13), none⟩,
 ⟨(some 58), .nilc (.tmp 57), none⟩,
 ⟨(some 59), .fld 1 (.tmp 58), none⟩,
 ⟨(some 60), .load none (.tmp 59), none⟩,
 ⟨(some 61), .mov (.tmp 14), none⟩,
 ⟨(some 62), .mov (.tmp 14), none⟩,
 ⟨(some 63), .bin .add true (.tmp 62) (.const (.int .i64 1)), none⟩,
 ⟨(some 64), .call 55 [(.tmp 60), (.tmp 61), (.tmp 63)], none⟩,
 ⟨(some 65), .nilc (.tmp 56), none⟩,
 ⟨(some 66), .fld 1 (.tmp 65), none⟩,
 ⟨none, .store 1 (.tmp 66) (.tmp 64), none⟩])
 (.seq
 (.reg 1 [
 ⟨(some 16), .alloc 0 (.slice none 0 0), none⟩])
 (.seq
 (.reg 0 [
 ⟨(some 67), .mov (.tmp 13), none⟩,
 ⟨(some 68), .mov (.tmp 13), none⟩,
 ⟨(some 69), .nilc (.tmp 68), none⟩,
 ⟨(some 70), .fld 2 (.tmp 69), none⟩,
 ⟨(some 71), .load none (.tmp 70), none⟩,
 ⟨(some 72), .fn 63 [(.tmp 15), (.tmp 16)], none⟩,
 ⟨(some 73), .call 62 [(.tmp 71), (.tmp 72)], none⟩,
 ⟨(some 74), .nilc (.tmp 67), none⟩,
 ⟨(some 75), .fld 2 (.tmp 74), none⟩,
 ⟨none, .store 1 (.tmp 75) (.tmp 73), none⟩])
 (.frz [73] (.seq
 (.reg 0 [
 ⟨(some 76), .mov (.tmp 10), none⟩,
 ⟨(some 77), .call 53 [(.tmp 12), (.tmp 76)], none⟩,
 ⟨(some 17), .mov (.tmp 77), none⟩])
 (.seq
 (.tree 0
 (.take 0 [3, 4, 5, 6] ⟨(some 78), .load (some 2) (.tmp 12), none⟩
 (.take 1 [4, 5, 6] ⟨(some 79), .load none (.tmp 16), none⟩
 (.take 2 [5, 6] ⟨(some 80), .mov (.tmp 17), none⟩
 (.alt 3 ⟨none, .store 2 (.tmp 6) (.tmp 78), none⟩ true
 (.take 4 [5, 6] ⟨(some 7), .mov (.tmp 79), none⟩
 (.take 5 [6] ⟨(some 8), .mov (.tmp 80), none⟩
 (.take 6 [] ⟨(some 9), .mov (.const (.int .i64 0)), none⟩
 .done)))
 .none)))))
 .ret))))))))))))
theorem lw10f : rlF Tryz.prog 10 c10f = some (c10f, [.cell 8 (some 2), .tmp 9, .tmp 10], 112) := by kernel_rfl
theorem lw15f : rlF Tryz.prog 15 c15f = some (c15f, [.cell 6 (some 2), .tmp 7, .tmp 8], 58) := by kernel_rfl
theorem lw18f : rlF Tryz.prog 18 c18f = some (c18f, [.cell 8 (some 2), .tmp 9, .tmp 10, .tmp 11], 137) := by kernel_rfl
theorem lw20f : rlF Tryz.prog 20 c20f = some (c20f, [.cell 6 (some 2), .tmp 7, .tmp 8, .tmp 9], 81) := by kernel_rfl
end Go.Fx.J
namespace Go.Fx.J
open Go Go.Fx Go.Proofs Go.Fx.R
set_option maxRecDepth 20000
def mAt (j : Jns) (k : Nat) : Mis := j.l.getD k ⟨[], [], []⟩
theorem mAt_eq {j : Jns} {k : Nat} (h : k < j.l.length) : mAt j k = j.l[k] := by
 unfold mAt
 rw [vA, yM h]; rfl
def leaveP (j : Jns) (key : S) (who : Int) : (Jns × List Int) × Int :=
 if j.l.any (eqM key) = false then ((j, []), 5)
 else if (mAt j (posN (ltM key) j.l)).wt.any (eqW who) = false then ((j, []), 5)
 else ((⟨j.last, cleanL j.l (posN (ltM key) j.l) key (mAt j (posN (ltM key) j.l)).fl (lessL (mAt j (posN (ltM key) j.l)).wt (posN (ltW who) (mAt j (posN (ltM key) j.l)).wt))⟩,
  cleanO key (mAt j (posN (ltM key) j.l)).fl (lessL (mAt j (posN (ltM key) j.l)).wt (posN (ltW who) (mAt j (posN (ltM key) j.l)).wt))), 0)
theorem rowsM_put {l : List Mis} {k : Nat} {key : S} {f w f' w' : V} : (rowsM l k key f w).set k [sv key, f', w'] = rowsM l k key f' w' := by
 rw [rowsM_set]; rfl
theorem rowsM_frz {l : List Mis} {k j sz : Nat} {els : List (List V)} {key : S} {f w : V} : (rowsM l k key f w).map (frzL j sz els) = rowsM l k key (frzV j sz els f) (frzV j sz els w) := by
 unfold rowsM
 rw [vM, uC]
 rfl
theorem vd_vs {l : List Sp} (h : Vs l) : Vd l := ⟨h.1, fun s hs => by have := h.2 s hs; have := h.1.1 s hs; omega⟩
theorem vs_need {key : S} {fl : List Fet} {wt : List Wai} (h : ∀ w ∈ wt, Vs w.need) : Vs (needed ⟨key, fl, wt⟩) := vs_of sep_ofS fun x hx => by
 obtain ⟨w, hw, hx⟩ := in_needed.1 hx
 exact (h w hw).in hx
theorem vs_one {s : Sp} (h : 0 ≤ s.1 ∧ s.1 < s.2 ∧ s.2 ≤ 1099511627776) : Vs [s] := ⟨⟨by simp; omega, by simp⟩, by simp; omega⟩
theorem mem_less {α : Type} {l : List α} {k : Nat} {x : α} (h : x ∈ lessL l k) : x ∈ l := by
 rcases yF.1 h with h | h
 ·exact vB h
 ·exact uD h
theorem posW_any {l : List Wai} {k : Int} (ho : l.Pairwise fun a b => a.id < b.id) (h : l.any (eqW k) = true) : posN (ltW k) l < l.length := by
 obtain ⟨m, hm, he⟩ := yX.1 h
 unfold posN
 rcases yN (l.filter (ltW k)).length l.length with h | h
 ·exact h
 ·have : (l.filter (ltW k)) = l := List.filter_sublist.eq_of_length_le h
  rw [← this] at hm
  have := (vF.1 hm).2
  unfold eqW at he
  unfold ltW at this
  simp at he this
  omega
theorem ok15 (j : Jns) (key : S) (who : Int) (hj : JOk j) (hf : ∀ m ∈ j.l, m.fl.length ≤ 1099511627776) :
  Ok 15 [.agg j.enc, sv key, .i who] (Is (.tup [.agg (leaveP j key who).1.1.enc, ints (leaveP j key who).1.2, .i (leaveP j key who).2])) := by
 refine okN_gv ?_
 refine ok_of lw15f (by simp) ?_
 unfold c15f
 have hp : ∀ x y, leaveP j key who = (x, y) → (leaveP j key who).1 = x ∧ (leaveP j key who).2 = y := fun x y h => by rw [h]; exact ⟨rfl, rfl⟩
 simp -implicitDefEqProofs only [rX,↓rY,ofConst,cells?,↓reduceIte,Nat.reduceEqDiff,Nat.reduceAdd,reduceCtorEq,freshP,cxN,yB,yA,args0]
 refine call_is (ok38 (.i j.last) j.l key hj.o (by have := hj.n; omega)) (by simp [lendsOk, lendOk, lends, lend, wkL, wk, wkR, wkB]) rfl trivial ?_
 cases h1 : j.l.any (eqM key) with
 | false =>
  obtain ⟨e1, e2⟩ := hp (j, []) 5 (by unfold leaveP; rw [if_pos h1])
  rw [e1, e2]
  simp -implicitDefEqProofs only [rX,↓rY,ofConst,cells?,splice,↓reduceIte,Nat.reduceEqDiff,Nat.reduceAdd,isC,yC,yB,yA]
  refine ret_data ?_
  simp -implicitDefEqProofs only [rX,↓rY,↓reduceIte,Nat.reduceEqDiff,Nat.reduceAdd,resP,tupV,wfV,wfL,yB,yA]
  simp [Gv, tupV, gvV, gvL, wk, wkL, wkR, wfV, wfL]
 | true =>
  obtain ⟨hk, hkey⟩ := posN_any hj.o h1
  have hm := hj.m _ (yD hk)
  have hfl := hf _ (yD hk)
  have hat := mAt_eq hk
  have hl : leaveP j key who = if j.l[posN (ltM key) j.l].wt.any (eqW who) = false then ((j, []), 5) else ((⟨j.last, cleanL j.l (posN (ltM key) j.l) key j.l[posN (ltM key) j.l].fl (lessL j.l[posN (ltM key) j.l].wt (posN (ltW who) j.l[posN (ltM key) j.l].wt))⟩, cleanO key j.l[posN (ltM key) j.l].fl (lessL j.l[posN (ltM key) j.l].wt (posN (ltW who) j.l[posN (ltM key) j.l].wt))), 0) := by
   unfold leaveP
   rw [if_neg (by rw [h1]; simp), hat]
  generalize posN (ltM key) j.l = k at *
  simp -implicitDefEqProofs only [rX,↓rY,↓reduceIte,Nat.reduceEqDiff,Nat.reduceAdd,reduceCtorEq,ms_len,ms_t,yA]
  have hn := hj.n
  have hwn := hm.n
  refine ⟨⟨by omega, by omega⟩, hk, ?_⟩
  refine call_is (ok42 (sv j.l[k].key) .any j.l[k].wt who hm.wo (by omega)) (by simp [lendsOk, lendOk, lends, lend, wkL, wk, wkR, wkB, Mis.enc]) rfl trivial ?_
  cases h2 : j.l[k].wt.any (eqW who) with
  | false =>
   obtain ⟨e1, e2⟩ := hp (j, []) 5 (by rw [hl, if_pos h2])
   rw [e1, e2]
   simp -implicitDefEqProofs only [rX,↓rY,ofConst,cells?,splice,↓reduceIte,Nat.reduceEqDiff,Nat.reduceAdd,isC,yC,yB,yA]
   refine ret_data ?_
   simp -implicitDefEqProofs only [rX,↓rY,↓reduceIte,Nat.reduceEqDiff,Nat.reduceAdd,resP,tupV,wfV,wfL,yB,yA]
   simp [Gv, tupV, gvV, gvL, wk, wkL, wkR, wfV, wfL]
  | true =>
   have hi := posW_any hm.wo h2
   rw [if_neg (by rw [h2]; simp)] at hl
   generalize posN (ltW who) j.l[k].wt = i at *
   simp -implicitDefEqProofs only [rX,↓rY,↓reduceIte,Nat.reduceEqDiff,Nat.reduceAdd,yB,yA]
   refine call_isA [.agg [.i j.last, .bro 3 (j.l.map Mis.enc)], .i k] _ (.tup [.agg [.i j.last, .sl 5 0 j.l.length], .ptr 5 k 0]) _ [.dead, .dead, .arv 3 (rowsM j.l k j.l[k].key (.sl 6 0 j.l[k].fl.length) (.sl 7 0 j.l[k].wt.length)), .arr 3 (j.l[k].fl.map Fet.enc), .arr 2 (j.l[k].wt.map Wai.enc)] (ok41 j k hk (by omega) fun m hm => ⟨yO (hf m hm) (by omega), yO (hj.m m hm).n (by omega)⟩) (by simp [lendsOk, lendOk, lends, lend, wkL, wk, wkB, wkR]) rfl (by simp only [yH, yI, renB, rowsM_ren]; rfl) trivial ?_
   have hk2 : k < (rowsM j.l k j.l[k].key (.sl 6 0 j.l[k].fl.length) (.sl 7 0 j.l[k].wt.length)).length := by rw [rowsM_len]; exact hk
   simp -implicitDefEqProofs only [rX,↓rY,ofConst,cells?,splice,↓reduceIte,Nat.reduceEqDiff,Nat.reduceAdd,freshP,isC,yC,yA]
   refine ⟨hk2, ?_⟩
   rw [rowsM_at hk2]
   have hll : j.l[k].wt.length - 1 = (lessL j.l[k].wt i).length := by unfold lessL; simp; omega
   simp -implicitDefEqProofs only [rX,↓rY,yP]
   refine ⟨by simp only [lo, Fx.hi]; omega, ?_⟩
   refine call_isMA [7] [] [] [.sl 0 0 j.l[k].wt.length, .i i, .i ((i : Int) + 1)] (.sl 0 0 (j.l[k].wt.length - 1)) (.sl 7 0 (lessL j.l[k].wt i).length) _ _ [.var j.enc, .var [.v (.int .i64 0), .v (.slice none 0 0)], .var [.i j.last, .sl 5 0 j.l.length], .dead, .dead, .arv 3 (rowsM j.l k j.l[k].key (.sl 6 0 j.l[k].fl.length) (.sl 7 0 j.l[k].wt.length)), .arr 3 (j.l[k].fl.map Fet.enc), .arr 2 ((lessL j.l[k].wt i).map Wai.enc)] _ (ok52 j.l[k].wt i hi) (by simp) (by simp) rfl (by simp [lendsOk, lendOk, lends, lend, wkL, wk, pos]) (by simp only [yH, yI, renB, killB, rowsM_kill]; rfl) (by rw [← hll]; rfl) rfl trivial ?_
   simp -implicitDefEqProofs only [rX,↓rY,cells?,splice,↓reduceIte,Nat.reduceEqDiff,Nat.reduceAdd,killE,kill,kills,St.kill,isC,ms_k,yC,yB,yA,rowsM_at hk2,rowsM_put]
   refine ⟨hk2, ?_⟩
   have ht : yG (lessL j.l[k].wt i).length ((lessL j.l[k].wt i).map Wai.enc) = (lessL j.l[k].wt i).map Wai.enc := yE (by simp)
   simp -implicitDefEqProofs only [rX,↓reduceIte,Nat.reduceEqDiff,Nat.reduceAdd,yA,↓frzP_n,↓frzP_c,↓frzQ_s,↓frz1_a,↓aw_frz,get_frzE,frzV,frzL,frzB,rowsM_frz,Nat.reduceEqDiff,ht,hkey]
   obtain ⟨e1, e2⟩ := hp _ _ hl
   rw [e1, e2]
   have hw : ∀ w ∈ lessL j.l[k].wt i, Vs w.need := fun w hw => (hm.w w (mem_less hw)).1
   generalize lessL j.l[k].wt i = wt at *
   refine call_isMA [2, 5, 6] [2] [6] [.ptr 0 0 0, .i k] (ints (cleanO key j.l[k].fl wt)) (ints (cleanO key j.l[k].fl wt)) _ _ [.var [.i j.last, miss j.l], .var [.v (.int .i64 0), .v (.slice none 0 0)], .var [.i j.last, .sl 5 0 (cleanL j.l k key j.l[k].fl wt).length], .dead, .dead, .arr 3 ((cleanL j.l k key j.l[k].fl wt).map Mis.enc), .dead, .dead] _ (ok53 j.last j.l k hk key j.l[k].fl wt (by omega) (by omega) (vd_vs (vs_need hw)) (fun f hf => vd_vs (vs_one (hm.f f hf).1)) fun w h => vd_vs (hw w h)) (by simp) (by simp) (by simp only [yH, yI, blk, vG, vH, renB, rowsM_ren]; rfl) (by simp [lendsOk, lendOk, lends, lend, wkL, wk, pos]) rfl rfl rfl trivial ?_
   generalize cleanL j.l k key j.l[k].fl wt = L'
   generalize cleanO key j.l[k].fl wt = O'
   have hL : yG L'.length (L'.map Mis.enc) = L'.map Mis.enc := yE (by simp)
   simp -implicitDefEqProofs only [rX,↓rY,ofConst,cells?,splice,↓reduceIte,Nat.reduceEqDiff,Nat.reduceAdd,resP,tupV,keepP,liveP,wfV,wfL,killE,kill,St.kill,isC,yC,yB,yA,get_frzE,get_killE,frzV,retP_eq]
   refine ⟨[.dead, .dead, .dead, .dead, .dead, .arr 3 (L'.map Mis.enc)], ⟨by simp [leH, leB], vI _, by simp, by simp [wfB]⟩, ?_⟩
   simp [Gv, tupV, gvV, gvL, wk, wkL, wkR, wfV, wfL, blk, hL]
end Go.Fx.J
namespace Go.Fx.J
open Go Go.Fx Go.Proofs Go.Fx.R
set_option maxRecDepth 20000
def fAt (m : Mis) (i : Nat) : Fet := m.fl.getD i ⟨0, (0, 0)⟩
theorem fAt_eq {m : Mis} {i : Nat} (h : i < m.fl.length) : fAt m i = m.fl[i] := by
 unfold fAt
 rw [vA, yM h]; rfl
def failM (L : List Mis) (last : Int) (k : Nat) (key : S) (m : Mis) (i : Nat) : Jns × List Int × List Int :=
 (⟨last, cleanL L k key (lessL m.fl i) (keptD (goW (fAt m i).sp) m.wt)⟩, outsD (goW (fAt m i).sp) Wai.id m.wt, cleanO key (lessL m.fl i) (keptD (goW (fAt m i).sp) m.wt))
def failP (j : Jns) (key : S) (id : Int) : (Jns × List Int × List Int) × Int :=
 if j.l.any (eqM key) = false then ((j, [], []), 5)
 else if (mAt j (posN (ltM key) j.l)).fl.any (eqF id) = false then ((j, [], []), 5)
 else (failM j.l j.last (posN (ltM key) j.l) key (mAt j (posN (ltM key) j.l)) ((mAt j (posN (ltM key) j.l)).fl.findIdx (eqF id)), 0)
theorem ok20 (j : Jns) (key : S) (id : Int) (hj : JOk j) (hf : ∀ m ∈ j.l, m.fl.length ≤ 1099511627776) :
  Ok 20 [.agg j.enc, sv key, .i id] (Is (.tup [.agg (failP j key id).1.1.enc, ints (failP j key id).1.2.1, ints (failP j key id).1.2.2, .i (failP j key id).2])) := by
 refine okN_gv ?_
 refine okN_ofG pol [] lw20f (by simp) trivial (by simp) (s0 := ⟨args0 0 [.agg j.enc, sv key, .i id], [.arr 1 []], 0⟩) ?_ ?_
 ·refine ⟨_, .virt 1 1 (by decide) (.refl _), ?_⟩
  simp -implicitDefEqProofs only [rX,↓reduceIte,Nat.reduceEqDiff,Nat.reduceAdd,reduceCtorEq,leE,leH,leB,keepP,wfE,wfB,wfV,wfL,args0,uR]
 unfold c20f
 have hp : ∀ x y, failP j key id = (x, y) → (failP j key id).1 = x ∧ (failP j key id).2 = y := fun x y h => by rw [h]; exact ⟨rfl, rfl⟩
 simp -implicitDefEqProofs only [rX,↓rY,ofConst,cells?,↓reduceIte,Nat.reduceEqDiff,Nat.reduceAdd,reduceCtorEq,freshP,cxN,yB,yA,args0]
 refine call_is (ok38 (.i j.last) j.l key hj.o (by have := hj.n; omega)) (by simp [lendsOk, lendOk, lends, lend, wkL, wk, wkR, wkB]) rfl trivial ?_
 cases h1 : j.l.any (eqM key) with
 | false =>
  obtain ⟨e1, e2⟩ := hp (j, [], []) 5 (by unfold failP; rw [if_pos h1])
  rw [e1, e2]
  simp -implicitDefEqProofs only [rX,↓rY,ofConst,cells?,splice,↓reduceIte,Nat.reduceEqDiff,Nat.reduceAdd,isC,yC,yB,yA]
  refine ret_data ?_
  simp -implicitDefEqProofs only [rX,↓rY,↓reduceIte,Nat.reduceEqDiff,Nat.reduceAdd,resP,tupV,wfV,wfL,yB,yA]
  simp [Gv, tupV, gvV, gvL, wk, wkL, wkR, wfV, wfL]
 | true =>
  obtain ⟨hk, hkey⟩ := posN_any hj.o h1
  have hm := hj.m _ (yD hk)
  have hfl := hf _ (yD hk)
  have hat := mAt_eq hk
  have hl : failP j key id = if j.l[posN (ltM key) j.l].fl.any (eqF id) = false then ((j, [], []), 5) else (failM j.l j.last (posN (ltM key) j.l) key j.l[posN (ltM key) j.l] (j.l[posN (ltM key) j.l].fl.findIdx (eqF id)), 0) := by
   unfold failP
   rw [if_neg (by rw [h1]; simp), hat]
  generalize posN (ltM key) j.l = k at *
  simp -implicitDefEqProofs only [rX,↓rY,↓reduceIte,Nat.reduceEqDiff,Nat.reduceAdd,reduceCtorEq,ms_len,ms_t,yA]
  have hn := hj.n
  have hwn := hm.n
  refine ⟨⟨by omega, by omega⟩, hk, ?_⟩
  refine call_is (ok54 (sv j.l[k].key) .any j.l[k].fl id) (by simp [lendsOk, lendOk, lends, lend, wkL, wk, wkR, wkB, Mis.enc]) rfl trivial ?_
  cases h2 : j.l[k].fl.any (eqF id) with
  | false =>
   obtain ⟨e1, e2⟩ := hp (j, [], []) 5 (by rw [hl, if_pos h2])
   rw [e1, e2]
   have hfi : fstI (eqF id) j.l[k].fl = -1 := by unfold fstI; rw [if_neg (by rw [h2]; simp)]
   have hlt : decide ((-1 : Int) < 0) = true := rfl
   simp -implicitDefEqProofs only [rX,↓rY,ofConst,cells?,splice,↓reduceIte,Nat.reduceEqDiff,Nat.reduceAdd,isC,yC,yB,yA,hfi,hlt]
   refine ret_data ?_
   simp -implicitDefEqProofs only [rX,↓rY,↓reduceIte,Nat.reduceEqDiff,Nat.reduceAdd,resP,tupV,wfV,wfL,yB,yA]
   simp [Gv, tupV, gvV, gvL, wk, wkL, wkR, wfV, wfL]
  | true =>
   have hi : j.l[k].fl.findIdx (eqF id) < j.l[k].fl.length := by
    obtain ⟨f, hf, he⟩ := yX.1 h2
    exact vV.2 ⟨f, hf, he⟩
   have hfi : fstI (eqF id) j.l[k].fl = (j.l[k].fl.findIdx (eqF id) : Nat) := by unfold fstI; rw [if_pos h2]
   rw [if_neg (by rw [h2]; simp)] at hl
   rw [hfi]
   generalize j.l[k].fl.findIdx (eqF id) = i at *
   have hlt : decide ((i : Int) < 0) = false := decide_eq_false (by omega)
   simp -implicitDefEqProofs only [rX,↓rY,ofConst,cells?,splice,↓reduceIte,Nat.reduceEqDiff,Nat.reduceAdd,isC,yC,yB,yA,hlt]
   refine call_isA [.agg [.i j.last, .bro 3 (j.l.map Mis.enc)], .i k] _ (.tup [.agg [.i j.last, .sl 6 0 j.l.length], .ptr 6 k 0]) _ [.dead, .dead, .arv 3 (rowsM j.l k j.l[k].key (.sl 7 0 j.l[k].fl.length) (.sl 8 0 j.l[k].wt.length)), .arr 3 (j.l[k].fl.map Fet.enc), .arr 2 (j.l[k].wt.map Wai.enc)] (ok41 j k hk (by omega) fun m hm => ⟨yO (hf m hm) (by omega), yO (hj.m m hm).n (by omega)⟩) (by simp [lendsOk, lendOk, lends, lend, wkL, wk, wkB, wkR]) rfl (by simp only [yH, yI, renB, rowsM_ren]; rfl) trivial ?_
   have hk2 : k < (rowsM j.l k j.l[k].key (.sl 7 0 j.l[k].fl.length) (.sl 8 0 j.l[k].wt.length)).length := by rw [rowsM_len]; exact hk
   simp -implicitDefEqProofs only [rX,↓rY,ofConst,cells?,splice,↓reduceIte,Nat.reduceEqDiff,Nat.reduceAdd,reduceCtorEq,freshP,isC,yC,yA]
   refine ⟨hk2, ?_⟩
   rw [rowsM_at hk2]
   simp -implicitDefEqProofs only [rX,Nat.reduceAdd,yB,yA]
   have htf : yG j.l[k].fl.length (j.l[k].fl.map Fet.enc) = j.l[k].fl.map Fet.enc := yE (by simp)
   refine call_is (ok54 (sv j.l[k].key) .any j.l[k].fl id) (by simp [lendsOk, lendOk, lends, lend, wkL, wk, wkR, wkB, blk, htf]) rfl trivial ?_
   simp -implicitDefEqProofs only [rX,↓rY,ofConst,cells?,splice,↓reduceIte,Nat.reduceEqDiff,Nat.reduceAdd,freshP,yA,hfi]
   refine ⟨hk2, ?_⟩
   rw [rowsM_at hk2]
   simp -implicitDefEqProofs only [rX,↓rY,arrSz,Nat.reduceAdd,enS_len,enS_C,ft_len,ft_d1,yC,yA,yP]
   refine ⟨⟨by omega, by omega⟩, hi, ?_⟩
   have hlf : j.l[k].fl.length - 1 = (lessL j.l[k].fl i).length := by unfold lessL; simp; omega
   refine ⟨hk2, ?_⟩
   rw [rowsM_at hk2]
   simp -implicitDefEqProofs only [rX,↓rY,yP]
   refine ⟨by simp only [lo, Fx.hi]; omega, ?_⟩
   refine call_isMA [7] [] [] [.sl 0 0 j.l[k].fl.length, .i i, .i ((i : Int) + 1)] (.sl 0 0 (j.l[k].fl.length - 1)) (.sl 7 0 (lessL j.l[k].fl i).length) _ _ [.arr 1 [], .var j.enc, .var [.v (.int .i64 0), .v (.slice none 0 0)], .var [.i j.last, .sl 6 0 j.l.length], .dead, .dead, .arv 3 (rowsM j.l k j.l[k].key (.sl 7 0 j.l[k].fl.length) (.sl 8 0 j.l[k].wt.length)), .arr 3 ((lessL j.l[k].fl i).map Fet.enc), .arr 2 (j.l[k].wt.map Wai.enc), .var (enS j.l[k].fl[i].sp)] _ (ok55 j.l[k].fl i hi) (by simp) (by simp) rfl (by simp [lendsOk, lendOk, lends, lend, wkL, wk, pos]) (by simp only [yH, yI, renB, killB, rowsM_kill]; rfl) (by rw [← hlf]; rfl) rfl trivial ?_
   simp -implicitDefEqProofs only [rX,↓rY,ofConst,cells?,splice,↓reduceIte,Nat.reduceEqDiff,Nat.reduceAdd,freshP,killE,kill,kills,St.kill,isC,Nat.reduceLeDiff,enS_kill,ms_k,yC,yB,yA,rowsM_at hk2,rowsM_put]
   have hk3 : k < (rowsM j.l k j.l[k].key (.sl 7 0 (lessL j.l[k].fl i).length) (.sl 8 0 j.l[k].wt.length)).length := by rw [rowsM_len]; exact hk
   refine ⟨hk2, hk3, ?_⟩
   rw [rowsM_at hk3]
   simp -implicitDefEqProofs only [rX,↓rY,yP]
   have hsp := vd_vs (vs_one (hm.f _ (yD hi)).1)
   have hfa : fAt j.l[k] i = j.l[k].fl[i] := fAt_eq hi
   unfold failM at hl
   rw [hfa] at hl
   generalize j.l[k].fl[i].sp = sp at *
   have hlw : ∀ w ∈ keptD (goW sp) j.l[k].wt, w ∈ j.l[k].wt := fun w hw => (vF.1 hw).1
   refine call_isMA [9, 10, 0, 8] [2] [0] [.sl 3 0 j.l[k].wt.length, .clo 63 [.ptr 0 0 0, .ptr 1 0 0]] (.sl 3 0 (keptD (goW sp) j.l[k].wt).length) (.sl 8 0 (keptD (goW sp) j.l[k].wt).length) _ _ [.arr 1 ((outsD (goW sp) Wai.id j.l[k].wt).map encI), .var j.enc, .var [.v (.int .i64 0), .v (.slice none 0 0)], .var [.i j.last, .sl 6 0 j.l.length], .dead, .dead, .arv 3 (rowsM j.l k j.l[k].key (.sl 7 0 (lessL j.l[k].fl i).length) (.sl 8 0 j.l[k].wt.length)), .arr 3 ((lessL j.l[k].fl i).map Fet.enc), .arr 2 ((keptD (goW sp) j.l[k].wt).map Wai.enc), .var (enS sp), .var [.sl 0 0 (outsD (goW sp) Wai.id j.l[k].wt).length]] _ (ok62 j.l[k].wt sp (by omega) hsp fun w hw => vd_vs (hm.w w hw).1) (by simp) (by simp) rfl (by simp [lendsOk, lendOk, lends, lend, wkL, wk, pos]) (by unfold hD; simp only [yH, yI, renB, killB, rowsM_kill]; rfl) rfl rfl trivial ?_
   simp -implicitDefEqProofs only [rX,↓rY,cells?,splice,↓reduceIte,Nat.reduceEqDiff,Nat.reduceAdd,reduceCtorEq,killE,kill,kills,St.kill,isC,enS_kill,ms_k,yC,yB,yA,rowsM_at hk3,rowsM_put]
   refine ⟨hk3, ?_⟩
   have ht : yG (keptD (goW sp) j.l[k].wt).length ((keptD (goW sp) j.l[k].wt).map Wai.enc) = (keptD (goW sp) j.l[k].wt).map Wai.enc := yE (by simp)
   simp -implicitDefEqProofs only [rX,↓reduceIte,Nat.reduceEqDiff,Nat.reduceAdd,reduceCtorEq,yA,↓frzP_n,↓frzP_c,↓frzQ_s,↓frz1_a,↓aw_frz,get_frzE,frzV,frzL,frzB,rowsM_frz,Nat.reduceEqDiff,ht,hkey]
   obtain ⟨e1, e2⟩ := hp _ _ hl
   rw [e1, e2]
   have hw : ∀ w ∈ keptD (goW sp) j.l[k].wt, Vs w.need := fun w hw => (hm.w w (hlw w hw)).1
   have hfx : ∀ f ∈ lessL j.l[k].fl i, Vd [f.sp] := fun f hf => vd_vs (vs_one (hm.f f (mem_less hf)).1)
   have hll : (lessL j.l[k].fl i).length ≤ 1099511627776 := by omega
   clear hlf hk2 hk3 hfa ht hlw hl
   generalize keptD (goW sp) j.l[k].wt = wt at *
   generalize lessL j.l[k].fl i = fl at *
   generalize outsD (goW sp) Wai.id j.l[k].wt = G at *
   refine call_isMA [3, 6, 7] [2] [7] [.ptr 0 0 0, .i k] (ints (cleanO key fl wt)) (ints (cleanO key fl wt)) _ _ [.arr 1 (G.map encI), .var [.i j.last, miss j.l], .var [.v (.int .i64 0), .v (.slice none 0 0)], .var [.i j.last, .sl 6 0 (cleanL j.l k key fl wt).length], .dead, .dead, .arr 3 ((cleanL j.l k key fl wt).map Mis.enc), .dead, .dead, .var (enS sp), .var [.sl 0 0 G.length]] _ (ok53 j.last j.l k hk key fl wt (by omega) (by omega) (vd_vs (vs_need hw)) hfx fun w h => vd_vs (hw w h)) (by simp) (by simp) (by simp only [yH, yI, blk, vG, vH, renB, rowsM_ren]; rfl) (by simp [lendsOk, lendOk, lends, lend, wkL, wk, pos]) rfl rfl rfl trivial ?_
   generalize cleanL j.l k key fl wt = L'
   generalize cleanO key fl wt = O'
   have hL : yG L'.length (L'.map Mis.enc) = L'.map Mis.enc := yE (by simp)
   have hG : yG G.length (G.map encI) = G.map encI := yE (by simp)
   simp -implicitDefEqProofs only [rX,↓rY,rdK,ofConst,cells?,splice,↓reduceIte,Nat.reduceEqDiff,Nat.reduceAdd,resP,tupV,keepP,liveP,wfV,wfL,killE,kill,St.kill,isC,yC,yB,yA,get_frzE,get_killE,frzV,retP_eq]
   refine ⟨[.arr 1 (G.map encI), .dead, .dead, .dead, .dead, .dead, .arr 3 (L'.map Mis.enc)], ⟨by simp [leH, leB], vI _, by simp, by simp [wfB]⟩, ?_⟩
   simp [Gv, tupV, gvV, gvL, wk, wkL, wkR, wfV, wfL, blk, hL, hG]
end Go.Fx.J
namespace Go.Fx.J
open Go Go.Fx Go.Proofs Go.Fx.R
set_option maxRecDepth 20000
theorem nilRows_mid {a b : List (List V)} {x y : List V} (h : nilRow x y) : nilRows (a ++ x :: b) (a ++ y :: b) := by
 refine ⟨by simp, fun i p q hp hq => ?_⟩
 rcases uE i a.length with hi | hi | hi
 ·rw [uS hi] at hp hq
  rw [hp] at hq
  obtain rfl : p = q := by simpa using hq
  exact ⟨rfl, fun i x y h1 h2 => by rw [h1] at h2; exact .inl (by simpa using h2.symm)⟩
 ·subst hi
  rw [uF (Nat.le_refl _), Nat.sub_self] at hp hq
  obtain rfl : x = p := by simpa using hp
  obtain rfl : y = q := by simpa using hq
  exact h
 ·rw [uF (by omega)] at hp hq
  obtain ⟨n, hn⟩ : ∃ n, i - a.length = n + 1 := ⟨i - a.length - 1, by omega⟩
  rw [hn, yP] at hp hq
  rw [hp] at hq
  obtain rfl : p = q := by simpa using hq
  exact ⟨rfl, fun i x y h1 h2 => by rw [h1] at h2; exact .inl (by simpa using h2.symm)⟩
theorem nil_new {key : S} : nilRow [sv key, .nil, .nil] [sv key, .sl 2 0 0, .sl 3 0 0] := by
 refine ⟨rfl, fun i x y h1 h2 => ?_⟩
 match i with
 | 0 => simp at h1 h2; exact .inl (by rw [← h1, ← h2])
 | 1 => simp at h1 h2; exact .inr ⟨h1.symm, 2, h2.symm⟩
 | 2 => simp at h1 h2; exact .inr ⟨h1.symm, 3, h2.symm⟩
 | n + 3 => simp at h1
theorem insT_map {α β : Type} {f : α → β} {l : List α} {i : Nat} {x : α} : (insT l i x).map f = insT (l.map f) i (f x) := by
 unfold insT
 rw [yQ, yH, uG, uH]
theorem ok39n (l : List Mis) (i : Nat) (key : S) (hi : i ≤ l.length) (hn : l.length ≤ 1000000000000) :
  OkN Tryz.prog 39 [.sl 0 0 l.length, .i i, .sl 1 0 1] [.arr 3 (l.map Mis.enc), .arr 3 [[sv key, .nil, .nil]]] [0, 1] (IsA (.sl 0 0 (l.length + 1)) [.arr 3 ((insT l i ⟨key, [], []⟩).map Mis.enc), .dead]) := by
 have h := ok39 (l.map Mis.enc) i [sv key, .nil, .nil] (by simpa using hi) (by simpa using hn)
 rw [vC] at h
 refine ⟨h.1, Fn_ghostN [] (by simp; omega) (by simp) h.2 ?_⟩
 rintro r hs ⟨rfl, rfl⟩
 have hne : insT (l.map Mis.enc) i [sv key, .nil, .nil] ≠ [] := by unfold insT; simp
 have hr : (insT (l.map Mis.enc) i [sv key, .sl 2 0 0, .sl 3 0 0]).map (gvL (fun j => decide (j = 2) || decide (j = 3)) [.arv 3 (insT (l.map Mis.enc) i [sv key, .sl 2 0 0, .sl 3 0 0]), .dead, .arr 3 [], .arr 2 []]) = (insT l i ⟨key, [], []⟩).map Mis.enc := by
  simp only [insT, yQ, yH, uG, uH, gv_rows]
  rfl
 have hg : St.give (fun j => decide (j = 2) || decide (j = 3)) ⟨[(0, .sl 0 0 (l.length + 1))], [.arv 3 (insT (l.map Mis.enc) i [sv key, .sl 2 0 0, .sl 3 0 0]), .dead, .arr 3 [], .arr 2 []], 0⟩ = ⟨[(0, .sl 0 0 (l.length + 1))], [.arv 3 ((insT l i ⟨key, [], []⟩).map Mis.enc), .dead, .dead, .dead], 0⟩ := by
  rw [← hr]
  rfl
 refine ⟨trivial, _, _, ⟨rfl, rfl⟩, by simp, _, .virt 1 3 (by decide) (.virt 1 2 (by decide) (.opn 0 3 _ rfl hne (.nilW 0 3 _ (insT (l.map Mis.enc) i [sv key, .sl 2 0 0, .sl 3 0 0]) rfl (nilRows_mid nil_new) (.give (fun j => decide (j = 2) || decide (j = 3)) (by simp) (.cls 0 3 ((insT l i ⟨key, [], []⟩).map Mis.enc) ?_ (fun e he => ?_) (.refl _)))))), ?_⟩
 ·change (St.give (fun j => decide (j = 2) || decide (j = 3)) ⟨[(0, .sl 0 0 (l.length + 1))], [.arv 3 (insT (l.map Mis.enc) i [sv key, .sl 2 0 0, .sl 3 0 0]), .dead, .arr 3 [], .arr 2 []], 0⟩).h[0]? = _
  rw [hg]; rfl
 ·obtain ⟨m, _, rfl⟩ := yK.1 he; rfl
 ·change leS _ ⟨(St.give (fun j => decide (j = 2) || decide (j = 3)) ⟨[(0, .sl 0 0 (l.length + 1))], [.arv 3 (insT (l.map Mis.enc) i [sv key, .sl 2 0 0, .sl 3 0 0]), .dead, .arr 3 [], .arr 2 []], 0⟩).e, (St.give (fun j => decide (j = 2) || decide (j = 3)) ⟨[(0, .sl 0 0 (l.length + 1))], [.arv 3 (insT (l.map Mis.enc) i [sv key, .sl 2 0 0, .sl 3 0 0]), .dead, .arr 3 [], .arr 2 []], 0⟩).h.set 0 _, 0⟩ _
  rw [hg]
  simp -implicitDefEqProofs only [rX,↓reduceIte,leE,leH,leB,keepP,liveP,wfE,wfB,wfV]
end Go.Fx.J
namespace Go.Fx.J
open Go Go.Fx Go.Proofs Go.Fx.R
set_option maxRecDepth 20000
set_option maxHeartbeats 1000000
def askL (j : Jns) (key : S) : List Mis := if j.l.any (eqM key) = true then j.l else insT j.l (posN (ltM key) j.l) ⟨key, [], []⟩
def askM (L : List Mis) (last : Int) (k : Nat) (key : S) (m : Mis) (who : Int) (need : List Sp) : Jns × List Fet :=
 (⟨last + (minusS need (flown m)).length, L.set k ⟨key, (newF last (minusS need (flown m))).foldl insF m.fl, insT m.wt (posN (ltW who) m.wt) ⟨who, need⟩⟩⟩, newF last (minusS need (flown m)))
def askQ (j : Jns) (L : List Mis) (k : Nat) (key : S) (m : Mis) (who : Int) (need : List Sp) : (Jns × List Fet) × Int :=
 if m.wt.any (eqW who) = true then ((j, []), 6)
 else if 1000 ≤ m.wt.length ∨ 1152921504606846976 - ((minusS need (flown m)).length : Int) < j.last then ((j, []), 2)
 else (askM L j.last k key m who need, 0)
def askP (j : Jns) (key : S) (who : Int) (need : List Sp) : (Jns × List Fet) × Int :=
 if 4096 < key.length ∨ vd need = false ∨ need = [] then ((j, []), 1)
 else if j.l.any (eqM key) = false ∧ 1000 ≤ j.l.length then ((j, []), 2)
 else askQ j (askL j key) (posN (ltM key) j.l) key ((askL j key).getD (posN (ltM key) j.l) ⟨[], [], []⟩) who need
theorem ok41L (last : Int) (L : List Mis) (k : Nat) (hk : k < L.length) (hl : L.length ≤ 1000000) (hf : ∀ m ∈ L, m.fl.length ≤ 1099511627776 ∧ m.wt.length ≤ 1000000) : Ok 41 [.agg [.i last, .bro 3 (L.map Mis.enc)], .i k] (IsA (.tup [.agg [.i last, .sl 2 0 L.length], .ptr 2 k 0]) [.dead, .dead, .arv 3 (rowsM L k L[k].key (.sl 3 0 L[k].fl.length) (.sl 4 0 L[k].wt.length)), .arr 3 (L[k].fl.map Fet.enc), .arr 2 (L[k].wt.map Wai.enc)]) := ok41 ⟨last, L⟩ k hk hl hf
structure MW (m : Mis) : Prop where
 n : m.wt.length ≤ 1000
 fn : m.fl.length ≤ 1099511627776
 w : ∀ w ∈ m.wt, Vs w.need
 wo : m.wt.Pairwise fun a b => a.id < b.id
 f : ∀ f ∈ m.fl, 0 ≤ f.sp.1 ∧ f.sp.1 < f.sp.2 ∧ f.sp.2 ≤ 1099511627776
 fo : m.fl.Pairwise fun a b => a.sp.2 ≤ b.sp.1
theorem mw_of {last : Int} {m : Mis} (h : MOk last m) (hf : m.fl.length ≤ 1099511627776) : MW m := ⟨h.n, hf, fun w hw => (h.w w hw).1, h.wo, fun f hf => (h.f f hf).1, h.fo⟩
theorem mw_new {key : S} : MW ⟨key, [], []⟩ := ⟨by simp, by simp, by simp, by simp, by simp, by simp⟩
theorem MW.apt {m : Mis} (h : MW m) : Apt m.fl := apt_of (fun f hf => (h.f f hf).2.1) h.fo
theorem MW.asc {m : Mis} (h : MW m) : Asc1 m.fl := uI (fun {a b} ha hb hr => by have := (h.f a ha).2.1; omega) h.fo
theorem MW.vf {m : Mis} (h : MW m) : Vs (flown m) := vs_of sep_ofS fun x hx => by
 obtain ⟨f, hf, h1, h2⟩ := in_flown.1 hx
 have := h.f f hf
 omega
def GvG (y : V) (r : V) (hs : List Blk) : Prop := ∃ r' hs', Gv y r' hs' ∧ leG [] ⟨[(0, r)], hs, 0⟩ ⟨[(0, r')], hs', 0⟩
theorem okN_gvG {P : Program} {f : FuncId} {xs : List V} {y : V} (h : OkN P f xs [] [] (GvG y)) : OkN P f xs [] [] (Is y) := by
 refine okN_gv ⟨h.1, Fn_ghostN [] (by simp) (by simp) h.2 ?_⟩
 rintro r hs ⟨r', hs', h1, h2⟩
 exact ⟨trivial, r', hs', h1, vI _, h2⟩
theorem ret_gv {rs : List LRes} {y : V} {e : Env} {h : List Blk} {b : Nat} (hr : retP [] 0 rs (Gv y) ⟨e, h, b⟩) : retP [] 0 rs (GvG y) ⟨e, h, b⟩ := by
 rw [retP_eq] at hr ⊢
 refine resP_mono rs [] ?_ hr
 rintro xs ⟨p, h1, h2⟩
 exact ⟨p, h1, _, _, h2, _, .refl _, ⟨rfl, trivial⟩, leH_refl _, trivial, ⟨h1.2.2.2.1, trivial⟩, h1.2.2.2.2⟩
theorem ok10 (j : Jns) (key : S) (who : Int) (need : List Sp) (hj : JOk j) (hf : ∀ m ∈ j.l, m.fl.length ≤ 1099511627776) (hkl : key.length ≤ 5000) (hnl : need.length ≤ 1000) :
  Ok 10 [.agg j.enc, sv key, .i who, spans need] (Is (.tup [.agg (askP j key who need).1.1.enc, fets (askP j key who need).1.2, .i (askP j key who need).2])) := by
 refine okN_gvG ?_
 refine ok_of lw10f (by simp) ?_
 unfold c10f
 have hp : ∀ x y, askP j key who need = (x, y) → (askP j key who need).1 = x ∧ (askP j key who need).2 = y := fun x y h => by rw [h]; exact ⟨rfl, rfl⟩
 simp -implicitDefEqProofs only [rX,↓rY,ofConst,cells?,splice,↓reduceIte,Nat.reduceEqDiff,Nat.reduceAdd,reduceCtorEq,freshP,isC,cxN,sb_size,k_nil,yC,yB,yA,args0]
 cases h0 : decide ((4096 : Int) < (key.length : Int)) with
 | true =>
  obtain ⟨e1, e2⟩ := hp (j, []) 1 (by unfold askP; rw [if_pos (.inl (by have := of_decide_eq_true h0; omega))])
  rw [e1, e2]
  simp -implicitDefEqProofs only [↓rY]
  refine ret_gv (ret_data ?_)
  simp -implicitDefEqProofs only [rX,↓rY,↓reduceIte,Nat.reduceEqDiff,Nat.reduceAdd,resP,tupV,wfV,wfL,yB,yA]
  simp [Gv, tupV, gvV, gvL, wk, wkL, wkR, wfV, wfL]
 | false =>
  simp -implicitDefEqProofs only [↓rY]
  refine call_is (ok37 need) (by simp [lendsOk, lendOk, lends, lend, wkL, wk, wkR, wkB]) rfl trivial ?_
  cases h1 : vd need with
  | false =>
   obtain ⟨e1, e2⟩ := hp (j, []) 1 (by unfold askP; rw [if_pos (.inr (.inl h1))])
   rw [e1, e2]
   simp -implicitDefEqProofs only [rX,↓rY,ofConst,cells?,splice,↓reduceIte,Nat.reduceEqDiff,Nat.reduceAdd,isC,yC,yB,yA]
   refine ret_gv (ret_data ?_)
   simp -implicitDefEqProofs only [rX,↓rY,↓reduceIte,Nat.reduceEqDiff,Nat.reduceAdd,resP,tupV,wfV,wfL,yB,yA]
   simp [Gv, tupV, gvV, gvL, wk, wkL, wkR, wfV, wfL]
  | true =>
   by_cases h2 : need = []
   ·obtain ⟨e1, e2⟩ := hp (j, []) 1 (by unfold askP; rw [if_pos (.inr (.inr h2))])
    rw [e1, e2]
    have hz : ((need.length : Int) == 0) = true := by rw [h2]; rfl
    simp -implicitDefEqProofs only [rX,↓rY,ofConst,cells?,splice,↓reduceIte,Nat.reduceEqDiff,Nat.reduceAdd,reduceCtorEq,isC,yC,yB,yA,hz]
    intro _
    refine ret_gv (ret_data ?_)
    simp -implicitDefEqProofs only [rX,↓rY,↓reduceIte,Nat.reduceEqDiff,Nat.reduceAdd,resP,tupV,wfV,wfL,yB,yA]
    simp [Gv, tupV, gvV, gvL, wk, wkL, wkR, wfV, wfL]
   ·have hz : ((need.length : Int) == 0) = false := by
     cases need with
     | nil => exact absurd rfl h2
     | cons a l => simp; omega
    have h0' : ¬ 4096 < key.length := by have := of_decide_eq_false h0; omega
    have hQ : askP j key who need = if j.l.any (eqM key) = false ∧ 1000 ≤ j.l.length then ((j, []), 2) else askQ j (askL j key) (posN (ltM key) j.l) key ((askL j key).getD (posN (ltM key) j.l) ⟨[], [], []⟩) who need := by
     unfold askP
     rw [if_neg]
     rintro (h | h | h)
     ·exact h0' h
     ·rw [h1] at h; cases h
     ·exact h2 h
    have hn := hj.n
    simp -implicitDefEqProofs only [rX,↓rY,ofConst,cells?,splice,↓reduceIte,Nat.reduceEqDiff,Nat.reduceAdd,reduceCtorEq,isC,yC,yB,yA,hz]
    intro _
    refine call_is (ok38 (.i j.last) j.l key hj.o (by omega)) (by simp [lendsOk, lendOk, lends, lend, wkL, wk, wkR, wkB]) rfl trivial ?_
    cases h3 : j.l.any (eqM key) with
    | true =>
     rw [h3, if_neg (by simp)] at hQ
     obtain ⟨hk, hkey⟩ := posN_any hj.o h3
     have hm := hj.m _ (yD hk)
     have hfl := hf _ (yD hk)
     have haL : askL j key = j.l := if_pos h3
     rw [haL, vA, yM hk, vN] at hQ
     have hlk : posN (ltM key) j.l < j.l.length := hk
     have hm' := mw_of hm hfl
     have h41 := ok41 j (posN (ltM key) j.l) hk (by omega) fun m hm => ⟨yO (hf m hm) (by omega), yO (hj.m m hm).n (by omega)⟩
     rw [hkey] at h41
     obtain ⟨L, hLe⟩ : ∃ L, L = j.l := ⟨_, rfl⟩
     generalize posN (ltM key) j.l = k at *
     generalize j.l[k] = m at *
     replace hm := hm'
     have htL : True := trivial
     have hmn := hm.n
     have hmf := hm.fn
     have hnL : j.l.length ≤ 1001 := by omega
     simp -implicitDefEqProofs only [rX,↓rY,ofConst,cells?,splice,↓reduceIte,Nat.reduceEqDiff,Nat.reduceAdd,freshP,isC,yC,yB,yA]
     refine call_isA [.agg [.i j.last, .bro 3 (j.l.map Mis.enc)], .i k] _ (.tup [.agg [.i j.last, .sl 5 0 j.l.length], .ptr 5 k 0]) _ [.dead, .dead, .arv 3 (rowsM j.l k key (.sl 6 0 m.fl.length) (.sl 7 0 m.wt.length)), .arr 3 (m.fl.map Fet.enc), .arr 2 (m.wt.map Wai.enc)] h41 (by simp [lendsOk, lendOk, lends, lend, wkL, wk, wkB, wkR, blk, htL]) rfl (by simp only [yH, yI, renB, rowsM_ren]; rfl) trivial ?_
     have hk2 : k < (rowsM j.l k key (.sl 6 0 m.fl.length) (.sl 7 0 m.wt.length)).length := by rw [rowsM_len]; exact hk
     simp -implicitDefEqProofs only [rX,↓rY,cells?,splice,↓reduceIte,Nat.reduceEqDiff,Nat.reduceAdd,reduceCtorEq,isC,yC,yA]
     refine ⟨hk2, ?_⟩
     rw [rowsM_at hk2]
     simp -implicitDefEqProofs only [rX,Nat.reduceAdd,yB,yA]
     have htf : yG m.fl.length (m.fl.map Fet.enc) = m.fl.map Fet.enc := yE (by simp)
     have htw : yG m.wt.length (m.wt.map Wai.enc) = m.wt.map Wai.enc := yE (by simp)
     refine call_is (ok42 (sv key) .any m.wt who hm.wo (by omega)) (by simp [lendsOk, lendOk, lends, lend, wkL, wk, wkR, wkB, blk, htw]) rfl trivial ?_
     cases h5 : m.wt.any (eqW who) with
     | true =>
      obtain ⟨e1, e2⟩ := hp (j, []) 6 (by rw [hQ]; unfold askQ; rw [if_pos h5])
      rw [e1, e2]
      simp -implicitDefEqProofs only [rX,↓rY,ofConst,cells?,splice,↓reduceIte,Nat.reduceEqDiff,Nat.reduceAdd,isC,yC,yB,yA]
      refine ret_gv (ret_data ?_)
      simp -implicitDefEqProofs only [rX,↓rY,↓reduceIte,Nat.reduceEqDiff,Nat.reduceAdd,resP,tupV,wfV,wfL,yB,yA]
      simp [Gv, tupV, gvV, gvL, wk, wkL, wkR, wfV, wfL]
     | false =>
      simp -implicitDefEqProofs only [rX,↓rY,↓reduceIte,Nat.reduceEqDiff,Nat.reduceAdd,reduceCtorEq]
      refine ⟨hk2, ?_⟩
      rw [rowsM_at hk2]
      simp -implicitDefEqProofs only [rX,Nat.reduceAdd,yB,yA]
      refine call_is (ok44 (sv key) .any m.fl fun f hf => by have := hm.f f hf; unfold Bs; omega) (by simp [lendsOk, lendOk, lends, lend, wkL, wk, wkR, wkB, blk, htf]) rfl trivial ?_
      simp -implicitDefEqProofs only [rX,↓reduceIte,Nat.reduceEqDiff]
      refine call_is (ok43 need (flown m) (vd_iff.1 h1) (vd_vs hm.vf)) (by simp [lendsOk, lendOk, lends, lend, wkL, wk, wkR, wkB, flown]) rfl trivial ?_
      simp -implicitDefEqProofs only [rX,↓rY,rdK,ofConst,cells?,splice,↓reduceIte,Nat.reduceEqDiff,Nat.reduceAdd,reduceCtorEq,isC,yC,yB,yA]
      refine ⟨hk2, ?_⟩
      rw [rowsM_at hk2]
      simp -implicitDefEqProofs only [rX,↓rY,yA,yP]
      unfold askQ at hQ
      rw [if_neg (by rw [h5]; simp)] at hQ
      cases h6 : decide ((1000 : Int) ≤ (m.wt.length : Int)) with
      | true =>
       obtain ⟨e1, e2⟩ := hp (j, []) 2 (by rw [hQ, if_pos (.inl (by have := of_decide_eq_true h6; omega))])
       rw [e1, e2]
       simp -implicitDefEqProofs only [↓rY]
       intro _
       refine ret_gv (ret_data ?_)
       simp -implicitDefEqProofs only [rX,↓rY,↓reduceIte,Nat.reduceEqDiff,Nat.reduceAdd,resP,tupV,wfV,wfL,yB,yA]
       simp [Gv, tupV, gvV, gvL, wk, wkL, wkR, wfV, wfL]
      | false =>
       have hML : Vd (minusS need (flown m)) := vd_vs (Vs.minus (vs_vd.2 (vd_iff.1 h1)))
       have hMn := hML.len
       have hjl := hj.lo
       simp -implicitDefEqProofs only [↓rY]
       intro _ _
       refine ⟨by simp only [lo, Fx.hi]; omega, ?_⟩
       cases h7 : decide ((1152921504606846976 : Int) - ((minusS need (flown m)).length : Int) < j.last) with
       | true =>
        obtain ⟨e1, e2⟩ := hp (j, []) 2 (by rw [hQ, if_pos (.inr (of_decide_eq_true h7))])
        rw [e1, e2]
        simp -implicitDefEqProofs only [↓rY]
        refine ret_gv (ret_data ?_)
        simp -implicitDefEqProofs only [rX,↓rY,↓reduceIte,Nat.reduceEqDiff,Nat.reduceAdd,resP,tupV,wfV,wfL,yB,yA]
        simp [Gv, tupV, gvV, gvL, wk, wkL, wkR, wfV, wfL]
       | false =>
        have h6' := of_decide_eq_false h6
        have h7' := of_decide_eq_false h7
        rw [if_neg fun h => h.elim (fun h => by omega) h7'] at hQ
        simp -implicitDefEqProofs only [↓rY]
        refine ⟨hk2, ?_⟩
        rw [rowsM_at hk2]
        simp -implicitDefEqProofs only [rX,↓rY,yP]
        refine call_is (ok46 need (by omega)) (by simp [lendsOk, lendOk, lends, lend, wkL, wk, wkR, wkB]) rfl trivial ?_
        simp -implicitDefEqProofs only [rX,↓rY,cells?,splice,↓reduceIte,Nat.reduceEqDiff,Nat.reduceAdd,freshP,buildP,litsP,isD,Nat.reduceLT,Nat.reduceLeDiff,yC,yB,yA,↓op_litsf,↓frzP_n,↓frzP_c,↓frzQ_r]
        have h45 := ok45 (m.wt.map Wai.enc) (posN (ltW who) m.wt) [.i who, spans need] (by rw [vC]; exact posN_le) (by rw [vC]; omega)
        rw [vC, show [V.i who, spans need] = Wai.enc ⟨who, need⟩ from rfl, ← insT_map] at h45
        have hWl : m.wt.length + 1 = (insT m.wt (posN (ltW who) m.wt) ⟨who, need⟩).length := insT_len.symm
        rw [hWl] at h45
        unfold askM at hQ
        generalize insT m.wt (posN (ltW who) m.wt) ⟨who, need⟩ = wt' at *
        refine call_isMA [7, 8] [0, 1] [7, 8] [.sl 0 0 m.wt.length, .i (posN (ltW who) m.wt), .sl 1 0 1] (.sl 0 0 wt'.length) (.sl 7 0 wt'.length) _ _ [.var j.enc, .var [.v (.int .i64 0), .v (.slice none 0 0)], .var [.i j.last, .sl 5 0 j.l.length], .dead, .dead, .arv 3 (rowsM j.l k key (.sl 6 0 m.fl.length) .any), .arr 3 (m.fl.map Fet.enc), .arr 2 (wt'.map Wai.enc), .dead] _ h45 (by simp) (by simp) rfl (by simp [lendsOk, lendOk, lends, lend, wkL, wk, pos]) (by simp only [yH, yI, renB, killB, rowsM_kill]; rfl) rfl rfl trivial ?_
        have hk3 : k < (rowsM j.l k key (.sl 6 0 m.fl.length) .any).length := by rw [rowsM_len]; exact hk
        simp -implicitDefEqProofs only [rX,↓rY,cells?,splice,↓reduceIte,Nat.reduceEqDiff,Nat.reduceAdd,reduceCtorEq,killE,kill,kills,St.kill,isC,yC,yB,yA,rowsM_at hk3,rowsM_put]
        refine ⟨hk3, ?_⟩
        have ht : yG wt'.length (wt'.map Wai.enc) = wt'.map Wai.enc := yE (by simp)
        simp -implicitDefEqProofs only [rX,↓reduceIte,Nat.reduceEqDiff,Nat.reduceAdd,yA,↓frzP_n,↓frzP_c,↓frzQ_s,↓frz1_a,↓aw_frz,get_frzE,frzV,frzL,frzB,rowsM_frz,Nat.reduceEqDiff,ht]
        have hA : Apt (m.fl ++ newF j.last (minusS need (flown m))) := apt_new hm.apt hML.1 fun x hx => (in_minusS.1 hx).2
        have h47 := ok47 j.last j.l.length j.l k hk key m.fl wt' (minusS need (flown m)) (by omega) (by omega) hmf hA hm.asc
        obtain ⟨e1, e2⟩ := hp _ _ hQ
        rw [e1, e2]
        have hFL : m.fl.length + (minusS need (flown m)).length = ((newF j.last (minusS need (flown m))).foldl insF m.fl).length := by rw [insFs_perm.length_eq, yJ, newF_len]
        generalize minusS need (flown m) = l at *
        generalize (newF j.last l).foldl insF m.fl = fl' at *
        have hFl : m.fl.length + l.length = fl'.length := hFL
        refine call_isMA [2, 5, 6] [2] [6] [.ptr 0 0 0, .ptr 1 k 0, spans l] (fets (newF j.last l)) (fets (newF j.last l)) _ _ [.var j.enc, .var [.v (.int .i64 0), .v (.slice none 0 0)], .var [.i (j.last + l.length), .sl 5 0 j.l.length], .dead, .dead, .arv 3 (rowsM j.l k key (.sl 6 0 (m.fl.length + l.length)) (wais wt')), .arr 3 (fl'.map Fet.enc), .dead, .dead] _ h47 (by simp) (by simp) (by simp only [yH, yI, blk, vG, vH, renB, rowsM_ren]; rfl) (by simp [lendsOk, lendOk, lends, lend, wkL, wk, wkR, pos]) (by simp only [yH, yI, renB, killB, rowsM_kill, rowsM_ren]; rfl) rfl rfl trivial ?_
        simp -implicitDefEqProofs only [rX,↓rY,ofConst,cells?,splice,↓reduceIte,Nat.reduceEqDiff,Nat.reduceAdd,resP,tupV,keepP,liveP,wfV,wfL,killE,kill,St.kill,isC,yC,yB,yA,get_frzE,get_killE,frzV,retP_eq]
        have hr : (j.l.set k ⟨key, fl', wt'⟩).map Mis.enc = rowsM j.l k key (fets fl') (wais wt') := by
         unfold rowsM
         rw [vM]
         rfl
        have hf2 : yG fl'.length (fl'.map Fet.enc) = fl'.map Fet.enc := yE (by simp)
        have hL2 : yG j.l.length ((j.l.set k ⟨key, fl', wt'⟩).map Mis.enc) = (j.l.set k ⟨key, fl', wt'⟩).map Mis.enc := yE (by simp)
        have hL3 := hL2
        rw [vM] at hL3
        have hg : St.give (fun j => j == 6) ⟨[(0, .tup [.agg [.i (j.last + l.length), .sl 5 0 j.l.length], fets (newF j.last l), .v (.int .i64 0)])], [.dead, .dead, .dead, .dead, .dead, .arv 3 (rowsM j.l k key (.sl 6 0 (m.fl.length + l.length)) (wais wt')), .arr 3 (fl'.map Fet.enc)], 0⟩ = ⟨[(0, .tup [.agg [.i (j.last + l.length), .sl 5 0 j.l.length], fets (newF j.last l), .v (.int .i64 0)])], [.dead, .dead, .dead, .dead, .dead, .arv 3 ((j.l.set k ⟨key, fl', wt'⟩).map Mis.enc), .dead], 0⟩ := by
         rw [hr, hFl]
         simp [St.give, gvE, gvH, gvB, gvL, gvV, rowsM_gv, blk, hf2]
        refine ⟨[.dead, .dead, .dead, .dead, .dead, .arv 3 (rowsM j.l k key (.sl 6 0 (m.fl.length + l.length)) (wais wt')), .arr 3 (fl'.map Fet.enc)], ⟨by simp [leH, leB], vI _, by simp, ?_⟩, ?_⟩
        ·simp -implicitDefEqProofs only [rX,wfB]
         exact wf_rows (by simp [wfV, liveP]) trivial
        ·refine ⟨.tup [.agg [.i (j.last + l.length), .sl 5 0 j.l.length], fets (newF j.last l), .v (.int .i64 0)], [.dead, .dead, .dead, .dead, .dead, .arr 3 ((j.l.set k ⟨key, fl', wt'⟩).map Mis.enc), .dead], ?_, _, .give (fun j => j == 6) (by simp) (.cls 5 3 ((j.l.set k ⟨key, fl', wt'⟩).map Mis.enc) ?_ (fun e he => ?_) (.refl _)), ?_⟩
         ·simp [Gv, tupV, gvV, gvL, wk, wkL, wkR, blk, hL3]
         ·rw [hg]; rfl
         ·obtain ⟨m, _, rfl⟩ := yK.1 he; rfl
         ·rw [hg]
          simp -implicitDefEqProofs only [rX,↓reduceIte,leE,leH,leB,keepP,liveP,wfE,wfB,wfV,wfL]
    | false =>
     cases h4 : decide ((1000 : Int) ≤ (j.l.length : Int)) with
     | true =>
      obtain ⟨e1, e2⟩ := hp (j, []) 2 (by rw [hQ, if_pos ⟨h3, by have := of_decide_eq_true h4; omega⟩])
      rw [e1, e2]
      simp -implicitDefEqProofs only [rX,↓rY,ofConst,cells?,splice,↓reduceIte,Nat.reduceEqDiff,Nat.reduceAdd,freshP,isC,yC,yB,yA,h4]
      intro _
      refine ret_gv (ret_data ?_)
      simp -implicitDefEqProofs only [rX,↓rY,↓reduceIte,Nat.reduceEqDiff,Nat.reduceAdd,resP,tupV,wfV,wfL,yB,yA]
      simp [Gv, tupV, gvV, gvL, wk, wkL, wkR, wfV, wfL]
     | false =>
      have h4' : ¬ 1000 ≤ j.l.length := by have := of_decide_eq_false h4; omega
      rw [if_neg (fun h => h4' h.2)] at hQ
      simp -implicitDefEqProofs only [rX,↓rY,ofConst,cells?,splice,↓reduceIte,Nat.reduceEqDiff,Nat.reduceAdd,freshP,isC,yC,yB,yA,h4]
      intro _
      have hkL : posN (ltM key) j.l ≤ j.l.length := posN_le
      have haL : askL j key = insT j.l (posN (ltM key) j.l) ⟨key, [], []⟩ := if_neg (by rw [h3]; simp)
      have hk : posN (ltM key) j.l < (insT j.l (posN (ltM key) j.l) ⟨key, [], []⟩).length := by rw [insT_len]; omega
      have hat : (insT j.l (posN (ltM key) j.l) ⟨key, [], []⟩)[posN (ltM key) j.l] = ⟨key, [], []⟩ := by
       simp [insT, uT, hkL]
      rw [haL, vA, yM hk, vN, hat] at hQ
      have h39 := ok39n j.l (posN (ltM key) j.l) key hkL (by omega)
      have h41 := ok41L j.last (insT j.l (posN (ltM key) j.l) ⟨key, [], []⟩) (posN (ltM key) j.l) hk (by simp only [insT_len]; omega) fun m hm => by
       rcases insT_mem.1 hm with rfl | hm
       ·simp
       ·exact ⟨yO (hf m hm) (by omega), yO (hj.m m hm).n (by omega)⟩
      rw [hat] at h41
      have hLn : (insT j.l (posN (ltM key) j.l) ⟨key, [], []⟩).length = j.l.length + 1 := insT_len
      have hm : MW ⟨key, [], []⟩ := mw_new
      have hmk : (⟨key, [], []⟩ : Mis).key = key := rfl
      generalize posN (ltM key) j.l = k at *
      generalize insT j.l k ⟨key, [], []⟩ = L at *
      generalize (⟨key, [], []⟩ : Mis) = m at *
      rw [hmk] at h41
      have hmn := hm.n
      have hmf := hm.fn
      have htL : yG L.length (L.map Mis.enc) = L.map Mis.enc := yE (by simp)
      rw [← hLn] at h39
      refine call_isA [.bro 3 (j.l.map Mis.enc)] (.sl 0 0 j.l.length) (.sl 4 0 j.l.length) [.arr 3 (j.l.map Mis.enc)] [.arr 3 (j.l.map Mis.enc)] (ok40 j.l (by omega)) (by simp [lendsOk, lendOk, lends, lend, wkL, wk, wkB, wkR]) rfl rfl trivial ?_
      simp -implicitDefEqProofs only [rX,↓rY,cells?,splice,↓reduceIte,Nat.reduceEqDiff,Nat.reduceAdd,reduceCtorEq,freshP,buildP,litsP,isD,Nat.reduceLT,Nat.reduceLeDiff,yC,yA]
      refine call_isMA [4, 3] [0, 1] [4, 3] [.sl 0 0 j.l.length, .i k, .sl 1 0 1] (.sl 0 0 L.length) (.sl 4 0 L.length) _ _ [.var j.enc, .var [.v (.int .i64 0), .v (.slice none 0 0)], .var [.i j.last, miss j.l], .dead, .arr 3 (L.map Mis.enc)] _ h39 (by simp) (by simp) rfl (by simp [lendsOk, lendOk, lends, lend, wkL, wk, pos]) rfl rfl rfl trivial ?_
      simp -implicitDefEqProofs only [rX,↓rY,cells?,splice,↓reduceIte,Nat.reduceEqDiff,Nat.reduceAdd,reduceCtorEq,killE,kill,kills,St.kill,isC,Nat.reduceLeDiff,yC,yB,yA]
      refine call_isA [.agg [.i j.last, .bro 3 (L.map Mis.enc)], .i k] _ (.tup [.agg [.i j.last, .sl 7 0 L.length], .ptr 7 k 0]) _ [.dead, .dead, .arv 3 (rowsM L k key (.sl 8 0 m.fl.length) (.sl 9 0 m.wt.length)), .arr 3 (m.fl.map Fet.enc), .arr 2 (m.wt.map Wai.enc)] h41 (by simp [lendsOk, lendOk, lends, lend, wkL, wk, wkB, wkR, blk, htL]) rfl (by simp only [yH, yI, renB, rowsM_ren]; rfl) trivial ?_
      have hk2 : k < (rowsM L k key (.sl 8 0 m.fl.length) (.sl 9 0 m.wt.length)).length := by rw [rowsM_len]; exact hk
      simp -implicitDefEqProofs only [rX,↓rY,cells?,splice,↓reduceIte,Nat.reduceEqDiff,Nat.reduceAdd,reduceCtorEq,isC,yC,yA]
      refine ⟨hk2, ?_⟩
      rw [rowsM_at hk2]
      simp -implicitDefEqProofs only [rX,Nat.reduceAdd,yB,yA]
      have htf : yG m.fl.length (m.fl.map Fet.enc) = m.fl.map Fet.enc := yE (by simp)
      have htw : yG m.wt.length (m.wt.map Wai.enc) = m.wt.map Wai.enc := yE (by simp)
      refine call_is (ok42 (sv key) .any m.wt who hm.wo (by omega)) (by simp [lendsOk, lendOk, lends, lend, wkL, wk, wkR, wkB, blk, htw]) rfl trivial ?_
      cases h5 : m.wt.any (eqW who) with
      | true =>
       obtain ⟨e1, e2⟩ := hp (j, []) 6 (by rw [hQ]; unfold askQ; rw [if_pos h5])
       rw [e1, e2]
       simp -implicitDefEqProofs only [rX,↓rY,ofConst,cells?,splice,↓reduceIte,Nat.reduceEqDiff,Nat.reduceAdd,isC,yC,yB,yA]
       refine ret_gv (ret_data ?_)
       simp -implicitDefEqProofs only [rX,↓rY,↓reduceIte,Nat.reduceEqDiff,Nat.reduceAdd,resP,tupV,wfV,wfL,yB,yA]
       simp [Gv, tupV, gvV, gvL, wk, wkL, wkR, wfV, wfL]
      | false =>
       simp -implicitDefEqProofs only [rX,↓rY,↓reduceIte,Nat.reduceEqDiff,Nat.reduceAdd,reduceCtorEq]
       refine ⟨hk2, ?_⟩
       rw [rowsM_at hk2]
       simp -implicitDefEqProofs only [rX,Nat.reduceAdd,yB,yA]
       refine call_is (ok44 (sv key) .any m.fl fun f hf => by have := hm.f f hf; unfold Bs; omega) (by simp [lendsOk, lendOk, lends, lend, wkL, wk, wkR, wkB, blk, htf]) rfl trivial ?_
       simp -implicitDefEqProofs only [rX,↓reduceIte,Nat.reduceEqDiff]
       refine call_is (ok43 need (flown m) (vd_iff.1 h1) (vd_vs hm.vf)) (by simp [lendsOk, lendOk, lends, lend, wkL, wk, wkR, wkB, flown]) rfl trivial ?_
       simp -implicitDefEqProofs only [rX,↓rY,rdK,ofConst,cells?,splice,↓reduceIte,Nat.reduceEqDiff,Nat.reduceAdd,reduceCtorEq,isC,yC,yB,yA]
       refine ⟨hk2, ?_⟩
       rw [rowsM_at hk2]
       simp -implicitDefEqProofs only [rX,↓rY,yA,yP]
       unfold askQ at hQ
       rw [if_neg (by rw [h5]; simp)] at hQ
       cases h6 : decide ((1000 : Int) ≤ (m.wt.length : Int)) with
       | true =>
        obtain ⟨e1, e2⟩ := hp (j, []) 2 (by rw [hQ, if_pos (.inl (by have := of_decide_eq_true h6; omega))])
        rw [e1, e2]
        simp -implicitDefEqProofs only [↓rY]
        intro _
        refine ret_gv (ret_data ?_)
        simp -implicitDefEqProofs only [rX,↓rY,↓reduceIte,Nat.reduceEqDiff,Nat.reduceAdd,resP,tupV,wfV,wfL,yB,yA]
        simp [Gv, tupV, gvV, gvL, wk, wkL, wkR, wfV, wfL]
       | false =>
        have hML : Vd (minusS need (flown m)) := vd_vs (Vs.minus (vs_vd.2 (vd_iff.1 h1)))
        have hMn := hML.len
        have hjl := hj.lo
        simp -implicitDefEqProofs only [↓rY]
        intro _ _
        refine ⟨by simp only [lo, Fx.hi]; omega, ?_⟩
        cases h7 : decide ((1152921504606846976 : Int) - ((minusS need (flown m)).length : Int) < j.last) with
        | true =>
         obtain ⟨e1, e2⟩ := hp (j, []) 2 (by rw [hQ, if_pos (.inr (of_decide_eq_true h7))])
         rw [e1, e2]
         simp -implicitDefEqProofs only [↓rY]
         refine ret_gv (ret_data ?_)
         simp -implicitDefEqProofs only [rX,↓rY,↓reduceIte,Nat.reduceEqDiff,Nat.reduceAdd,resP,tupV,wfV,wfL,yB,yA]
         simp [Gv, tupV, gvV, gvL, wk, wkL, wkR, wfV, wfL]
        | false =>
         have h6' := of_decide_eq_false h6
         have h7' := of_decide_eq_false h7
         rw [if_neg fun h => h.elim (fun h => by omega) h7'] at hQ
         simp -implicitDefEqProofs only [↓rY]
         refine ⟨hk2, ?_⟩
         rw [rowsM_at hk2]
         simp -implicitDefEqProofs only [rX,↓rY,yP]
         refine call_is (ok46 need (by omega)) (by simp [lendsOk, lendOk, lends, lend, wkL, wk, wkR, wkB]) rfl trivial ?_
         simp -implicitDefEqProofs only [rX,↓rY,cells?,splice,↓reduceIte,Nat.reduceEqDiff,Nat.reduceAdd,freshP,buildP,litsP,isD,Nat.reduceLT,Nat.reduceLeDiff,yC,yB,yA,↓op_litsf,↓frzP_n,↓frzP_c,↓frzQ_r]
         have h45 := ok45 (m.wt.map Wai.enc) (posN (ltW who) m.wt) [.i who, spans need] (by rw [vC]; exact posN_le) (by rw [vC]; omega)
         rw [vC, show [V.i who, spans need] = Wai.enc ⟨who, need⟩ from rfl, ← insT_map] at h45
         have hWl : m.wt.length + 1 = (insT m.wt (posN (ltW who) m.wt) ⟨who, need⟩).length := insT_len.symm
         rw [hWl] at h45
         unfold askM at hQ
         generalize insT m.wt (posN (ltW who) m.wt) ⟨who, need⟩ = wt' at *
         refine call_isMA [9, 10] [0, 1] [9, 10] [.sl 0 0 m.wt.length, .i (posN (ltW who) m.wt), .sl 1 0 1] (.sl 0 0 wt'.length) (.sl 9 0 wt'.length) _ _ [.var j.enc, .var [.v (.int .i64 0), .v (.slice none 0 0)], .var [.i j.last, .sl 7 0 L.length], .dead, .arr 3 (L.map Mis.enc), .dead, .dead, .arv 3 (rowsM L k key (.sl 8 0 m.fl.length) .any), .arr 3 (m.fl.map Fet.enc), .arr 2 (wt'.map Wai.enc), .dead] _ h45 (by simp) (by simp) rfl (by simp [lendsOk, lendOk, lends, lend, wkL, wk, pos]) (by simp only [yH, yI, renB, killB, rowsM_kill]; rfl) rfl rfl trivial ?_
         have hk3 : k < (rowsM L k key (.sl 8 0 m.fl.length) .any).length := by rw [rowsM_len]; exact hk
         simp -implicitDefEqProofs only [rX,↓rY,cells?,splice,↓reduceIte,Nat.reduceEqDiff,Nat.reduceAdd,reduceCtorEq,killE,kill,kills,St.kill,isC,yC,yB,yA,rowsM_at hk3,rowsM_put]
         refine ⟨hk3, ?_⟩
         have ht : yG wt'.length (wt'.map Wai.enc) = wt'.map Wai.enc := yE (by simp)
         simp -implicitDefEqProofs only [rX,↓reduceIte,Nat.reduceEqDiff,Nat.reduceAdd,yA,↓frzP_n,↓frzP_c,↓frzQ_s,↓frz1_a,↓aw_frz,get_frzE,frzV,frzL,frzB,rowsM_frz,Nat.reduceEqDiff,ht]
         have hA : Apt (m.fl ++ newF j.last (minusS need (flown m))) := apt_new hm.apt hML.1 fun x hx => (in_minusS.1 hx).2
         have h47 := ok47 j.last L.length L k hk key m.fl wt' (minusS need (flown m)) (by omega) (by omega) hmf hA hm.asc
         obtain ⟨e1, e2⟩ := hp _ _ hQ
         rw [e1, e2]
         have hFL : m.fl.length + (minusS need (flown m)).length = ((newF j.last (minusS need (flown m))).foldl insF m.fl).length := by rw [insFs_perm.length_eq, yJ, newF_len]
         generalize minusS need (flown m) = l at *
         generalize (newF j.last l).foldl insF m.fl = fl' at *
         have hFl : m.fl.length + l.length = fl'.length := hFL
         refine call_isMA [2, 7, 8] [2] [8] [.ptr 0 0 0, .ptr 1 k 0, spans l] (fets (newF j.last l)) (fets (newF j.last l)) _ _ [.var j.enc, .var [.v (.int .i64 0), .v (.slice none 0 0)], .var [.i (j.last + l.length), .sl 7 0 L.length], .dead, .arr 3 (L.map Mis.enc), .dead, .dead, .arv 3 (rowsM L k key (.sl 8 0 (m.fl.length + l.length)) (wais wt')), .arr 3 (fl'.map Fet.enc), .dead, .dead] _ h47 (by simp) (by simp) (by simp only [yH, yI, blk, vG, vH, renB, rowsM_ren]; rfl) (by simp [lendsOk, lendOk, lends, lend, wkL, wk, wkR, pos]) (by simp only [yH, yI, renB, killB, rowsM_kill, rowsM_ren]; rfl) rfl rfl trivial ?_
         simp -implicitDefEqProofs only [rX,↓rY,ofConst,cells?,splice,↓reduceIte,Nat.reduceEqDiff,Nat.reduceAdd,resP,tupV,keepP,liveP,wfV,wfL,killE,kill,St.kill,isC,yC,yB,yA,get_frzE,get_killE,frzV,retP_eq]
         have hr : (L.set k ⟨key, fl', wt'⟩).map Mis.enc = rowsM L k key (fets fl') (wais wt') := by
          unfold rowsM
          rw [vM]
          rfl
         have hf2 : yG fl'.length (fl'.map Fet.enc) = fl'.map Fet.enc := yE (by simp)
         have hL2 : yG L.length ((L.set k ⟨key, fl', wt'⟩).map Mis.enc) = (L.set k ⟨key, fl', wt'⟩).map Mis.enc := yE (by simp)
         have hL3 := hL2
         rw [vM] at hL3
         have hg : St.give (fun j => j == 8) ⟨[(0, .tup [.agg [.i (j.last + l.length), .sl 7 0 L.length], fets (newF j.last l), .v (.int .i64 0)])], [.dead, .dead, .dead, .dead, .dead, .dead, .dead, .arv 3 (rowsM L k key (.sl 8 0 (m.fl.length + l.length)) (wais wt')), .arr 3 (fl'.map Fet.enc)], 0⟩ = ⟨[(0, .tup [.agg [.i (j.last + l.length), .sl 7 0 L.length], fets (newF j.last l), .v (.int .i64 0)])], [.dead, .dead, .dead, .dead, .dead, .dead, .dead, .arv 3 ((L.set k ⟨key, fl', wt'⟩).map Mis.enc), .dead], 0⟩ := by
          rw [hr, hFl]
          simp [St.give, gvE, gvH, gvB, gvL, gvV, rowsM_gv, blk, hf2]
         refine ⟨[.dead, .dead, .dead, .dead, .dead, .dead, .dead, .arv 3 (rowsM L k key (.sl 8 0 (m.fl.length + l.length)) (wais wt')), .arr 3 (fl'.map Fet.enc)], ⟨by simp [leH, leB], vI _, by simp, ?_⟩, ?_⟩
         ·simp -implicitDefEqProofs only [rX,wfB]
          exact wf_rows (by simp [wfV, liveP]) trivial
         ·refine ⟨.tup [.agg [.i (j.last + l.length), .sl 7 0 L.length], fets (newF j.last l), .v (.int .i64 0)], [.dead, .dead, .dead, .dead, .dead, .dead, .dead, .arr 3 ((L.set k ⟨key, fl', wt'⟩).map Mis.enc), .dead], ?_, _, .give (fun j => j == 8) (by simp) (.cls 7 3 ((L.set k ⟨key, fl', wt'⟩).map Mis.enc) ?_ (fun e he => ?_) (.refl _)), ?_⟩
          ·simp [Gv, tupV, gvV, gvL, wk, wkL, wkR, blk, hL3]
          ·rw [hg]; rfl
          ·obtain ⟨m, _, rfl⟩ := yK.1 he; rfl
          ·rw [hg]
           simp -implicitDefEqProofs only [rX,↓reduceIte,leE,leH,leB,keepP,liveP,wfE,wfB,wfV,wfL]
end Go.Fx.J
namespace Go.Fx.J
open Go Go.Fx Go.Proofs Go.Fx.R
set_option maxRecDepth 20000
def comeD (wt : List Wai) (here : List Sp) : List Int := wt.filterMap fun w => if (minusS w.need here).length = 0 then some w.id else none
def comeR (wt : List Wai) (here : List Sp) : List Wai := wt.filterMap fun w => if (minusS w.need here).length = 0 then none else some ⟨w.id, minusS w.need here⟩
theorem come_step {wt : List Wai} {here : List Sp} {i : Nat} (h : i < wt.length) :
  comeD (wt.take (i + 1)) here = comeD (wt.take i) here ++ (if (minusS wt[i].need here).length = 0 then [wt[i].id] else []) ∧
  comeR (wt.take (i + 1)) here = comeR (wt.take i) here ++ (if (minusS wt[i].need here).length = 0 then [] else [⟨wt[i].id, minusS wt[i].need here⟩]) := by
 unfold comeD comeR
 rw [vJ h, uU, uU]
 by_cases h : (minusS wt[i].need here).length = 0
 ·have h' := vK.1 h
  simp [h']
 ·have h' : ¬ minusS wt[i].need here = [] := fun e => h (by rw [e]; rfl)
  simp [h']
theorem comeD_len {wt : List Wai} {here : List Sp} : (comeD wt here).length ≤ wt.length := uV _ _
theorem comeR_len {wt : List Wai} {here : List Sp} : (comeR wt here).length ≤ wt.length := uV _ _
theorem comeR_mem {wt : List Wai} {here : List Sp} {w : Wai} (h : w ∈ comeR wt here) : ∃ v ∈ wt, (minusS v.need here).length ≠ 0 ∧ w = ⟨v.id, minusS v.need here⟩ := by
 obtain ⟨v, hv, h⟩ := uJ.1 h
 split at h
 ·cases h
 ·rename_i hc
  exact ⟨v, hv, hc, by simpa using h.symm⟩
def hereP (m : Mis) (i : Nat) (got : List Sp) : List Sp := meetS [(fAt m i).sp] got
def wantP (key : S) (m : Mis) (i : Nat) (got : List Sp) : List Sp := meetS (minusS [(fAt m i).sp] (hereP m i got)) (needed ⟨key, lessL m.fl i, comeR m.wt (hereP m i got)⟩)
def comeM (j : Jns) (k : Nat) (key : S) (m : Mis) (i : Nat) (got : List Sp) : (Jns × List Int × List Fet) × Int :=
 if 1152921504606846976 - ((wantP key m i got).length : Int) < j.last then ((j, [], []), 2)
 else ((⟨j.last + (wantP key m i got).length, cleanL j.l k key ((newF j.last (wantP key m i got)).foldl insF (lessL m.fl i)) (comeR m.wt (hereP m i got))⟩, comeD m.wt (hereP m i got), newF j.last (wantP key m i got)), 0)
def comeP (j : Jns) (key : S) (id : Int) (got : List Sp) : (Jns × List Int × List Fet) × Int :=
 if j.l.any (eqM key) = false then ((j, [], []), 5)
 else if (mAt j (posN (ltM key) j.l)).fl.any (eqF id) = false then ((j, [], []), 5)
 else if vd got = false then ((j, [], []), 1)
 else comeM j (posN (ltM key) j.l) key (mAt j (posN (ltM key) j.l)) ((mAt j (posN (ltM key) j.l)).fl.findIdx (eqF id)) got
theorem less_apart {l : List Fet} {i : Nat} (hi : i < l.length) (ho : l.Pairwise fun a b => a.sp.2 ≤ b.sp.1) {f : Fet} (hf : f ∈ lessL l i) : f.sp.2 ≤ l[i].sp.1 ∨ l[i].sp.2 ≤ f.sp.1 := by
 rw [vO] at ho
 unfold lessL at hf
 rcases yF.1 hf with h | h
 ·obtain ⟨a, ha, rfl⟩ := yL h
  rw [vP]
  rw [yV] at ha
  exact .inl (ho a i (by omega) hi (by omega))
 ·obtain ⟨a, ha, rfl⟩ := yL h
  rw [vQ]
  rw [vR] at ha
  exact .inr (ho i (i + 1 + a) hi (by omega) (by omega))
theorem less_pair {α : Type} {r : α → α → Prop} {l : List α} {i : Nat} (h : l.Pairwise r) : (lessL l i).Pairwise r := by
 have hs : (lessL l i).Sublist l := by
  unfold lessL
  conv => rhs; rw [← vD i l]
  exact (List.Sublist.refl _).append (List.drop_sublist_drop_left l (by omega))
 exact h.sublist hs
theorem ok18 (j : Jns) (key : S) (id : Int) (got : List Sp) (hj : JOk j) (hf : ∀ m ∈ j.l, m.fl.length ≤ 1099511627776) :
  Ok 18 [.agg j.enc, sv key, .i id, spans got] (Is (.tup [.agg (comeP j key id got).1.1.enc, ints (comeP j key id got).1.2.1, fets (comeP j key id got).1.2.2, .i (comeP j key id got).2])) := by
 refine okN_gv ?_
 refine ok_of lw18f (by simp) ?_
 unfold c18f
 have hp : ∀ x y, comeP j key id got = (x, y) → (comeP j key id got).1 = x ∧ (comeP j key id got).2 = y := fun x y h => by rw [h]; exact ⟨rfl, rfl⟩
 simp -implicitDefEqProofs only [rX,↓rY,ofConst,cells?,↓reduceIte,Nat.reduceEqDiff,Nat.reduceAdd,reduceCtorEq,freshP,cxN,yB,yA,args0]
 refine call_is (ok38 (.i j.last) j.l key hj.o (by have := hj.n; omega)) (by simp [lendsOk, lendOk, lends, lend, wkL, wk, wkR, wkB]) rfl trivial ?_
 cases h1 : j.l.any (eqM key) with
 | false =>
  obtain ⟨e1, e2⟩ := hp (j, [], []) 5 (by unfold comeP; rw [if_pos h1])
  rw [e1, e2]
  simp -implicitDefEqProofs only [rX,↓rY,ofConst,cells?,splice,↓reduceIte,Nat.reduceEqDiff,Nat.reduceAdd,isC,yC,yB,yA]
  refine ret_data ?_
  simp -implicitDefEqProofs only [rX,↓rY,↓reduceIte,Nat.reduceEqDiff,Nat.reduceAdd,resP,tupV,wfV,wfL,yB,yA]
  simp [Gv, tupV, gvV, gvL, wk, wkL, wkR, wfV, wfL]
 | true =>
  obtain ⟨hk, hkey⟩ := posN_any hj.o h1
  have hm := hj.m _ (yD hk)
  have hfl := hf _ (yD hk)
  have hat := mAt_eq hk
  have hl : comeP j key id got = if j.l[posN (ltM key) j.l].fl.any (eqF id) = false then ((j, [], []), 5) else if vd got = false then ((j, [], []), 1) else comeM j (posN (ltM key) j.l) key j.l[posN (ltM key) j.l] (j.l[posN (ltM key) j.l].fl.findIdx (eqF id)) got := by
   unfold comeP
   rw [if_neg (by rw [h1]; simp), hat]
  generalize posN (ltM key) j.l = k at *
  simp -implicitDefEqProofs only [rX,↓rY,↓reduceIte,Nat.reduceEqDiff,Nat.reduceAdd,reduceCtorEq,ms_len,ms_t,yA]
  have hn := hj.n
  have hwn := hm.n
  refine ⟨⟨by omega, by omega⟩, hk, ?_⟩
  refine call_is (ok54 (sv j.l[k].key) .any j.l[k].fl id) (by simp [lendsOk, lendOk, lends, lend, wkL, wk, wkR, wkB, Mis.enc]) rfl trivial ?_
  cases h2 : j.l[k].fl.any (eqF id) with
  | false =>
   obtain ⟨e1, e2⟩ := hp (j, [], []) 5 (by rw [hl, if_pos h2])
   rw [e1, e2]
   have hfi : fstI (eqF id) j.l[k].fl = -1 := by unfold fstI; rw [if_neg (by rw [h2]; simp)]
   have hlt : decide ((-1 : Int) < 0) = true := rfl
   simp -implicitDefEqProofs only [rX,↓rY,ofConst,cells?,splice,↓reduceIte,Nat.reduceEqDiff,Nat.reduceAdd,reduceCtorEq,isC,yC,yB,yA,hfi,hlt]
   refine ret_data ?_
   simp -implicitDefEqProofs only [rX,↓rY,↓reduceIte,Nat.reduceEqDiff,Nat.reduceAdd,resP,tupV,wfV,wfL,yB,yA]
   simp [Gv, tupV, gvV, gvL, wk, wkL, wkR, wfV, wfL]
  | true =>
   have hi : j.l[k].fl.findIdx (eqF id) < j.l[k].fl.length := by
    obtain ⟨f, hf, he⟩ := yX.1 h2
    exact vV.2 ⟨f, hf, he⟩
   have hfi : fstI (eqF id) j.l[k].fl = (j.l[k].fl.findIdx (eqF id) : Nat) := by unfold fstI; rw [if_pos h2]
   rw [if_neg (by rw [h2]; simp)] at hl
   rw [hfi]
   generalize j.l[k].fl.findIdx (eqF id) = i at *
   have hlt : decide ((i : Int) < 0) = false := decide_eq_false (by omega)
   simp -implicitDefEqProofs only [rX,↓rY,ofConst,cells?,splice,↓reduceIte,Nat.reduceEqDiff,Nat.reduceAdd,reduceCtorEq,isC,yC,yB,yA,hlt]
   refine call_is (ok37 got) (by simp [lendsOk, lendOk, lends, lend, wkL, wk, wkR, wkB]) rfl trivial ?_
   cases h3 : vd got with
   | false =>
    obtain ⟨e1, e2⟩ := hp (j, [], []) 1 (by rw [hl, if_pos h3])
    rw [e1, e2]
    simp -implicitDefEqProofs only [rX,↓rY,ofConst,cells?,splice,↓reduceIte,Nat.reduceEqDiff,Nat.reduceAdd,isC,yC,yB,yA]
    refine ret_data ?_
    simp -implicitDefEqProofs only [rX,↓rY,↓reduceIte,Nat.reduceEqDiff,Nat.reduceAdd,resP,tupV,wfV,wfL,yB,yA]
    simp [Gv, tupV, gvV, gvL, wk, wkL, wkR, wfV, wfL]
   | true =>
    rw [if_neg (by rw [h3]; simp)] at hl
    have hgd : Vd got := vd_iff.1 h3
    have h41 := ok41 j k hk (by omega) fun m hm => ⟨yO (hf m hm) (by omega), yO (hj.m m hm).n (by omega)⟩
    rw [hkey] at h41
    simp -implicitDefEqProofs only [rX,↓rY,↓reduceIte,Nat.reduceEqDiff,Nat.reduceAdd,yB,yA]
    refine call_isA [.agg [.i j.last, .bro 3 (j.l.map Mis.enc)], .i k] _ (.tup [.agg [.i j.last, .sl 5 0 j.l.length], .ptr 5 k 0]) _ [.dead, .dead, .arv 3 (rowsM j.l k key (.sl 6 0 j.l[k].fl.length) (.sl 7 0 j.l[k].wt.length)), .arr 3 (j.l[k].fl.map Fet.enc), .arr 2 (j.l[k].wt.map Wai.enc)] h41 (by simp [lendsOk, lendOk, lends, lend, wkL, wk, wkB, wkR]) rfl (by simp only [yH, yI, renB, rowsM_ren]; rfl) trivial ?_
    generalize j.l[k] = m at *
    have hk2 : k < (rowsM j.l k key (.sl 6 0 m.fl.length) (.sl 7 0 m.wt.length)).length := by rw [rowsM_len]; exact hk
    simp -implicitDefEqProofs only [rX,↓rY,ofConst,cells?,splice,↓reduceIte,Nat.reduceEqDiff,Nat.reduceAdd,reduceCtorEq,freshP,isC,yC,yA]
    refine ⟨hk2, ?_⟩
    rw [rowsM_at hk2]
    simp -implicitDefEqProofs only [rX,Nat.reduceAdd,yB,yA]
    have htf : yG m.fl.length (m.fl.map Fet.enc) = m.fl.map Fet.enc := yE (by simp)
    refine call_is (ok54 (sv key) .any m.fl id) (by simp [lendsOk, lendOk, lends, lend, wkL, wk, wkR, wkB, blk, htf]) rfl trivial ?_
    simp -implicitDefEqProofs only [rX,↓rY,cells?,↓reduceIte,Nat.reduceEqDiff,Nat.reduceAdd,freshP,litsP,Nat.reduceLT,yA,hfi]
    refine ⟨hk2, ?_⟩
    rw [rowsM_at hk2]
    simp -implicitDefEqProofs only [rX,↓rY,arrSz,Nat.reduceAdd,enS_len,enS_D,ft_len,ft_d1,yA,yP]
    refine ⟨⟨by omega, by omega⟩, hi, ?_⟩
    have hlf : m.fl.length - 1 = (lessL m.fl i).length := by unfold lessL; simp; omega
    simp -implicitDefEqProofs only [rX,↓rY,ofConst,↓reduceIte,Nat.reduceEqDiff,Nat.reduceAdd,yA,↓frzP_n,↓frzP_c,↓frzQ_s,↓frz1_a,↓aw_frz,get_frzE,frzV,frzL,frzB,rowsM_frz,Nat.reduceEqDiff]
    refine ⟨hk2, ?_⟩
    rw [rowsM_at hk2]
    simp -implicitDefEqProofs only [rX,↓rY,yP]
    refine ⟨by simp only [lo, Fx.hi]; omega, ?_⟩
    refine call_isMA [6] [] [] [.sl 0 0 m.fl.length, .i i, .i ((i : Int) + 1)] (.sl 0 0 (m.fl.length - 1)) (.sl 6 0 (lessL m.fl i).length) _ _ [.var [.i j.last, miss j.l], .var [.v (.int .i64 0), .v (.slice none 0 0)], .var [.i j.last, .sl 5 0 j.l.length], .dead, .dead, .arv 3 (rowsM j.l k key (.sl 6 0 m.fl.length) (.sl 7 0 m.wt.length)), .arr 3 ((lessL m.fl i).map Fet.enc), .arr 2 (m.wt.map Wai.enc), .dead] _ (ok55 m.fl i hi) (by simp) (by simp) rfl (by simp [lendsOk, lendOk, lends, lend, wkL, wk, pos]) (by simp only [yH, yI, renB, killB, rowsM_kill]; rfl) (by rw [← hlf]; rfl) rfl trivial ?_
    simp -implicitDefEqProofs only [rX,↓rY,cells?,splice,↓reduceIte,Nat.reduceEqDiff,Nat.reduceAdd,reduceCtorEq,killE,kill,St.kill,isC,Nat.reduceLeDiff,yC,yB,yA,rowsM_at hk2,rowsM_put,get_frzE,get_killE,frzV,Nat.reduceEqDiff]
    refine ⟨hk2, ?_⟩
    have hspi := hm.f _ (yD hi)
    have hfa : fAt m i = m.fl[i] := fAt_eq hi
    have hsp := vd_vs (vs_one hspi.1)
    have hap := fun f (h : f ∈ lessL m.fl i) => less_apart hi hm.fo h
    have hhp : hereP m i got = meetS [m.fl[i].sp] got := by unfold hereP; rw [hfa]
    unfold comeM at hl
    obtain ⟨e, he⟩ : ∃ e, e = wantP key m i got := ⟨_, rfl⟩
    have he' : e = meetS (minusS [m.fl[i].sp] (hereP m i got)) (needed ⟨key, lessL m.fl i, comeR m.wt (hereP m i got)⟩) := by rw [he]; unfold wantP; rw [hfa]
    rw [← he] at hl
    clear he
    have hdh : Vd (meetS [m.fl[i].sp] got) := vd_vs (Vs.meet (vs_one hspi.1))
    rw [hhp] at hl he'
    generalize m.fl[i].sp = sp at *
    refine call_is (ok56 [sp] got hsp hgd) (by simp [lendsOk, lendOk, lends, lend, wkL, wk, wkR, wkB]) rfl trivial ?_
    generalize meetS [sp] got = here at *
    have hk3 : k < (rowsM j.l k key (.sl 6 0 (lessL m.fl i).length) (.sl 7 0 m.wt.length)).length := by rw [rowsM_len]; exact hk
    simp -implicitDefEqProofs only [rX,↓rY,ofConst,↓reduceIte,Nat.reduceEqDiff,Nat.reduceAdd,kill,St.kill,get_frzE,get_killE,frzV,Nat.reduceEqDiff]
    refine ⟨hk3, ?_⟩
    rw [rowsM_at hk3]
    simp -implicitDefEqProofs only [rX,↓rY,yP]
    intro hml
    have hfr : (lessL m.fl i).length ≤ 1099511627776 := by omega
    obtain ⟨fl, hfe⟩ : ∃ fl, fl = lessL m.fl i := ⟨_, rfl⟩
    rw [← hfe] at hl he' hk3 hap hfr ⊢
    refine loopP_ghost (.virt 1 1 (by decide) (.virt 1 2 (by decide) (.nilE 19 9 rfl (.nilE 20 10 rfl (.refl _))))) (fun g : Nat => ⟨[(87, .i g), (86, .i m.wt.length), (85, .sl 7 0 m.wt.length), (20, .sl 10 0 (comeR (m.wt.take g) here).length), (19, .sl 9 0 (comeD (m.wt.take g) here).length), (18, spans here), (17, spans [sp]), (15, .ptr 5 k 0), (14, .ptr 2 0 0), (12, .i k), (8, .ptr 1 0 0), (4, .ptr 0 0 0)], [.var [.i j.last, miss j.l], .var [.v (.int .i64 0), .v (.slice none 0 0)], .var [.i j.last, .sl 5 0 j.l.length], .dead, .dead, .arv 3 (rowsM j.l k key (.sl 6 0 fl.length) (.sl 7 0 m.wt.length)), .arr 3 (fl.map Fet.enc), .arr 2 (m.wt.map Wai.enc), .dead, .arr 1 ((comeD (m.wt.take g) here).map encI), .arr 2 ((comeR (m.wt.take g) here).map Wai.enc)], 9⟩) (fun g => g ≤ m.wt.length) (fun g => m.wt.length - g) 0 (by omega) ?_ ?_
    ·simp -implicitDefEqProofs only [rX,↓reduceIte,Nat.reduceEqDiff,reduceCtorEq,leE,leH,leB,leV,leVs,keepP,liveP,wfE,wfB,wfV,wfL,kill,St.kill,yB,yA,uR,comeR,comeD,List.filterMap_nil,yT,get_frzE,get_killE,frzV,Nat.reduceEqDiff]
     exact ⟨rfl, wf_rows (by simp [wfV, liveP]) (by simp [wfV, liveP])⟩
    intro g hg
    unfold c18l0
    have hDl := comeD_len (wt := m.wt.take g) (here := here)
    have hRl := comeR_len (wt := m.wt.take g) (here := here)
    rw [uW hg] at hDl hRl
    rcases yN g m.wt.length with hg' | hg'
    ·have hd : decide ((g : Int) < (m.wt.length : Int)) = true := decide_eq_true (by omega)
     obtain ⟨s1, s2⟩ := come_step (here := here) hg'
     have hwv := (hm.w _ (yD hg')).1
     simp -implicitDefEqProofs only [rX,↓rY,ofConst,cells?,splice,↓reduceIte,Nat.reduceEqDiff,arrSz,Nat.reduceAdd,freshP,wt_len,wt_t,wt_1,wt_C,yC,yA,hd]
     refine ⟨⟨by omega, by omega⟩, hg', ?_⟩
     refine call_is (ok43 m.wt[g].need here (vd_vs hwv) hdh) (by simp [lendsOk, lendOk, lends, lend, wkL, wk, wkR, wkB]) rfl trivial ?_
     have hW : yG 1 m.wt[g].enc ++ [spans (minusS m.wt[g].need here)] ++ List.drop 2 m.wt[g].enc = Wai.enc ⟨m.wt[g].id, minusS m.wt[g].need here⟩ := rfl
     simp -implicitDefEqProofs only [rX,↓rY,ofConst,cells?,splice,↓reduceIte,Nat.reduceEqDiff,Nat.reduceAdd,reduceCtorEq,freshP,litsP,leE,leH,leB,leV,leVs,keepP,liveP,wfE,wfB,wfV,wfL,killE,killB,kill,kills,St.kill,isC,Nat.reduceLT,wt_len,wt_k,yB,yA]
     rw [hW]
     by_cases hz : (minusS m.wt[g].need here).length = 0
     ·have hzb : (((minusS m.wt[g].need here).length : Int) == 0) = true := by rw [hz]; rfl
      rw [if_pos hz] at s1
      rw [if_pos hz, uK] at s2
      simp -implicitDefEqProofs only [rX,↓rY,isD,wt_t,wt_0,wt_1,yA,hzb]
      refine fun _ => ⟨by omega, by simp only [lo, Fx.hi]; omega, g + 1, ⟨hg', by omega⟩, ⟨by omega, by rw [s2], by rw [s1, yJ]; rfl⟩, ⟨?_, ?_, by rw [s2]⟩, wf_rows (by simp [wfV, liveP]) (by simp [wfV, liveP])⟩
      ·rw [rowsM_kill]; rfl
      ·rw [s1, yE (by simp), yQ]; rfl
     ·have hzb : (((minusS m.wt[g].need here).length : Int) == 0) = false := by rw [beq_eq_false_iff_ne]; omega
      rw [if_neg hz, uK] at s1
      rw [if_neg hz] at s2
      simp -implicitDefEqProofs only [rX,↓rY,ofConst,cells?,↓reduceIte,Nat.reduceEqDiff,Nat.reduceAdd,reduceCtorEq,freshP,litsP,leE,leH,leB,leV,leVs,keepP,liveP,wfE,wfB,wfV,wfL,killE,killB,kill,kills,St.kill,isD,Nat.reduceLT,wt_len,wt_t,wt_0,wt_1,wt_D,wt_k,yB,yA,hzb,↓op_litsf,↓frzP_n,↓frzP_c,↓frzQ_a]
      refine fun _ => ⟨by simp [Wai.enc], by omega, by simp only [lo, Fx.hi]; omega, g + 1, ⟨hg', by omega⟩, ⟨by omega, by rw [s2, yJ]; rfl, by rw [s1]⟩, ⟨?_, by rw [s1], ?_⟩, wf_rows (by simp [wfV, liveP]) (by simp [wfV, liveP])⟩
      ·rw [rowsM_kill]; rfl
      ·rw [s2, yE (by simp), yQ]; rfl
    ·have hd : decide ((g : Int) < (m.wt.length : Int)) = false := decide_eq_false (by omega)
     have hge : g = m.wt.length := by omega
     subst hge
     rw [vW] at hDl hRl ⊢
     simp -implicitDefEqProofs only [rX,↓rY,cells?,splice,↓reduceIte,Nat.reduceEqDiff,Nat.reduceAdd,isC,yC,yB,yA,hd,rowsM_at hk3,rowsM_put]
     refine ⟨hk3, ?_⟩
     have hwr : ∀ w ∈ comeR m.wt here, Vs w.need := fun w hw => by
      obtain ⟨v, hv, _, rfl⟩ := comeR_mem hw
      exact Vs.minus (hm.w v hv).1
     have hl2 := hl
     generalize comeR m.wt here = wt at *
     generalize comeD m.wt here = D at *
     have ht : yG wt.length (wt.map Wai.enc) = wt.map Wai.enc := yE (by simp)
     have hk4 : k < (rowsM j.l k key (.sl 6 0 fl.length) (.ro 2 (wt.map Wai.enc))).length := by rw [rowsM_len]; exact hk
     simp -implicitDefEqProofs only [rX,↓rY,rdK,↓reduceIte,Nat.reduceEqDiff,Nat.reduceAdd,yA,↓frzP_n,↓frzP_c,↓frzQ_s,↓frz1_a,↓aw_frz,get_frzE,frzV,frzL,frzB,rowsM_frz,Nat.reduceEqDiff,ht]
     refine ⟨hk4, ?_⟩
     rw [rowsM_at hk4]
     simp -implicitDefEqProofs only [rX,Nat.reduceAdd,yB,yA]
     have hVm : Vd (minusS [sp] here) := vd_vs (Vs.minus (vs_one hspi.1))
     have hVn : Vd (needed ⟨key, fl, wt⟩) := vd_vs (vs_need hwr)
     have hVe : Vd e := by rw [he']; exact vd_vs (Vs.meet (vs_vd.2 hVm))
     have hel := hVe.len
     have hein : ∀ x, inS e x → inS [sp] x := fun x hx => by rw [he'] at hx; exact (in_minusS.1 (in_meetS.1 hx).1).1
     refine call_is (ok43 [sp] here hsp hdh) (by simp [lendsOk, lendOk, lends, lend, wkL, wk, wkR, wkB]) rfl trivial ?_
     simp -implicitDefEqProofs only [rX,↓reduceIte,Nat.reduceEqDiff]
     refine call_is (ok57 key wt fun w h => (vd_vs (hwr w h)).2) (by simp [lendsOk, lendOk, lends, lend, wkL, wk, wkR, wkB, blk]) rfl trivial ?_
     rw [show ofS (nd wt) = needed ⟨key, fl, wt⟩ from rfl]
     simp -implicitDefEqProofs only [rX,↓reduceIte,Nat.reduceEqDiff]
     refine call_is (ok56 (minusS [sp] here) (needed ⟨key, fl, wt⟩) hVm hVn) (by simp [lendsOk, lendOk, lends, lend, wkL, wk, wkR, wkB]) rfl trivial ?_
     rw [← he']
     have hjl := hj.lo
     simp -implicitDefEqProofs only [rX,↓rY,ofConst,cells?,splice,↓reduceIte,Nat.reduceEqDiff,Nat.reduceAdd,reduceCtorEq,isC,yC,yB,yA,get_frzE,frzV,Nat.reduceEqDiff]
     intro _
     refine ⟨by simp only [lo, Fx.hi]; omega, ?_⟩
     cases h4 : decide ((1152921504606846976 : Int) - (e.length : Int) < j.last) with
     | true =>
      obtain ⟨e1, e2⟩ := hp (j, [], []) 2 (by rw [hl, if_pos (of_decide_eq_true h4)])
      rw [e1, e2]
      simp -implicitDefEqProofs only [↓rY]
      refine ret_data ?_
      simp -implicitDefEqProofs only [rX,↓rY,↓reduceIte,Nat.reduceEqDiff,Nat.reduceAdd,resP,tupV,wfV,wfL,yB,yA,get_frzE,frzV,Nat.reduceEqDiff]
      simp [Gv, tupV, gvV, gvL, wk, wkL, wkR, wfV, wfL]
     | false =>
      rw [if_neg (of_decide_eq_false h4)] at hl
      obtain ⟨e1, e2⟩ := hp _ _ hl
      rw [e1, e2]
      have h4' := of_decide_eq_false h4
      have hfm : ∀ f ∈ fl, 0 ≤ f.sp.1 ∧ f.sp.1 < f.sp.2 ∧ f.sp.2 ≤ 1099511627776 := fun f hf => (hm.f f (mem_less (by rw [hfe] at hf; exact hf))).1
      have hfo : fl.Pairwise fun a b => a.sp.2 ≤ b.sp.1 := by rw [hfe]; exact less_pair hm.fo
      have hA : Apt (fl ++ newF j.last e) := apt_new (m := ⟨key, fl, wt⟩) (apt_of (fun f hf => (hfm f hf).2.1) hfo) hVe.1 fun x hx hc => by
       obtain ⟨f, hf, a1, a2⟩ := in_flown.1 hc
       obtain ⟨s, hs, b1, b2⟩ := hein x hx
       obtain rfl : s = sp := by simpa using hs
       have := hap f hf
       omega
      have hasc : Asc1 fl := uI (fun {a b} ha hb hr => by have := (hfm a ha).2.1; omega) hfo
      have h47 := ok47 j.last j.l.length j.l k hk key fl wt e (by omega) hel hfr hA hasc
      simp -implicitDefEqProofs only [↓rY]
      have hFL : fl.length + e.length = ((newF j.last e).foldl insF fl).length := by rw [insFs_perm.length_eq, yJ, newF_len]
      have hfx : ∀ f ∈ (newF j.last e).foldl insF fl, Vd [f.sp] := fun f hf => by
       rcases yF.1 (insFs_perm.mem_iff.1 hf) with hf | hf
       ·exact vd_vs (vs_one (hfm f hf))
       ·have a := (newF_mem hf).1
        have b := hVe.2 _ a
        have c := hVe.1.1 _ a
        exact vd_vs (vs_one (by omega))
      rw [hFL] at h47
      have hcO : cleanO key ((newF j.last e).foldl insF fl) wt = cleanO key ((newF j.last e).foldl insF fl) wt := rfl
      have hVn' : Vd (needed ⟨key, (newF j.last e).foldl insF fl, wt⟩) := hVn
      have hnl : ((newF j.last e).foldl insF fl).length ≤ 2199023255552 := by omega
      generalize (newF j.last e).foldl insF fl = fl' at *
      refine call_isMA [2, 5, 6] [2] [6] [.ptr 0 0 0, .ptr 1 k 0, spans e] (fets (newF j.last e)) (fets (newF j.last e)) _ _ [.var [.i j.last, miss j.l], .var [.v (.int .i64 0), .v (.slice none 0 0)], .var [.i (j.last + e.length), .sl 5 0 j.l.length], .dead, .dead, .arv 3 (rowsM j.l k key (.sl 6 0 fl'.length) (wais wt)), .arr 3 (fl'.map Fet.enc), .arr 2 (m.wt.map Wai.enc), .dead, .arr 1 (D.map encI), .dead] _ h47 (by simp) (by simp) (by simp only [yH, yI, blk, vG, vH, renB, rowsM_ren]; rfl) (by simp [lendsOk, lendOk, lends, lend, wkL, wk, wkR, pos]) (by simp only [yH, yI, renB, killB, rowsM_kill, rowsM_ren]; rfl) rfl rfl trivial ?_
      simp -implicitDefEqProofs only [rX,↓reduceIte,Nat.reduceEqDiff,Nat.reduceAdd,reduceCtorEq,killE,kill,kills,St.kill,get_frzE,get_killE,frzV,Nat.reduceEqDiff]
      refine call_isMA [2, 5, 6] [2] [6] [.ptr 0 0 0, .i k] (ints (cleanO key fl' wt)) (ints (cleanO key fl' wt)) _ _ [.var [.i j.last, miss j.l], .var [.v (.int .i64 0), .v (.slice none 0 0)], .var [.i (j.last + e.length), .sl 5 0 (cleanL j.l k key fl' wt).length], .dead, .dead, .arr 3 ((cleanL j.l k key fl' wt).map Mis.enc), .dead, .arr 2 (m.wt.map Wai.enc), .dead, .arr 1 (D.map encI), .dead] _ (ok53 (j.last + e.length) j.l k hk key fl' wt (by omega) hnl hVn' hfx fun w h => vd_vs (hwr w h)) (by simp) (by simp) (by simp only [yH, yI, blk, vG, vH, renB, rowsM_ren]; rfl) (by simp [lendsOk, lendOk, lends, lend, wkL, wk, pos]) rfl rfl rfl trivial ?_
      generalize cleanL j.l k key fl' wt = L'
      have hL : yG L'.length (L'.map Mis.enc) = L'.map Mis.enc := yE (by simp)
      have hDt : yG D.length (D.map encI) = D.map encI := yE (by simp)
      simp -implicitDefEqProofs only [rX,↓rY,ofConst,cells?,splice,↓reduceIte,Nat.reduceEqDiff,Nat.reduceAdd,reduceCtorEq,resP,tupV,keepP,liveP,wfV,wfL,killE,kill,kills,St.kill,isC,yC,yB,yA,get_frzE,get_killE,frzV,Nat.reduceEqDiff,retP_eq]
      refine ⟨[.dead, .dead, .dead, .dead, .dead, .arr 3 (L'.map Mis.enc), .dead, .dead, .dead, .arr 1 (D.map encI)], ⟨by simp [leH, leB], vI _, by simp, by simp [wfB]⟩, ?_⟩
      simp [Gv, tupV, gvV, gvL, wk, wkL, wkR, wfV, wfL, blk, hL, hDt]
end Go.Fx.J
namespace Go.Fx.J
open Go Go.Fx Go.Proofs Go.Fx.R
set_option maxRecDepth 20000
theorem ok36 (x y : Int) : Ok 36 [.i x, .i y] (Is (spans [(x, y)])) := by
 refine okN_gv ?_
 refine ok_of lw36 (by simp) ?_
 unfold c36
 simp -implicitDefEqProofs only [rX,↓rY,ofConst,cells?,splice,↓reduceIte,Nat.reduceEqDiff,Nat.reduceAdd,reduceCtorEq,freshP,buildP,litsP,isD,Nat.reduceLT,Nat.reduceLeDiff,cxN,yC,yB,yA,args0]
 exact ret_sl (els := [enS (x, y)]) rfl rfl rfl
theorem ok17b (l : List Int) : Ok 17 [.ro 1 (l.map encI), .bro 1 (l.map encI)] (Is (.b true)) := by
 refine ok_of lw17 (by simp) ?_
 unfold c17
 simp -implicitDefEqProofs only [rX,↓rY,ofConst,↓reduceIte,Nat.reduceEqDiff,reduceCtorEq,cxN,yA,args0,bne_self_eq_false]
 refine fun _ _ => ?_
 refine loopP_intro (fun k : Nat => ⟨[(5, .i k), (0, .ro 1 (l.map encI)), (1, .bro 1 (l.map encI))], [], 0⟩) (fun k => k ≤ l.length) (fun k => l.length - k) 0 (by omega) ?_ ?_
 ·simp -implicitDefEqProofs only [rX,↓reduceIte,Nat.reduceEqDiff,reduceCtorEq,leE,leH,keepP,wfE,wfB,wfV,yT]
 rintro k hk
 unfold c17l0
 rcases yN k l.length with hk' | hk'
 ·have hd : decide ((k : Int) < (l.length : Int)) = true := decide_eq_true (by omega)
  have hkk : (0 : Int) ≤ k ∧ (k : Int) < l.length := ⟨by omega, by omega⟩
  simp -implicitDefEqProofs only [rX,↓rY,rZ,ofConst,↓reduceIte,Nat.reduceEqDiff,reduceCtorEq,leE,leH,keepP,wfE,wfB,wfV,yA,hd,bne_self_eq_false]
  exact fun _ => ⟨hkk, hk', hkk, hk', by simp only [lo, hi, maxLen] at *; omega, k + 1, ⟨by omega, by omega⟩, by simp⟩
 ·have hd : decide ((k : Int) < (l.length : Int)) = false := decide_eq_false (by omega)
  simp -implicitDefEqProofs only [rX,↓rY,ofConst,↓reduceIte,Nat.reduceEqDiff,reduceCtorEq,resP,tupV,wfV,hd]
  exact fun _ => trivial
def kk : S := [107]
def sj0 : Jns := ⟨0, []⟩
def sj1 : Jns := ⟨1, [⟨kk, [⟨1, (0, 10)⟩], [⟨1, [(0, 10)]⟩]⟩]⟩
def sj2 : Jns := ⟨2, [⟨kk, [⟨1, (0, 10)⟩, ⟨2, (10, 15)⟩], [⟨1, [(0, 10)]⟩, ⟨2, [(5, 15)]⟩]⟩]⟩
def sj3 : Jns := ⟨2, [⟨kk, [⟨1, (0, 10)⟩, ⟨2, (10, 15)⟩], [⟨1, [(0, 10)]⟩, ⟨2, [(5, 15)]⟩, ⟨3, [(0, 3)]⟩]⟩]⟩
theorem k_k : Value.string ⟨#[107]⟩ = .string (sb kk) := rfl
theorem n11 : (((1 : Nat) : Int) != 1) = false := rfl
theorem n00 : (((0 : Nat) : Int) != 0) = false := rfl
theorem fe1 (a b c : Int) : V.agg [V.v (Value.int IntKind.i64 a), V.v (Value.int IntKind.i64 b), V.v (Value.int IntKind.i64 c)] = V.agg (Fet.enc ⟨a, (b, c)⟩) := rfl
theorem ge0 {x : List V} {h : vE 0 < [x].length} : [x][vE 0]'h = x := rfl
theorem s1 : askP sj0 kk 1 [(0, 10)] = ((sj1, [⟨1, (0, 10)⟩]), 0) := by decide
theorem s2 : askP sj1 kk 2 [(5, 15)] = ((sj2, [⟨2, (10, 15)⟩]), 0) := by decide
theorem s3 : askP sj2 kk 3 [(0, 3)] = ((sj3, []), 0) := by decide
theorem s4a : (comeP sj3 kk 1 [(0, 10)]).1.2.1 = [1, 3] := by decide
theorem s4b : (comeP sj3 kk 1 [(0, 10)]).1.2.2 = [] := by decide
theorem s4c : (comeP sj3 kk 1 [(0, 10)]).2 = 0 := by decide
theorem s5a : (comeP sj3 kk 1 [(0, 4)]).1.2.1 = [3] := by decide
theorem s5b : (comeP sj3 kk 1 [(0, 4)]).1.2.2 = [⟨3, (4, 10)⟩] := by decide
theorem s5c : (comeP sj3 kk 1 [(0, 4)]).2 = 0 := by decide
theorem s6a : (failP sj3 kk 2).1.2.1 = [2] := by decide
theorem s6b : (failP sj3 kk 2).1.2.2 = [] := by decide
theorem s6c : (failP sj3 kk 2).2 = 0 := by decide
theorem s7a : (leaveP sj3 kk 2).1.2 = [2] := by decide
theorem s7b : (leaveP sj3 kk 2).2 = 0 := by decide
theorem v0 : JOk sj0 := valid_iff.1 (by decide)
theorem v1 : JOk sj1 := valid_iff.1 (by decide)
theorem v2 : JOk sj2 := valid_iff.1 (by decide)
theorem v3 : JOk sj3 := valid_iff.1 (by decide)
theorem f_of {j : Jns} (h : (j.l.all fun m => decide (m.fl.length ≤ 1099511627776)) = true) : ∀ m ∈ j.l, m.fl.length ≤ 1099511627776 := fun m hm => of_decide_eq_true (List.all_eq_true.1 h m hm)
set_option maxHeartbeats 8000000 in
theorem ok9 : Ok 9 [] (Is (.b true)) := by
 refine ok_of lw9 (by simp) ?_
 unfold c9
 simp -implicitDefEqProofs only [rX,ofConst,buildP,cxN,args0,k_k]
 refine call_is (ok36 0 10) (by simp [lendsOk, lendOk, lends, lend, wkL, wk, wkR]) rfl trivial ?_
 simp -implicitDefEqProofs only [rX,ofConst,↓reduceIte,Nat.reduceEqDiff]
 refine call_is (ok10 sj0 kk 1 [(0, 10)] v0 (f_of (by decide)) (by decide) (by decide)) (by simp [lendsOk, lendOk, lends, lend, wkL, wk, wkR, sj0]) rfl trivial ?_
 rw [s1]
 simp -implicitDefEqProofs only [rX,↓rY,rdK,ofConst,cells?,splice,↓reduceIte,Nat.reduceEqDiff,Nat.reduceAdd,freshP,isC,yC,yB,yA]
 refine call_is (ok36 5 15) (by simp [lendsOk, lendOk, lends, lend, wkL, wk, wkR]) rfl trivial ?_
 simp -implicitDefEqProofs only [rX,ofConst,↓reduceIte,Nat.reduceEqDiff]
 refine call_is (ok10 sj1 kk 2 [(5, 15)] v1 (f_of (by decide)) (by decide) (by decide)) (by simp [lendsOk, lendOk, lends, lend, wkL, wk, wkR]) rfl trivial ?_
 rw [s2]
 simp -implicitDefEqProofs only [rX,↓rY,rdK,ofConst,cells?,splice,↓reduceIte,Nat.reduceEqDiff,Nat.reduceAdd,isC,yC,yB,yA]
 refine call_is (ok36 0 3) (by simp [lendsOk, lendOk, lends, lend, wkL, wk, wkR]) rfl trivial ?_
 simp -implicitDefEqProofs only [rX,ofConst,↓reduceIte,Nat.reduceEqDiff]
 refine call_is (ok10 sj2 kk 3 [(0, 3)] v2 (f_of (by decide)) (by decide) (by decide)) (by simp [lendsOk, lendOk, lends, lend, wkL, wk, wkR]) rfl trivial ?_
 rw [s3]
 simp -implicitDefEqProofs only [rX,↓rY,rdK,ofConst,cells?,splice,↓reduceIte,Nat.reduceEqDiff,Nat.reduceAdd,freshP,buildP,resP,tupV,wfV,isC,Nat.reduceLeDiff,ft_len,ft_t,yC,yB,yA,bne_self_eq_false,ge0]
 simp -implicitDefEqProofs only [rX,↓rY,yA,n11,n00,Int.reduceLE]
 intro _ _ _
 refine ⟨by decide, by decide, ?_⟩
 rw [fe1, eq_ft, show decide ((⟨1, (0, 10)⟩ : Fet) = ⟨1, (0, 10)⟩) = true from rfl]
 simp -implicitDefEqProofs only [rX,↓rY]
 refine ⟨by decide, by decide, ?_⟩
 rw [fe1, eq_ft, show decide ((⟨2, (10, 15)⟩ : Fet) = ⟨2, (10, 15)⟩) = true from rfl]
 simp -implicitDefEqProofs only [rX,↓rY]
 have hL : ∀ {h : List Blk} {a : Nat → Option Nat}, lendsOk h a [.agg [.i sj3.last, miss sj3.l], sv kk, .i 1, spans [(0, 10)]] ∧ wkL [.agg sj3.enc, sv kk, .i 1, spans [(0, 10)]] (lends h a [.agg [.i sj3.last, miss sj3.l], sv kk, .i 1, spans [(0, 10)]]) := fun {h} {a} => by simp [lendsOk, lendOk, lends, lend, wkL, wk, wkR]
 refine And.intro ?_ ?_
 all_goals refine call_is (ok36 0 10) (by simp [lendsOk, lendOk, lends, lend, wkL, wk, wkR]) rfl trivial ?_
 all_goals simp -implicitDefEqProofs only [rX,↓rY,ofConst,cells?,↓reduceIte,Nat.reduceEqDiff,freshP,yA]
 all_goals (repeat' refine And.intro ?_ ?_)
 all_goals refine call_is (ok18 sj3 kk 1 [(0, 10)] v3 (f_of (by decide))) (by simp [lendsOk, lendOk, lends, lend, wkL, wk, wkR]) rfl trivial ?_
 all_goals rw [s4a, s4b, s4c]
 all_goals generalize (comeP sj3 kk 1 [(0, 10)]).1.1 = ja
 all_goals simp -implicitDefEqProofs only [rX,↓rY,rdK,ofConst,cells?,splice,↓reduceIte,Nat.reduceEqDiff,Nat.reduceAdd,freshP,isC,yC,yB,yA]
 all_goals refine And.intro ?_ ?_
 all_goals refine call_is (ok36 0 4) (by simp [lendsOk, lendOk, lends, lend, wkL, wk, wkR]) rfl trivial ?_
 all_goals simp -implicitDefEqProofs only [rX,↓rY,ofConst,cells?,↓reduceIte,Nat.reduceEqDiff,freshP,yA]
 all_goals (repeat' refine And.intro ?_ ?_)
 all_goals refine call_is (ok18 sj3 kk 1 [(0, 4)] v3 (f_of (by decide))) (by simp [lendsOk, lendOk, lends, lend, wkL, wk, wkR]) rfl trivial ?_
 all_goals rw [s5a, s5b, s5c]
 all_goals generalize (comeP sj3 kk 1 [(0, 4)]).1.1 = jb
 all_goals simp -implicitDefEqProofs only [rX,↓rY,ofConst,cells?,splice,↓reduceIte,Nat.reduceEqDiff,Nat.reduceAdd,freshP,isC,yC,yB,yA]
 all_goals refine call_is (ok20 sj3 kk 2 v3 (f_of (by decide))) (by simp [lendsOk, lendOk, lends, lend, wkL, wk, wkR]) rfl trivial ?_
 all_goals rw [s6a, s6b, s6c]
 all_goals generalize (failP sj3 kk 2).1.1 = jc
 all_goals simp -implicitDefEqProofs only [rX,↓rY,ofConst,cells?,splice,↓reduceIte,Nat.reduceEqDiff,Nat.reduceAdd,freshP,isC,yC,yB,yA]
 all_goals refine call_is (ok15 sj3 kk 2 v3 (f_of (by decide))) (by simp [lendsOk, lendOk, lends, lend, wkL, wk, wkR]) rfl trivial ?_
 all_goals rw [s7a, s7b]
 all_goals generalize (leaveP sj3 kk 2).1.1 = jd
 all_goals simp -implicitDefEqProofs only [rX,↓rY,ofConst,cells?,splice,↓reduceIte,Nat.reduceEqDiff,Nat.reduceAdd,freshP,buildP,litsP,resP,tupV,wfV,isD,isC,Nat.reduceLT,Nat.reduceLeDiff,ft_len,ft_t,yC,yB,yA,bne_self_eq_false,n11,n00,ge0]
 all_goals intro _ _ _
 all_goals refine ⟨by decide, by decide, ?_⟩
 all_goals rw [fe1, eq_ft, show decide ((⟨3, (4, 10)⟩ : Fet) = ⟨3, (4, 10)⟩) = true from rfl]
 all_goals simp -implicitDefEqProofs only [rX,↓rY]
 all_goals refine call_is (ok17b [1, 3]) (by simp [lendsOk, lendOk, lends, lend, wkL, wk, wkR, wkB, blk, encI]) rfl trivial ?_
 all_goals simp -implicitDefEqProofs only [rX,↓rY,ofConst,cells?,↓reduceIte,Nat.reduceEqDiff,Nat.reduceAdd,freshP,litsP,isD,Nat.reduceLT,yA]
 all_goals refine call_is (ok17b [3]) (by simp [lendsOk, lendOk, lends, lend, wkL, wk, wkR, wkB, blk, encI]) rfl trivial ?_
 all_goals simp -implicitDefEqProofs only [rX,↓rY,ofConst,cells?,↓reduceIte,Nat.reduceEqDiff,Nat.reduceAdd,freshP,litsP,isD,Nat.reduceLT,yA]
 all_goals refine call_is (ok17b [2]) (by simp [lendsOk, lendOk, lends, lend, wkL, wk, wkR, wkB, blk, encI]) rfl trivial ?_
 all_goals simp -implicitDefEqProofs only [rX,↓rY,ofConst,cells?,↓reduceIte,Nat.reduceEqDiff,Nat.reduceAdd,freshP,litsP,isD,Nat.reduceLT,yA]
 all_goals refine call_is (ok17b [2]) (by simp [lendsOk, lendOk, lends, lend, wkL, wk, wkR, wkB, blk, encI]) rfl trivial ?_
 all_goals simp -implicitDefEqProofs only [rX,↓rY,↓reduceIte,Nat.reduceEqDiff,Nat.reduceAdd,yB,yA]
 all_goals refine call_is (ok26 sj3 (by decide) (by decide)) (by simp [lendsOk, lendOk, lends, lend, wkL, wk, wkR, wkB]) rfl trivial ?_
 all_goals rw [show nWait sj3.l = 3 from rfl]
 all_goals simp -implicitDefEqProofs only [rX,↓rY,ofConst,↓reduceIte,Nat.reduceEqDiff,resP,tupV,wfV,yA]
 all_goals rfl
end Go.Fx.J
namespace Go.Fx.J
open Go Go.Fx Go.Proofs Go.Fx.R
set_option maxRecDepth 20000
end Go.Fx.J
namespace Go.Fx.J
open Go Go.Fx Go.Proofs Go.Fx.R
set_option maxRecDepth 20000
end Go.Fx.J
namespace Go.Fx.J
open Go Go.Fx Go.Proofs Go.Fx.R
theorem fn_of {f : FuncId} {xs : List V} (h : Ok f xs (Is (.b true))) : Fn Tryz.prog f xs [] [] (fun r _ => r = .b true) := by
 have h := h.2
 intro ρ X w vals h1 h2
 refine Calls.mono (h ρ X w vals h1 h2) ?_
 rintro e w' ⟨val, r, h', ρ', q1, q2, q3, q4, q5, q6⟩
 exact ⟨val, r, h', ρ', q1, ⟨q2.1.1, q2.2⟩, q3, q4, q5, q6⟩
theorem ex_mapP {α β : Type} {g : α → β} : ∀ {els : List β}, (∀ x ∈ els, ∃ a, x = g a) → ∃ l : List α, els = l.map g
 | [], _ => ⟨[], rfl⟩
 | x :: r, h => by
  obtain ⟨a, rfl⟩ := h x yU
  obtain ⟨l, rfl⟩ := ex_mapP (els := r) fun y hy => h y (yY _ hy)
  exact ⟨a :: l, rfl⟩
abbrev tSp : Fx.T := .st [.int .i64, .int .i64]
abbrev tSps : Fx.T := .sl 2 tSp
theorem wf_int {k : IntKind} {x : List V} (h : WfT (.int k) x) : ∃ n : Int, x = [.v (.int k n)] ∧ lo k ≤ n ∧ n ≤ hi k := by
 simpa only [WfT] using h
theorem wf_cons {t : Fx.T} {ts : List Fx.T} {x : List V} (h : WfTs (t :: ts) x) : ∃ a b, x = a ++ b ∧ WfT t a ∧ WfTs ts b := by
 rwa [WfTs.eq_2] at h
theorem wf_sp {x : List V} (h : WfT tSp x) : ∃ s : Sp, x = enS s := by
 rw [WfT] at h
 obtain ⟨_, _, rfl, q0, h⟩ := wf_cons h
 obtain ⟨_, _, rfl, q1, h⟩ := wf_cons h
 rw [WfTs.eq_1] at h
 subst h
 obtain ⟨n0, rfl, _⟩ := wf_int q0
 obtain ⟨n1, rfl, _⟩ := wf_int q1
 exact ⟨(n0, n1), rfl⟩
theorem wf_sps {x : List V} (h : WfT tSps x) : ∃ l : List Sp, x = [spans l] := by
 rw [WfT] at h
 obtain ⟨els, rfl, _, he⟩ := h
 obtain ⟨l, rfl⟩ := ex_mapP (g := enS) fun x hx => wf_sp (he x hx)
 exact ⟨l, rfl⟩
end Go.Fx.J
namespace Go.Fx.J
open Go Go.Fx Go.Proofs Go.Fx.R
structure JSt (last : Int) (L : List Mis) (k : Nat) : Prop where
 lo : 0 ≤ last ∧ last ≤ 1152921504606846976
 hk : k < L.length
 o : L.Pairwise fun a b => a.key < b.key
 u : (ids L).Nodup
 m : ∀ i (h : i < L.length), i ≠ k → MOk last L[i]
 b : ∀ f ∈ (L[k]'hk).fl, f.id ≤ last
theorem jok_st {j : Jns} (h : JOk j) {k : Nat} (hk : k < j.l.length) : JSt j.last j.l k :=
 ⟨h.lo, hk, h.o, h.u, fun i hi _ => h.m _ (yD hi), fun f hf => ((h.m _ (yD hk)).f f hf).2.2⟩
theorem min_mono {last last' : Int} {m : Mis} (h : MIn last m) (hl : last ≤ last') : MIn last' m :=
 ⟨h.k, h.n, h.w, h.wo, fun f hf => ⟨(h.f f hf).1, (h.f f hf).2.1, by have := (h.f f hf).2.2; omega⟩, h.fo, h.c, h.d⟩
theorem mok_mono {last last' : Int} {m : Mis} (h : MOk last m) (hl : last ≤ last') : MOk last' m := ⟨min_mono h.toMIn hl, h.n1⟩
theorem ids_app {a b : List Mis} : ids (a ++ b) = ids a ++ ids b := by unfold ids; rw [List.flatMap_append]
theorem ids_cons {a : Mis} {b : List Mis} : ids (a :: b) = a.fl.map (·.id) ++ ids b := by unfold ids; rw [List.flatMap_cons]
theorem ids_mem {l : List Mis} {x : Int} : x ∈ ids l ↔ ∃ m ∈ l, ∃ f ∈ m.fl, f.id = x := by
 unfold ids
 rw [List.mem_flatMap]
 constructor
 ·rintro ⟨m, hm, h⟩
  obtain ⟨f, hf, rfl⟩ := yK.1 h
  exact ⟨m, hm, f, hf, rfl⟩
 ·rintro ⟨m, hm, f, hf, rfl⟩
  exact ⟨m, hm, vX hf⟩
theorem split_at {l : List Mis} {k : Nat} (hk : k < l.length) : l = l.take k ++ l[k] :: l.drop (k + 1) := by
 rw [← vY hk, vD]
theorem set_at {l : List Mis} {k : Nat} {x : Mis} (hk : k < l.length) : l.set k x = l.take k ++ x :: l.drop (k + 1) := List.set_eq_take_append_cons_drop.trans (if_pos hk)
theorem JSt.set {last last' : Int} {L : List Mis} {k : Nat} (h : JSt last L k) (hn : L.length ≤ 1000) (hl : last ≤ last' ∧ last' ≤ 1152921504606846976) {m' : Mis} (hm : MOk last' m') (hkey : m'.key = (L[k]'h.hk).key) (hid : (m'.fl.map (·.id)).Nodup)
  (hfr : ∀ f ∈ m'.fl, (∃ g ∈ (L[k]'h.hk).fl, g.id = f.id) ∨ last < f.id) : JOk ⟨last', L.set k m'⟩ := by
 have hk := h.hk
 refine ⟨(⟨by have := h.lo; omega, hl.2⟩ : 0 ≤ last' ∧ last' ≤ 1152921504606846976), by simpa using hn, fun m hmem => ?_, ?_, ?_⟩
 ·obtain ⟨i, hi, rfl⟩ := yL hmem
  rw [List.getElem_set]
  split
  ·exact hm
  ·rename_i hne
   exact mok_mono (h.m i (by simpa using hi) (fun e => hne e.symm)) hl.1
 ·have ho := h.o
  rw [vO] at ho ⊢
  intro a b ha hb hab
  have key : ∀ i (hi : i < L.length), ((L.set k m')[i]'(by simpa using hi)).key = L[i].key := fun i hi => by
   rw [List.getElem_set]
   split
   ·rename_i e; subst e; exact hkey
   ·rfl
  simp only [List.length_set] at ha hb
  rw [key a ha, key b hb]
  exact ho a b ha hb hab
 ·have hu := h.u
  rw [split_at hk, ids_app, ids_cons, yS, yS] at hu
  obtain ⟨u1, ⟨u2, u3, u4⟩, u5⟩ := hu
  show (ids (L.set k m')).Nodup
  rw [set_at hk, ids_app, ids_cons, yS, yS]
  have hold : ∀ x, (x ∈ ids (L.take k) ∨ x ∈ ids (L.drop (k + 1))) → x ≤ last := by
   intro x hx
   have hmm : ∃ i, ∃ hi : i < L.length, i ≠ k ∧ ∃ f ∈ L[i].fl, f.id = x := by
    rcases hx with hx | hx
    ·obtain ⟨m, hm, f, hf, e⟩ := ids_mem.1 hx
     obtain ⟨i, hi, rfl⟩ := yL hm
     rw [yV] at hi
     rw [vP] at hf
     exact ⟨i, by omega, by omega, f, hf, e⟩
    ·obtain ⟨m, hm, f, hf, e⟩ := ids_mem.1 hx
     obtain ⟨i, hi, rfl⟩ := yL hm
     rw [vR] at hi
     rw [vQ] at hf
     exact ⟨k + 1 + i, by omega, by omega, f, hf, e⟩
   obtain ⟨i, hi, hne, f, hf, rfl⟩ := hmm
   exact ((h.m i hi hne).f f hf).2.2
  refine ⟨u1, ⟨hid, u3, fun a ha b hb => ?_⟩, fun a ha b hb => ?_⟩
  ·obtain ⟨f, hf, rfl⟩ := yK.1 ha
   rcases hfr f hf with ⟨g, hg, e⟩ | hlt
   ·exact u4 _ (by rw [← e]; exact vX hg) _ hb
   ·have := hold b (.inr hb)
    exact fun e => by rw [e] at hlt; omega
  ·rcases yF.1 hb with hb | hb
   ·obtain ⟨f, hf, rfl⟩ := yK.1 hb
    rcases hfr f hf with ⟨g, hg, e⟩ | hlt
    ·exact u5 _ ha _ (yF.2 (.inl (by rw [← e]; exact vX hg)))
    ·have := hold a (.inl ha)
     exact fun e => by rw [← e] at hlt; omega
   ·exact u5 _ ha _ (yF.2 (.inr hb))
theorem JSt.less {last last' : Int} {L : List Mis} {k : Nat} (h : JSt last L k) (hn : L.length ≤ 1001) (hl : last ≤ last' ∧ last' ≤ 1152921504606846976) : JOk ⟨last', lessL L k⟩ := by
 have hk := h.hk
 refine ⟨(⟨by have := h.lo; omega, hl.2⟩ : 0 ≤ last' ∧ last' ≤ 1152921504606846976), ?_, fun m hmem => ?_, less_pair h.o, ?_⟩
 ·show (lessL L k).length ≤ 1000
  unfold lessL; simp; omega
 ·have hmem : m ∈ lessL L k := hmem
  rcases yF.1 hmem with hm | hm
  ·obtain ⟨i, hi, rfl⟩ := yL hm
   rw [yV] at hi
   rw [vP]
   exact mok_mono (h.m i (by omega) (by omega)) hl.1
  ·obtain ⟨i, hi, rfl⟩ := yL hm
   rw [vR] at hi
   rw [vQ]
   exact mok_mono (h.m (k + 1 + i) (by omega) (by omega)) hl.1
 ·have hu := h.u
  rw [split_at hk, ids_app, ids_cons, yS, yS] at hu
  obtain ⟨u1, ⟨u2, u3, u4⟩, u5⟩ := hu
  show (ids (lessL L k)).Nodup
  unfold lessL
  rw [ids_app, yS]
  exact ⟨u1, u3, fun a ha b hb => u5 a ha b (yF.2 (.inr hb))⟩
end Go.Fx.J
namespace Go.Fx.J
open Go Go.Fx Go.Proofs Go.Fx.R
structure Pre (last : Int) (key : S) (fl : List Fet) (wt : List Wai) : Prop where
 k : key.length ≤ 4096
 n : wt.length ≤ 1000
 w : ∀ w ∈ wt, Vs w.need ∧ w.need ≠ []
 wo : wt.Pairwise fun a b => a.id < b.id
 f : ∀ f ∈ fl, (0 ≤ f.sp.1 ∧ f.sp.1 < f.sp.2 ∧ f.sp.2 ≤ 1099511627776) ∧ 1 ≤ f.id ∧ f.id ≤ last
 fo : fl.Pairwise fun a b => a.sp.2 ≤ b.sp.1
 d : ∀ x, inS (needed ⟨key, fl, wt⟩) x → inS (flown ⟨key, fl, wt⟩) x
theorem kept_mem {need : List Sp} {fl : List Fet} {f : Fet} : f ∈ keptD (goF need) fl ↔ f ∈ fl ∧ common need f.sp = true := by
 unfold keptD goF
 rw [vF]
 simp
theorem Pre.clean {last : Int} {key : S} {fl : List Fet} {wt : List Wai} (h : Pre last key fl wt) (hne : wt ≠ []) : MOk last ⟨key, keptD (goF (needed ⟨key, fl, wt⟩)) fl, wt⟩ := by
 have hsep : Sep (needed ⟨key, fl, wt⟩) := sep_need
 refine ⟨⟨h.k, h.n, h.w, h.wo, fun f hf => h.f f (kept_mem.1 hf).1, h.fo.sublist List.filter_sublist, fun f hf => ?_, fun x hx => ?_⟩, ?_⟩
 ·exact (common_iff hsep).1 (kept_mem.1 hf).2
 ·obtain ⟨f, hf, h1, h2⟩ := in_flown.1 (h.d x hx)
  exact in_flown.2 ⟨f, kept_mem.2 ⟨hf, (common_iff hsep).2 ⟨x, hx, h1, h2⟩⟩, h1, h2⟩
 ·cases wt with
  | nil => exact absurd rfl hne
  | cons a l => simp
theorem kept_ids {p : Fet → Bool} {fl : List Fet} (h : (fl.map (·.id)).Nodup) : ((keptD p fl).map (·.id)).Nodup := h.sublist (List.filter_sublist.map _)
theorem clean_jok {last last' : Int} {L : List Mis} {k : Nat} {key : S} {fl : List Fet} {wt : List Wai} (h : JSt last L k) (hn : L.length ≤ 1000) (hl : last ≤ last' ∧ last' ≤ 1152921504606846976) (hp : Pre last' key fl wt) (hkey : key = (L[k]'h.hk).key) (hid : (fl.map (·.id)).Nodup)
  (hfr : ∀ f ∈ fl, (∃ g ∈ (L[k]'h.hk).fl, g.id = f.id) ∨ last < f.id) : JOk ⟨last', cleanL L k key fl wt⟩ := by
 unfold cleanL
 split
 ·exact h.less (by omega) hl
 ·rename_i hne
  exact h.set hn hl (hp.clean hne) hkey (kept_ids hid) fun f hf => hfr f (kept_mem.1 hf).1
theorem ids_row {j : Jns} (h : JOk j) {k : Nat} (hk : k < j.l.length) : (j.l[k].fl.map (·.id)).Nodup := by
 have hu := h.u
 rw [split_at hk, ids_app, ids_cons, yS, yS] at hu
 exact hu.2.1.1
theorem lessL_map {α β : Type} {f : α → β} {l : List α} {k : Nat} : lessL (l.map f) k = (lessL l k).map f := by
 unfold lessL
 rw [yQ, uG, uH]
theorem less_or {l : List Fet} {i : Nat} (hi : i < l.length) {f : Fet} (hf : f ∈ l) : f = l[i] ∨ f ∈ lessL l i := by
 have : f ∈ l.take i ++ l[i] :: l.drop (i + 1) := by rw [← vY hi, vD]; exact hf
 rcases yF.1 this with h | h
 ·exact .inr (yF.2 (.inl h))
 ·rcases yW.1 h with h | h
  ·exact .inl h
  ·exact .inr (yF.2 (.inr h))
end Go.Fx.J
namespace Go.Fx.J
open Go Go.Fx Go.Proofs Go.Fx.R
theorem ins_sort {α : Type} {lt : α → Bool} {r : α → α → Prop} {l : List α} {x : α} (ho : l.Pairwise r) (hs : Split lt l) (h1 : ∀ a ∈ l, lt a = true → r a x) (h2 : ∀ a ∈ l, lt a = false → r x a) : (insT l (posN lt l) x).Pairwise r := by
 obtain ⟨s1, s2⟩ := R.split_at hs
 have ho' := ho
 rw [← vD (posN lt l) l, uX] at ho'
 obtain ⟨p1, p2, p3⟩ := ho'
 unfold insT
 rw [uX, uL]
 have hd : ∀ a ∈ l.drop (posN lt l), lt a = false := fun a ha => by
  obtain ⟨i, hi, rfl⟩ := yL ha
  rw [vR] at hi
  rw [vQ]
  exact s2 _ (by omega) (by omega)
 have htk : ∀ a ∈ l.take (posN lt l), lt a = true := fun a ha => by
  obtain ⟨i, hi, rfl⟩ := yL ha
  rw [yV] at hi
  rw [vP]
  exact s1 _ (by omega) (by omega)
 refine ⟨p1, ⟨fun a ha => h2 a (uD ha) (hd a ha), p2⟩, fun a ha b hb => ?_⟩
 rcases yW.1 hb with rfl | hb
 ·exact h1 a (vB ha) (htk a ha)
 ·exact p3 a ha b hb
theorem split_M {l : List Mis} {k : S} (ho : l.Pairwise fun a b => a.key < b.key) : Split (ltM k) l := ho.imp fun {a b} h hb => decide_eq_true (s_trans h (of_decide_eq_true hb))
theorem split_W {l : List Wai} {k : Int} (ho : l.Pairwise fun a b => a.id < b.id) : Split (ltW k) l := ho.imp fun {a b} h hb => decide_eq_true (by have := of_decide_eq_true hb; omega)
theorem insT_at {α : Type} {l : List α} {i : Nat} {x : α} (hi : i ≤ l.length) : (insT l i x)[i]'(by rw [insT_len]; omega) = x := by
 simp [insT, uT, hi]
theorem new_st {j : Jns} (h : JOk j) {key : S} (hno : j.l.any (eqM key) = false) : JSt j.last (insT j.l (posN (ltM key) j.l) ⟨key, [], []⟩) (posN (ltM key) j.l) := by
 have hp : posN (ltM key) j.l ≤ j.l.length := posN_le
 have hne : ∀ a ∈ j.l, a.key ≠ key := fun a ha e => by
  have := List.any_eq_false.1 hno a ha
  exact this (decide_eq_true e)
 refine ⟨h.lo, by rw [insT_len]; omega, ins_sort h.o (split_M h.o) (fun a _ hl => of_decide_eq_true hl) (fun a ha hl => ?_), ?_, fun i hi hne => ?_, ?_⟩
 ·have h1 : ¬ a.key < key := of_decide_eq_false hl
  exact Classical.byContradiction fun h2 => hne a ha (s_tri h1 h2)
 ·have hu := h.u
  rw [← vD (posN (ltM key) j.l) j.l, ids_app] at hu
  unfold insT
  rw [ids_app, ids_cons]
  exact hu
 ·have hmem : (insT j.l (posN (ltM key) j.l) ⟨key, [], []⟩)[i] ∈ j.l := by
   have hi' : i < j.l.length + 1 := by rw [insT_len] at hi; exact hi
   rcases yN i (posN (ltM key) j.l) with hlt | hge
   ·have : (insT j.l (posN (ltM key) j.l) ⟨key, [], []⟩)[i]? = j.l[i]? := by
     unfold insT
     rw [uS (by rw [yV]; omega), List.getElem?_take_of_lt hlt]
    rw [yM hi, yM (by omega)] at this
    rw [vZ this]
    exact yD _
   ·obtain ⟨n, hn⟩ : ∃ n, i = posN (ltM key) j.l + (n + 1) := ⟨i - posN (ltM key) j.l - 1, by omega⟩
    have : (insT j.l (posN (ltM key) j.l) ⟨key, [], []⟩)[i]? = j.l[posN (ltM key) j.l + n]? := by
     unfold insT
     rw [uF (by rw [yV]; omega), yV, Nat.min_eq_left hp, show i - posN (ltM key) j.l = n + 1 by omega, yP, List.getElem?_drop]
    rw [yM hi, yM (by omega)] at this
    rw [vZ this]
    exact yD _
  exact h.m _ hmem
 ·rw [insT_at hp]
  intro f hf
  cases hf
theorem news_ids {fl : List Fet} {last : Int} {l : List Sp} (hid : (fl.map (·.id)).Nodup) (hb : ∀ f ∈ fl, f.id ≤ last) : ((((newF last l).foldl insF fl)).map (·.id)).Nodup := by
 rw [(insFs_perm.map _).nodup_iff, yQ, yS]
 refine ⟨hid, newF_nodup, fun a ha b hb' => ?_⟩
 obtain ⟨f, hf, rfl⟩ := yK.1 ha
 obtain ⟨g, hg, rfl⟩ := yK.1 hb'
 have := hb f hf
 have := (newF_mem hg).2.1
 omega
theorem news_mem {fl : List Fet} {last : Int} {l : List Sp} {f : Fet} : f ∈ (newF last l).foldl insF fl ↔ f ∈ fl ∨ f ∈ newF last l := by
 rw [insFs_perm.mem_iff, yF]
theorem newF_has : ∀ {l : List Sp} {last : Int} {s : Sp}, s ∈ l → ∃ f ∈ newF last l, f.sp = s := fun {l} {last} {s} h => by
 rw [← newF_sp (l := l) (last := last)] at h
 obtain ⟨f, hf, e⟩ := yK.1 h
 exact ⟨f, hf, e⟩
theorem news_pre {last : Int} {key : S} {fl : List Fet} {wt : List Wai} {l : List Sp} (hk : key.length ≤ 4096) (hn : wt.length ≤ 1000) (hw : ∀ w ∈ wt, Vs w.need ∧ w.need ≠ []) (hwo : wt.Pairwise fun a b => a.id < b.id) (h0 : 0 ≤ last)
  (hf : ∀ f ∈ fl, (0 ≤ f.sp.1 ∧ f.sp.1 < f.sp.2 ∧ f.sp.2 ≤ 1099511627776) ∧ 1 ≤ f.id ∧ f.id ≤ last) (hfo : fl.Pairwise fun a b => a.sp.2 ≤ b.sp.1) (hl : Vs l) (hd : ∀ x, inS l x → ¬ inS (flown ⟨key, fl, wt⟩) x)
  (hc : ∀ x, inS (needed ⟨key, fl, wt⟩) x → inS (flown ⟨key, fl, wt⟩) x ∨ inS l x) : Pre (last + l.length) key ((newF last l).foldl insF fl) wt := by
 refine ⟨hk, hn, hw, hwo, fun f hff => ?_, ?_, fun x hx => ?_⟩
 ·rcases news_mem.1 hff with hff | hff
  ·have := hf f hff; omega
  ·have a := newF_mem hff
   have b := hl.2 _ a.1
   have c := hl.1.1 _ a.1
   omega
 ·have ha : Apt fl := apt_of (fun f hff => (hf f hff).1.2.1) hfo
  have hasc : Asc1 fl := uI (fun {a b} ha hb hr => by have := (hf a ha).1.2.1; omega) hfo
  have hA : Apt (fl ++ newF last l) := apt_new (m := ⟨key, fl, wt⟩) ha hl.1 hd
  exact Apt.ord (hA.perm insFs_perm.symm) (insFs_asc hasc)
 ·rcases hc x hx with h | h
  ·obtain ⟨f, hff, a1, a2⟩ := in_flown.1 h
   exact in_flown.2 ⟨f, news_mem.2 (.inl hff), a1, a2⟩
  ·obtain ⟨s, hs, a1, a2⟩ := h
   obtain ⟨f, hff, rfl⟩ := newF_has (last := last) hs
   exact in_flown.2 ⟨f, news_mem.2 (.inr hff), a1, a2⟩
end Go.Fx.J
namespace Go.Fx.J
open Go Go.Fx Go.Proofs Go.Fx.R
theorem ask_row {j : Jns} {L : List Mis} {k : Nat} {key : S} {m : Mis} (h : JOk j) (hst : JSt j.last L k) (hn : L.length ≤ 1000) (hk : key.length ≤ 4096) (hkey : key = (L[k]'hst.hk).key) (hL : L[k]'hst.hk = m) (hm : m.wt = [] ∧ m.fl = [] ∨ MOk j.last m) (who : Int) (need : List Sp) (hv : Vs need) (hne : need ≠ [])
  (h5 : m.wt.any (eqW who) = false) (h6 : ¬ (1000 ≤ m.wt.length ∨ 1152921504606846976 - ((minusS need (flown m)).length : Int) < j.last)) : JOk (askM L j.last k key m who need).1 := by
 have hwo : m.wt.Pairwise fun a b => a.id < b.id := by
  rcases hm with ⟨h1, _⟩ | hm
  ·rw [h1]; exact .nil
  ·exact hm.wo
 have hw : ∀ w ∈ m.wt, Vs w.need ∧ w.need ≠ [] := by
  rcases hm with ⟨h1, _⟩ | hm
  ·rw [h1]; intro w hw; cases hw
  ·exact hm.w
 have hf : ∀ f ∈ m.fl, (0 ≤ f.sp.1 ∧ f.sp.1 < f.sp.2 ∧ f.sp.2 ≤ 1099511627776) ∧ 1 ≤ f.id ∧ f.id ≤ j.last := by
  rcases hm with ⟨_, h1⟩ | hm
  ·rw [h1]; intro w hw; cases hw
  ·exact hm.f
 have hfo : m.fl.Pairwise fun a b => a.sp.2 ≤ b.sp.1 := by
  rcases hm with ⟨_, h1⟩ | hm
  ·rw [h1]; exact .nil
  ·exact hm.fo
 have hd : ∀ x, inS (needed m) x → inS (flown m) x := by
  rcases hm with ⟨h1, _⟩ | hm
  ·intro x hx
   obtain ⟨w, hw, _⟩ := in_needed.1 hx
   rw [h1] at hw; cases hw
  ·exact hm.d
 have hc : ∀ f ∈ m.fl, ∃ x, inS (needed m) x ∧ f.sp.1 ≤ x ∧ x < f.sp.2 := by
  rcases hm with ⟨_, h1⟩ | hm
  ·rw [h1]; intro w hw; cases hw
  ·exact hm.c
 have hid : (m.fl.map (·.id)).Nodup := by
  have hu := hst.u
  rw [split_at hst.hk, ids_app, ids_cons, yS, yS, hL] at hu
  exact hu.2.1.1
 have hlo := h.lo
 have hvl : Vs (minusS need (flown m)) := Vs.minus hv
 have hwt : ∀ w, w ∈ insT m.wt (posN (ltW who) m.wt) ⟨who, need⟩ ↔ w = ⟨who, need⟩ ∨ w ∈ m.wt := fun w => insT_mem
 have hneed : ∀ {fl : List Fet} x, inS (needed ⟨key, fl, insT m.wt (posN (ltW who) m.wt) ⟨who, need⟩⟩) x ↔ inS need x ∨ inS (needed m) x := fun {fl} x => by
  rw [in_needed, in_needed]
  constructor
  ·rintro ⟨w, hw, hx⟩
   rcases (hwt w).1 hw with rfl | hw
   ·exact .inl hx
   ·exact .inr ⟨w, hw, hx⟩
  ·rintro (hx | ⟨w, hw, hx⟩)
   ·exact ⟨_, (hwt _).2 (.inl rfl), hx⟩
   ·exact ⟨w, (hwt w).2 (.inr hw), hx⟩
 have hP : Pre (j.last + (minusS need (flown m)).length) key ((newF j.last (minusS need (flown m))).foldl insF m.fl) (insT m.wt (posN (ltW who) m.wt) ⟨who, need⟩) := by
  refine news_pre hk (by rw [insT_len]; omega) (fun w hw' => ?_) ?_ hlo.1 hf hfo hvl (fun x hx => ?_) fun x hx => ?_
  ·rcases (hwt w).1 hw' with rfl | hw'
   ·exact ⟨hv, hne⟩
   ·exact hw w hw'
  ·have hne' : ∀ a ∈ m.wt, a.id ≠ who := fun a ha e => List.any_eq_false.1 h5 a ha (decide_eq_true e)
   refine ins_sort hwo (split_W hwo) (fun a _ hl => of_decide_eq_true hl) fun a ha hl => ?_
   have h1 : ¬ a.id < who := of_decide_eq_false hl
   have := hne' a ha
   show who < a.id
   omega
  ·intro hfl
   exact (in_minusS.1 hx).2 hfl
  ·rcases (hneed x).1 hx with hx | hx
   ·by_cases hfl : inS (flown m) x
    ·exact .inl hfl
    ·exact .inr (in_minusS.2 ⟨hx, hfl⟩)
   ·exact .inl (hd x hx)
 have hM : MOk (j.last + (minusS need (flown m)).length) ⟨key, (newF j.last (minusS need (flown m))).foldl insF m.fl, insT m.wt (posN (ltW who) m.wt) ⟨who, need⟩⟩ := by
  refine ⟨⟨hP.k, hP.n, hP.w, hP.wo, hP.f, hP.fo, fun f hff => ?_, hP.d⟩, by show 1 ≤ (insT _ _ _).length; rw [insT_len]; omega⟩
  rcases news_mem.1 hff with hff | hff
  ·obtain ⟨x, hx, a1, a2⟩ := hc f hff
   exact ⟨x, (hneed x).2 (.inr hx), a1, a2⟩
  ·have a := newF_mem hff
   have b := hvl.1.1 _ a.1
   exact ⟨f.sp.1, (hneed _).2 (.inl (in_minusS.1 ⟨f.sp, a.1, vS _, b⟩).1), vS _, b⟩
 unfold askM
 refine hst.set hn ⟨by omega, by omega⟩ hM hkey (news_ids hid fun f hff => (hf f hff).2.2) fun f hff => ?_
 rcases news_mem.1 hff with hff | hff
 ·exact .inl ⟨f, by rw [hL]; exact hff, rfl⟩
 ·have := (newF_mem hff).2.1
  exact .inr (by omega)
end Go.Fx.J
namespace Go.Fx.J
open Go Go.Fx Go.Proofs Go.Fx.R
theorem ask_jok {j : Jns} (h : JOk j) (key : S) (who : Int) (need : List Sp) : JOk (askP j key who need).1.1 := by
 unfold askP
 split
 ·exact h
 ·rename_i h1
  have hk : key.length ≤ 4096 := by omega
  have hv : Vs need := vs_vd.2 (vd_iff.1 (by
   cases e : vd need with
   | true => rfl
   | false => exact absurd (.inr (.inl e)) h1))
  have hne : need ≠ [] := fun e => h1 (.inr (.inr e))
  split
  ·exact h
  ·rename_i h2
   unfold askQ
   split
   ·exact h
   ·rename_i h5
    split
    ·exact h
    ·rename_i h6
     cases h3 : j.l.any (eqM key) with
     | true =>
      obtain ⟨hp, hkey⟩ := posN_any h.o h3
      have haL : askL j key = j.l := if_pos h3
      rw [haL, vA, yM hp, vN] at h5 h6 ⊢
      exact ask_row h (jok_st h hp) h.n hk hkey.symm rfl (.inr (h.m _ (yD hp))) who need hv hne (by simpa using h5) h6
     | false =>
      have haL : askL j key = insT j.l (posN (ltM key) j.l) ⟨key, [], []⟩ := if_neg (by rw [h3]; simp)
      have hp : posN (ltM key) j.l ≤ j.l.length := posN_le
      have hlt : posN (ltM key) j.l < (insT j.l (posN (ltM key) j.l) ⟨key, [], []⟩).length := by rw [insT_len]; omega
      have hat : (insT j.l (posN (ltM key) j.l) ⟨key, [], []⟩)[posN (ltM key) j.l] = ⟨key, [], []⟩ := insT_at hp
      rw [haL, vA, yM hlt, vN, hat] at h5 h6 ⊢
      have h2' : ¬ 1000 ≤ j.l.length := fun h => h2 ⟨h3, h⟩
      exact ask_row h (new_st h h3) (by rw [insT_len]; omega) hk (by rw [hat]) hat (.inl ⟨rfl, rfl⟩) who need hv hne rfl h6
theorem come_jok {j : Jns} (h : JOk j) (key : S) (id : Int) (got : List Sp) : JOk (comeP j key id got).1.1 := by
 unfold comeP
 split
 ·exact h
 ·rename_i h1
  split
  ·exact h
  ·rename_i h2
   split
   ·exact h
   ·rename_i h3
    have hgv : Vs got := vs_vd.2 (vd_iff.1 (by simpa using h3))
    obtain ⟨hk, hkey⟩ := posN_any h.o (by simpa using h1)
    rw [mAt_eq hk] at h2 ⊢
    have hm := h.m _ (yD hk)
    have hrow := ids_row h hk
    have hst := jok_st h hk
    generalize posN (ltM key) j.l = k at *
    obtain ⟨m, hme⟩ : ∃ m, j.l[k] = m := ⟨_, rfl⟩
    rw [hme] at h2 hm hrow hkey ⊢
    have hi : m.fl.findIdx (eqF id) < m.fl.length := by
     obtain ⟨f, hf, he⟩ := yX.1 (by simpa using h2 : _ = true)
     exact vV.2 ⟨f, hf, he⟩
    generalize m.fl.findIdx (eqF id) = i at *
    unfold comeM
    split
    ·exact h
    ·rename_i h4
     have hlo := h.lo
     have hfa : fAt m i = m.fl[i] := fAt_eq hi
     have hfi := (hm.f _ (yD hi)).1
     have hspv : Vs [m.fl[i].sp] := vs_one hfi
     have hw : wantP key m i got = meetS (minusS [m.fl[i].sp] (hereP m i got)) (needed ⟨key, lessL m.fl i, comeR m.wt (hereP m i got)⟩) := by unfold wantP; rw [hfa]
     generalize hereP m i got = here at *
     have hvl : Vs (wantP key m i got) := by rw [hw]; exact Vs.meet (Vs.minus hspv)
     have hin : ∀ x, inS (wantP key m i got) x ↔ (inS [m.fl[i].sp] x ∧ ¬ inS here x) ∧ inS (needed ⟨key, lessL m.fl i, comeR m.wt here⟩) x := fun x => by rw [hw, in_meetS, in_minusS]
     generalize wantP key m i got = l at *
     have hone : ∀ x, inS [m.fl[i].sp] x ↔ m.fl[i].sp.1 ≤ x ∧ x < m.fl[i].sp.2 := fun x => by
      constructor
      ·rintro ⟨s, hs, a, b⟩
       obtain rfl : s = m.fl[i].sp := by simpa using hs
       exact ⟨a, b⟩
      ·rintro ⟨a, b⟩
       exact ⟨_, by simp, a, b⟩
     have hfb : ∀ f ∈ lessL m.fl i, (0 ≤ f.sp.1 ∧ f.sp.1 < f.sp.2 ∧ f.sp.2 ≤ 1099511627776) ∧ 1 ≤ f.id ∧ f.id ≤ j.last := fun f hf => hm.f f (mem_less hf)
     have hPre : Pre (j.last + l.length) key ((newF j.last l).foldl insF (lessL m.fl i)) (comeR m.wt here) := by
      refine news_pre (by rw [← hkey]; exact hm.k) (yO comeR_len hm.n) (fun w hw' => ?_) ?_ hlo.1 hfb (less_pair hm.fo) hvl (fun x hx hc => ?_) fun x hx => ?_
      ·obtain ⟨v, hv, hne, rfl⟩ := comeR_mem hw'
       exact ⟨Vs.minus (hm.w v hv).1, fun e => hne (by rw [show minusS v.need here = [] from e]; rfl)⟩
      ·unfold comeR
       rw [List.pairwise_filterMap]
       refine hm.wo.imp fun {a b} hab x hx y hy => ?_
       split at hx
       ·cases hx
       ·split at hy
        ·cases hy
        ·obtain rfl := vZ hx
         obtain rfl := vZ hy
         exact hab
      ·obtain ⟨f, hf, a1, a2⟩ := in_flown.1 hc
       have a3 := (hone x).1 ((hin x).1 hx).1.1
       rcases less_apart hi hm.fo hf with h | h <;> omega
      ·obtain ⟨w, hw', hx'⟩ := in_needed.1 hx
       obtain ⟨v, hv, _, rfl⟩ := comeR_mem hw'
       obtain ⟨b1, b2⟩ := in_minusS.1 hx'
       obtain ⟨f, hf, a1, a2⟩ := in_flown.1 (hm.d x (in_needed.2 ⟨v, hv, b1⟩))
       rcases less_or hi hf with rfl | hf
       ·exact .inr ((hin x).2 ⟨⟨(hone x).2 ⟨a1, a2⟩, b2⟩, hx⟩)
       ·exact .inl (in_flown.2 ⟨f, hf, a1, a2⟩)
     have hidl : ((lessL m.fl i).map (·.id)).Nodup := by rw [← lessL_map]; exact less_pair hrow
     refine clean_jok hst h.n ⟨by omega, by omega⟩ hPre (by rw [hme]; exact hkey.symm) (news_ids hidl fun f hf => (hfb f hf).2.2) fun f hf => ?_
     rcases news_mem.1 hf with hf | hf
     ·exact .inl ⟨f, by rw [hme]; exact mem_less hf, rfl⟩
     ·have := (newF_mem hf).2.1
      exact .inr (by omega)
end Go.Fx.J
namespace Go.Fx.J
open Go Go.Fx Go.Proofs Go.Fx.R
theorem lessM_or {l : List Mis} {i : Nat} (hi : i < l.length) {f : Mis} (hf : f ∈ l) : f = l[i] ∨ f ∈ lessL l i := by
 have : f ∈ l.take i ++ l[i] :: l.drop (i + 1) := by rw [← vY hi, vD]; exact hf
 rcases yF.1 this with h | h
 ·exact .inr (yF.2 (.inl h))
 ·rcases yW.1 h with h | h
  ·exact .inl h
  ·exact .inr (yF.2 (.inr h))
theorem set_keep {L : List Mis} {k : Nat} {x m : Mis} (hk : k < L.length) (hm : m ∈ L) (hne : m ≠ L[k]) : m ∈ L.set k x := by
 rw [set_at hk]
 rcases lessM_or hk hm with h | h
 ·exact absurd h hne
 ·rcases yF.1 h with h | h
  ·exact yF.2 (.inl h)
  ·exact yF.2 (.inr (yY _ h))
theorem clean_keep {L : List Mis} {k : Nat} {key : S} {fl : List Fet} {wt : List Wai} {m : Mis} (hk : k < L.length) (hkey : L[k].key = key) (hm : m ∈ L) (hne : m.key ≠ key) : m ∈ cleanL L k key fl wt := by
 have h : m ≠ L[k] := fun e => hne (by rw [e]; exact hkey)
 unfold cleanL
 split
 ·rcases lessM_or hk hm with h' | h'
  ·exact absurd h' h
  ·exact h'
 ·exact set_keep hk hm h
theorem come_keep {j : Jns} (h : JOk j) {key : S} {id : Int} {got : List Sp} {m : Mis} (hm : m ∈ j.l) (hne : m.key ≠ key) : m ∈ (comeP j key id got).1.1.l := by
 unfold comeP
 split
 ·exact hm
 ·rename_i h1
  split
  ·exact hm
  ·split
   ·exact hm
   ·obtain ⟨hk, hkey⟩ := posN_any h.o (by simpa using h1)
    unfold comeM
    split
    ·exact hm
    ·exact clean_keep hk hkey hm hne
theorem ask_keep {j : Jns} (h : JOk j) {key : S} {who : Int} {need : List Sp} {m : Mis} (hm : m ∈ j.l) (hne : m.key ≠ key) : m ∈ (askP j key who need).1.1.l := by
 unfold askP
 split
 ·exact hm
 ·split
  ·exact hm
  ·unfold askQ
   split
   ·exact hm
   ·split
    ·exact hm
    ·unfold askM
     cases h3 : j.l.any (eqM key) with
     | true =>
      obtain ⟨hk, hkey⟩ := posN_any h.o h3
      have haL : askL j key = j.l := if_pos h3
      rw [haL]
      exact set_keep hk hm fun e => hne (by rw [e]; exact hkey)
     | false =>
      have haL : askL j key = insT j.l (posN (ltM key) j.l) ⟨key, [], []⟩ := if_neg (by rw [h3]; simp)
      have hp : posN (ltM key) j.l ≤ j.l.length := posN_le
      have hlt : posN (ltM key) j.l < (insT j.l (posN (ltM key) j.l) ⟨key, [], []⟩).length := by rw [insT_len]; omega
      rw [haL]
      refine set_keep hlt (insT_mem.2 (.inr hm)) fun e => hne ?_
      rw [e, insT_at hp]
theorem at_key {j : Jns} (h : JOk j) {m : Mis} (hm : m ∈ j.l) : ∃ hp : posN (ltM m.key) j.l < j.l.length, j.l[posN (ltM m.key) j.l] = m ∧ j.l.any (eqM m.key) = true := by
 have ha : j.l.any (eqM m.key) = true := yX.2 ⟨m, hm, decide_eq_true rfl⟩
 obtain ⟨hp, hk⟩ := posN_any h.o ha
 refine ⟨hp, ?_, ha⟩
 obtain ⟨i, hi, he⟩ := yL hm
 have ho := vO.1 h.o
 rcases uE i (posN (ltM m.key) j.l) with hlt | heq | hgt
 ·have := ho i _ hi hp hlt
  rw [hk, he] at this
  exact absurd this (s_irr _)
 ·subst heq
  exact he
 ·have := ho _ i hp hi hgt
  rw [hk, he] at this
  exact absurd this (s_irr _)
end Go.Fx.J
namespace Go.Fx.J
open Go Go.Fx Go.Proofs Go.Fx.R
def glue : List Sp → List Sp
 | [] => []
 | s :: l => match glue l with
  | [] => [s]
  | t :: r => if s.2 = t.1 then (s.1, t.2) :: r else s :: t :: r
def Ord (l : List Sp) : Prop := (∀ s ∈ l, s.1 < s.2) ∧ l.Pairwise fun s t => s.2 ≤ t.1
theorem glue_ok : ∀ {l : List Sp}, Ord l → Sep (glue l) ∧ (∀ x, inS (glue l) x ↔ inS l x) ∧ tot (glue l) = tot l ∧ ∀ b : Int, (∀ s ∈ l, b ≤ s.1) → ∀ s ∈ glue l, b ≤ s.1
 | [], _ => ⟨sep_nil, fun _ => Iff.rfl, rfl, fun _ _ _ h => by cases h⟩
 | s :: l, h => by
  obtain ⟨h1, h2⟩ := h
  rw [uL] at h2
  have hs := h1 s yU
  obtain ⟨g1, g2, g3, g4⟩ := glue_ok (l := l) ⟨fun t ht => h1 t (yY _ ht), h2.2⟩
  have g5 := g4 s.2 h2.1
  unfold glue
  split
  ·rename_i hg
   rw [hg] at g2 g3
   refine ⟨sep_one.2 hs, fun x => ?_, ?_, fun b hb t ht => ?_⟩
   ·rw [inS_cons, inS_cons, g2 x]
   ·rw [tot_cons, tot_cons, g3]
   ·obtain rfl : t = s := by simpa using ht
    exact hb _ yU
  ·rename_i t r hg
   rw [hg] at g1 g2 g3 g4 g5
   have ht := g5 t yU
   obtain ⟨p1, p2, p3⟩ := sep_cons.1 g1
   split
   ·rename_i he
    refine ⟨sep_cons.2 ⟨by show s.1 < t.2; omega, p2, p3⟩, fun x => ?_, ?_, fun b hb u hu => ?_⟩
    ·rw [inS_cons, inS_cons, ← g2 x, inS_cons]
     constructor
     ·rintro (⟨a, b⟩ | h)
      ·rcases Int.lt_or_le x s.2 with c | c
       ·exact .inl ⟨a, c⟩
       ·exact .inr (.inl ⟨by omega, b⟩)
      ·exact .inr (.inr h)
     ·rintro (⟨a, b⟩ | ⟨a, b⟩ | h)
      ·exact .inl ⟨a, by show x < t.2; omega⟩
      ·exact .inl ⟨by show s.1 ≤ x; omega, b⟩
      ·exact .inr h
    ·rw [tot_cons, tot_cons, ← g3, tot_cons]
     show t.2 - s.1 + tot r = s.2 - s.1 + (t.2 - t.1 + tot r)
     omega
    ·have hbs := hb s yU
     rcases yW.1 hu with rfl | hu
     ·exact hbs
     ·have := p2 u hu
      omega
   ·rename_i he
    refine ⟨sep_cons.2 ⟨hs, fun u hu => ?_, g1⟩, fun x => ?_, ?_, fun b hb u hu => ?_⟩
    ·rcases yW.1 hu with rfl | hu
     ·omega
     ·have := p2 u hu
      omega
    ·rw [inS_cons, inS_cons (l := l), g2 x]
    ·rw [tot_cons, tot_cons (l := l), g3]
    ·have := hb _ yU
     rcases yW.1 hu with rfl | hu
     ·exact this
     ·have := g5 u hu
      omega
theorem tot_flown {last : Int} {m : Mis} (h : MIn last m) : tot (flown m) = (m.fl.map fun f => f.sp.2 - f.sp.1).sum := by
 have ho : Ord (m.fl.map (·.sp)) := ⟨fun s hs => by
  obtain ⟨f, hf, rfl⟩ := yK.1 hs
  exact (h.f f hf).1.2.1, by
  rw [uM]; exact h.fo⟩
 obtain ⟨g1, g2, g3, _⟩ := glue_ok ho
 have he : flown m = glue (m.fl.map (·.sp)) := Sep.ext sep_ofS g1 fun x => by unfold flown; rw [in_ofS, g2 x]
 rw [he, g3]
 unfold tot
 rw [uC]
 rfl
end Go.Fx.J
namespace Go.Fx.J
open Go Go.Fx Go.Proofs Go.Fx.R
set_option maxRecDepth 20000
def lenF (l : List Fet) : Int := (l.map fun f => f.sp.2 - f.sp.1).sum
theorem lenF_step {l : List Fet} {n : Nat} (h : n < l.length) : lenF (l.take (n + 1)) = lenF (l.take n) + l[n].sp.2 - l[n].sp.1 := by
 unfold lenF
 rw [vJ h, yQ, uN]
 simp
 omega
theorem lenF_le {last : Int} {m : Mis} (h : MIn last m) (n : Nat) : 0 ≤ lenF (m.fl.take n) ∧ lenF (m.fl.take n) ≤ 1099511627776 := by
 have ho : Ord ((m.fl.take n).map (·.sp)) := ⟨fun s hs => by
  obtain ⟨f, hf, rfl⟩ := yK.1 hs
  exact (h.f f (vB hf)).1.2.1, by
  rw [uM]; exact h.fo.sublist (List.take_sublist n _)⟩
 obtain ⟨g1, g2, g3, _⟩ := glue_ok ho
 have hv : Vs (glue ((m.fl.take n).map (·.sp))) := vs_of g1 fun x hx => by
  obtain ⟨s, hs, a, b⟩ := (g2 x).1 hx
  obtain ⟨f, hf, rfl⟩ := yK.1 hs
  have := (h.f f (vB hf)).1
  omega
 have := tot_le (a := 0) (b := 1099511627776) g1 hv.2 (by omega)
 rw [g3] at this
 have he : tot ((m.fl.take n).map (·.sp)) = lenF (m.fl.take n) := by
  unfold tot lenF
  rw [uC]; rfl
 rw [he] at this
 exact this
end Go.Fx.J
namespace Go.Fx.J
open Go Go.Fx Go.Proofs Go.Fx.R
end Go.Fx.J
namespace Go.Fx.J
open Go Go.Fx Go.Proofs Go.Fx.R
structure Rq where
 key : Nat
 need : List Sp
def Rq.n (r : Rq) : Nat := r.key % 3
theorem Rq.lt (r : Rq) : r.n < 3 := vT _ (by omega)
def nm (n : Nat) : S := [UInt8.ofNat (97 + n)]
theorem nm_inj {a b : Nat} (ha : a < 3) (hb : b < 3) (h : nm a = nm b) : a = b := by
 have h1 : a = 0 ∨ a = 1 ∨ a = 2 := by omega
 have h2 : b = 0 ∨ b = 1 ∨ b = 2 := by omega
 rcases h1 with rfl | rfl | rfl <;> rcases h2 with rfl | rfl | rfl <;> first | rfl | exact absurd h (by decide)
def row (j : Jns) (n : Nat) : Mis := if j.l.any (eqM (nm n)) = true then mAt j (posN (ltM (nm n)) j.l) else ⟨nm n, [], []⟩
theorem row_of {j : Jns} {n : Nat} {m : Mis} (h : JOk j) (hm : m ∈ j.l) (hk : m.key = nm n) : row j n = m := by
 obtain ⟨hp, he, ha⟩ := at_key h hm
 unfold row
 rw [← hk, if_pos ha, mAt_eq hp]
 exact he
theorem row_no {j : Jns} {n : Nat} (h : ∀ m ∈ j.l, m.key ≠ nm n) : row j n = ⟨nm n, [], []⟩ := by
 unfold row
 rw [if_neg]
 intro ha
 obtain ⟨m, hm, he⟩ := yX.1 ha
 exact h m hm (of_decide_eq_true he)
theorem row_cases {j : Jns} (h : JOk j) (n : Nat) : (row j n ∈ j.l ∧ (row j n).key = nm n ∧ (row j n).wt ≠ []) ∨ (row j n = ⟨nm n, [], []⟩ ∧ ∀ m ∈ j.l, m.key ≠ nm n) := by
 by_cases hx : ∃ m ∈ j.l, m.key = nm n
 ·obtain ⟨m, hm, hk⟩ := hx
  rw [row_of h hm hk]
  refine .inl ⟨hm, hk, fun e => ?_⟩
  have := (h.m m hm).n1
  rw [e] at this; simp at this
 ·have hno : ∀ m ∈ j.l, m.key ≠ nm n := fun m hm e => hx ⟨m, hm, e⟩
  exact .inr ⟨row_no hno, hno⟩
theorem row_key {j : Jns} (h : JOk j) (n : Nat) : (row j n).key = nm n := by
 rcases row_cases h n with ⟨_, h1, _⟩ | ⟨h1, _⟩
 ·exact h1
 ·rw [h1]
theorem row_empty {j : Jns} (h : JOk j) {n : Nat} (hw : (row j n).wt = []) : row j n = ⟨nm n, [], []⟩ := by
 rcases row_cases h n with ⟨_, _, h1⟩ | ⟨h1, _⟩
 ·exact absurd hw h1
 ·exact h1
theorem row_in {j : Jns} (h : JOk j) {n : Nat} (hw : (row j n).wt ≠ []) : row j n ∈ j.l := by
 rcases row_cases h n with ⟨h1, _, _⟩ | ⟨h1, _⟩
 ·exact h1
 ·rw [h1] at hw; exact absurd rfl hw
theorem row_min {j : Jns} (h : JOk j) (n : Nat) : MIn j.last (row j n) := by
 rcases row_cases h n with ⟨h1, _, _⟩ | ⟨h1, _⟩
 ·exact (h.m _ h1).toMIn
 ·rw [h1]
  refine ⟨?_, by simp, by simp, by simp, by simp, by simp, by simp, fun x hx => ?_⟩
  ·simp [nm]
  ·obtain ⟨w, hw, _⟩ := in_needed.1 hx; cases hw
def Kys (j : Jns) : Prop := ∀ m ∈ j.l, ∃ n, n < 3 ∧ m.key = nm n
def nonE (m : Mis) : Bool := !m.wt.isEmpty
theorem rows_eq {j : Jns} (h : JOk j) (hk : Kys j) : j.l = [row j 0, row j 1, row j 2].filter nonE := by
 refine sorted_ext (r := fun a b : Mis => a.key < b.key) (fun a => s_irr _) (fun a b c => s_trans) h.o ?_ fun m => ?_
 ·refine List.Pairwise.filter _ ?_
  simp only [uL, yW, List.not_mem_nil, or_false, forall_eq_or_imp, forall_eq, row_key h]
  exact ⟨⟨by decide, by decide⟩, by decide, by simp⟩
 ·rw [vF]
  constructor
  ·intro hm
   obtain ⟨n, hn, hkey⟩ := hk m hm
   have hr := row_of h hm hkey
   refine ⟨?_, ?_⟩
   ·have h1 : n = 0 ∨ n = 1 ∨ n = 2 := by omega
    rcases h1 with rfl | rfl | rfl <;> rw [hr] <;> simp
   ·have := (h.m m hm).n1
    unfold nonE
    cases hw : m.wt with
    | nil => rw [hw] at this; simp at this
    | cons a l => rfl
  ·rintro ⟨hm, hw⟩
   have hne : m.wt ≠ [] := fun e => by unfold nonE at hw; rw [e] at hw; simp at hw
   simp only [yW, List.not_mem_nil, or_false] at hm
   rcases hm with rfl | rfl | rfl <;> exact row_in h hne
theorem rows_sum {j : Jns} (h : JOk j) (hk : Kys j) (g : Mis → Nat) (g0 : ∀ n, g ⟨nm n, [], []⟩ = 0) : (j.l.map g).sum = g (row j 0) + g (row j 1) + g (row j 2) := by
 have he : ∀ n, (if nonE (row j n) = true then g (row j n) else 0) = g (row j n) := fun n => by
  cases hn : nonE (row j n) with
  | true => rfl
  | false =>
   rw [row_empty h (by unfold nonE at hn; simpa using hn), g0]; rfl
 have hs : ∀ l : List Mis, ((l.filter nonE).map g).sum = (l.map fun m => if nonE m = true then g m else 0).sum := fun l => by
  induction l with
  | nil => rfl
  | cons a l ih =>
   rw [uO]
   cases ha : nonE a with
   | true => simp [ih, ha]
   | false => simp [ih, ha]
 conv => lhs; rw [rows_eq h hk]
 rw [hs]
 simp only [yH, yI, uA, List.sum_nil, he]
 omega
theorem kys_len {j : Jns} (h : JOk j) (hk : Kys j) : j.l.length ≤ 3 := by
 rw [rows_eq h hk]
 exact yO (List.length_filter_le _ _) (by simp)
theorem ask_from {j : Jns} {key : S} {who : Int} {need : List Sp} {m : Mis} (hm : m ∈ (askP j key who need).1.1.l) : m ∈ j.l ∨ m.key = key := by
 unfold askP at hm
 split at hm
 ·exact .inl hm
 ·split at hm
  ·exact .inl hm
  ·unfold askQ at hm
   split at hm
   ·exact .inl hm
   ·split at hm
    ·exact .inl hm
    ·unfold askM at hm
     have hm : m ∈ (askL j key).set (posN (ltM key) j.l) _ := hm
     rcases uY hm with hm | rfl
     ·unfold askL at hm
      split at hm
      ·exact .inl hm
      ·rcases insT_mem.1 hm with rfl | hm
       ·exact .inr rfl
       ·exact .inl hm
     ·exact .inr rfl
def askN (j : Jns) (n : Nat) (who : Int) (need : List Sp) : Mis :=
 ⟨nm n, (newF j.last (minusS need (flown (row j n)))).foldl insF (row j n).fl, insT (row j n).wt (posN (ltW who) (row j n).wt) ⟨who, need⟩⟩
theorem ask_step {j : Jns} (h : JOk j) (hk : Kys j) {n : Nat} (hn : n < 3) {who : Int} {need : List Sp} (hv : Vs need) (hne : need ≠ []) (hno : ∀ w ∈ (row j n).wt, w.id ≠ who) (hw : (row j n).wt.length < 1000) (hl : j.last + (minusS need (flown (row j n))).length ≤ 1152921504606846976) :
  (askP j (nm n) who need).2 = 0 ∧ (askP j (nm n) who need).1.2 = newF j.last (minusS need (flown (row j n))) ∧ (askP j (nm n) who need).1.1.last = j.last + (minusS need (flown (row j n))).length ∧
  JOk (askP j (nm n) who need).1.1 ∧ Kys (askP j (nm n) who need).1.1 ∧ row (askP j (nm n) who need).1.1 n = askN j n who need ∧ ∀ n' < 3, n' ≠ n → row (askP j (nm n) who need).1.1 n' = row j n' := by
 have hJ := ask_jok h (nm n) who need
 have hlen := kys_len h hk
 have hK : Kys (askP j (nm n) who need).1.1 := fun m hm => by
  rcases ask_from hm with hm | hm
  ·exact hk m hm
  ·exact ⟨n, hn, hm⟩
 have hoth : ∀ n' < 3, n' ≠ n → row (askP j (nm n) who need).1.1 n' = row j n' := fun n' hn' hne' => by
  have hkne : nm n' ≠ nm n := fun e => hne' (nm_inj hn' hn e)
  rcases row_cases h n' with ⟨h1, h2, _⟩ | ⟨h1, h2⟩
  ·exact row_of hJ (ask_keep h h1 (by rw [h2]; exact hkne)) h2
  ·rw [h1]
   refine row_no fun m hm e => ?_
   rcases ask_from hm with hm | hm
   ·exact h2 m hm e
   ·rw [hm] at e; exact hkne e.symm
 have hmain : askP j (nm n) who need = (askM (askL j (nm n)) j.last (posN (ltM (nm n)) j.l) (nm n) (row j n) who need, 0) ∧ posN (ltM (nm n)) j.l < (askL j (nm n)).length := by
  unfold askP
  have h1 : ¬ (4096 < (nm n).length ∨ vd need = false ∨ need = []) := by
   rintro (h | h | h)
   ·simp [nm] at h
   ·rw [vd_iff.2 (vs_vd.1 hv)] at h; cases h
   ·exact hne h
  rw [if_neg h1, if_neg (fun h => by have := h.2; omega)]
  have hrow : (askL j (nm n)).getD (posN (ltM (nm n)) j.l) ⟨[], [], []⟩ = row j n ∧ posN (ltM (nm n)) j.l < (askL j (nm n)).length := by
   unfold row
   cases ha : j.l.any (eqM (nm n)) with
   | true =>
    obtain ⟨hp, hkey⟩ := posN_any h.o ha
    have haL : askL j (nm n) = j.l := if_pos ha
    rw [haL, if_pos rfl]
    exact ⟨rfl, hp⟩
   | false =>
    have haL : askL j (nm n) = insT j.l (posN (ltM (nm n)) j.l) ⟨nm n, [], []⟩ := if_neg (by rw [ha]; simp)
    have hp : posN (ltM (nm n)) j.l ≤ j.l.length := posN_le
    have hlt : posN (ltM (nm n)) j.l < (insT j.l (posN (ltM (nm n)) j.l) ⟨nm n, [], []⟩).length := by rw [insT_len]; omega
    rw [haL, if_neg (by simp), vA, yM hlt, vN, insT_at hp]
    exact ⟨rfl, hlt⟩
  rw [hrow.1]
  unfold askQ
  have h5 : ¬ (row j n).wt.any (eqW who) = true := fun ha => by
   obtain ⟨w, hw, he⟩ := yX.1 ha
   exact hno w hw (of_decide_eq_true he)
  rw [if_neg h5, if_neg (fun h => by rcases h with h | h <;> omega)]
  exact ⟨rfl, hrow.2⟩
 refine ⟨by rw [hmain.1], by rw [hmain.1]; rfl, by rw [hmain.1]; rfl, hJ, hK, ?_, hoth⟩
 refine row_of hJ ?_ rfl
 rw [hmain.1]
 show askN j n who need ∈ (askL j (nm n)).set (posN (ltM (nm n)) j.l) (askN j n who need)
 have hx := yD (l := (askL j (nm n)).set (posN (ltM (nm n)) j.l) (askN j n who need)) (n := posN (ltM (nm n)) j.l) (by simpa using hmain.2)
 rwa [uZ] at hx
end Go.Fx.J
namespace Go.Fx.J
open Go Go.Fx Go.Proofs Go.Fx.R
def aN (l : List Rq) (n : Nat) : List Sp := ofS ((l.filter fun r => decide (r.n = n)).map (·.need)).flatten
theorem sep_aN {l : List Rq} {n : Nat} : Sep (aN l n) := sep_ofS
theorem in_aN {l : List Rq} {n : Nat} {x : Int} : inS (aN l n) x ↔ ∃ r ∈ l, r.n = n ∧ inS r.need x := by
 unfold aN
 rw [in_ofS]
 constructor
 ·rintro ⟨s, hs, h1, h2⟩
  obtain ⟨q, hq, hs⟩ := List.mem_flatten.1 hs
  obtain ⟨r, hr, rfl⟩ := yK.1 hq
  obtain ⟨hr, hn⟩ := vF.1 hr
  exact ⟨r, hr, of_decide_eq_true hn, s, hs, h1, h2⟩
 ·rintro ⟨r, hr, hn, s, hs, h1, h2⟩
  exact ⟨s, List.mem_flatten.2 ⟨_, vX (vF.2 ⟨hr, decide_eq_true hn⟩), hs⟩, h1, h2⟩
def Rq.ok (r : Rq) : Prop := Vs r.need ∧ r.need ≠ []
structure AskI (l : List Rq) (j : Jns) : Prop where
 jok : JOk j
 kys : Kys j
 last : j.last ≤ (l.length : Int) * 1099511627776
 wt : ∀ n, n < 3 → ∀ w, w ∈ (row j n).wt ↔ ∃ i, ∃ h : i < l.length, l[i].n = n ∧ w = ⟨i, l[i].need⟩
 fl : ∀ n, n < 3 → ∀ x, inS (flown (row j n)) x ↔ ∃ r ∈ l, r.n = n ∧ inS r.need x
 cnt : (row j 0).wt.length + (row j 1).wt.length + (row j 2).wt.length = l.length
theorem AskI.fly {l : List Rq} {j : Jns} (h : AskI l j) {n : Nat} (hn : n < 3) : flown (row j n) = aN l n := Sep.ext sep_fl sep_aN fun x => by rw [h.fl n hn, in_aN]
theorem AskI.start : AskI [] ⟨0, []⟩ := by
 have hr : ∀ n, row ⟨0, []⟩ n = ⟨nm n, [], []⟩ := fun n => row_no fun m hm => by cases hm
 refine ⟨⟨⟨by simp, by simp⟩, by simp, fun m hm => (by cases hm), .nil, .nil⟩, fun m hm => (by cases hm), by simp, fun n hn w => ?_, fun n hn x => ?_, ?_⟩
 ·rw [hr]
  constructor
  ·intro hw; cases hw
  ·rintro ⟨i, h, _⟩; simp at h
 ·rw [hr, in_flown]
  constructor
  ·rintro ⟨f, hf, _⟩; cases hf
  ·rintro ⟨r, hr, _⟩; cases hr
 ·rw [hr, hr, hr]; rfl
def lens (l : List Fet) : Int := (l.map fun f => f.sp.2 - f.sp.1).sum
theorem lens_app {a b : List Fet} : lens (a ++ b) = lens a + lens b := by unfold lens; rw [yQ, uN]
theorem sum_perm {a b : List Int} (h : a.Perm b) : a.sum = b.sum := by
 induction h with
 | nil => rfl
 | cons x _ ih => simp [ih]
 | swap x y l => simp; omega
 | trans _ _ h1 h2 => rw [h1, h2]
theorem lens_perm {a b : List Fet} (h : a.Perm b) : lens a = lens b := sum_perm (h.map _)
def sum3 (g : Nat → Int) : Int := g 0 + g 1 + g 2
theorem sum3_one {g g' : Nat → Int} {n : Nat} {d : Int} (hn : n < 3) (h1 : g' n = g n + d) (h2 : ∀ n', n' < 3 → n' ≠ n → g' n' = g n') : sum3 g' = sum3 g + d := by
 unfold sum3
 have h : n = 0 ∨ n = 1 ∨ n = 2 := by omega
 rcases h with rfl | rfl | rfl
 ·rw [h1, h2 1 (by omega) (by omega), h2 2 (by omega) (by omega)]; omega
 ·rw [h1, h2 0 (by omega) (by omega), h2 2 (by omega) (by omega)]; omega
 ·rw [h1, h2 0 (by omega) (by omega), h2 1 (by omega) (by omega)]; omega
theorem vd_cap {l : List Sp} (h : Vs l) : l.length ≤ 1099511627776 := (vs_vd.1 h).len
theorem AskI.step {l : List Rq} {j : Jns} (h : AskI l j) {r : Rq} (hr : r.ok) (hl : l.length < 20) :
  (askP j (nm r.n) l.length r.need).2 = 0 ∧ AskI (l ++ [r]) (askP j (nm r.n) l.length r.need).1.1 ∧ sum3 (fun n => tot (aN (l ++ [r]) n)) = sum3 (fun n => tot (aN l n)) + lens (askP j (nm r.n) l.length r.need).1.2 ∧
  ∀ f ∈ (askP j (nm r.n) l.length r.need).1.2, 0 ≤ f.sp.1 ∧ f.sp.1 < f.sp.2 ∧ f.sp.2 ≤ 1099511627776 := by
 have hn := r.lt
 generalize hrn : r.n = n at *
 have hno : ∀ w ∈ (row j n).wt, w.id ≠ (l.length : Int) := fun w hw e => by
  obtain ⟨i, hi, _, rfl⟩ := (h.wt n hn w).1 hw
  simp at e; omega
 have hvm : Vs (minusS r.need (flown (row j n))) := Vs.minus hr.1
 have hcap := vd_cap hvm
 have hwl : (row j n).wt.length ≤ l.length := by
  have := h.cnt
  have hx : n = 0 ∨ n = 1 ∨ n = 2 := by omega
  rcases hx with rfl | rfl | rfl <;> omega
 have hlast := h.last
 obtain ⟨s1, s2, s3, s4, s5, s6, s7⟩ := ask_step h.jok h.kys hn (who := l.length) hr.1 hr.2 hno (by omega) (by omega)
 generalize askP j (nm n) l.length r.need = p at *
 have hfl' : ∀ x, inS (flown (row p.1.1 n)) x ↔ inS (flown (row j n)) x ∨ inS r.need x := fun x => by
  rw [s6, in_flown]
  unfold askN
  constructor
  ·rintro ⟨f, hf, h1, h2⟩
   rcases yF.1 (insFs_perm.mem_iff.1 hf) with hf | hf
   ·exact .inl (in_flown.2 ⟨f, hf, h1, h2⟩)
   ·exact .inr (in_minusS.1 ⟨f.sp, (newF_mem hf).1, h1, h2⟩).1
  ·rintro (hx | hx)
   ·obtain ⟨f, hf, h1, h2⟩ := in_flown.1 hx
    exact ⟨f, insFs_perm.mem_iff.2 (yF.2 (.inl hf)), h1, h2⟩
   ·by_cases hc : inS (flown (row j n)) x
    ·obtain ⟨f, hf, h1, h2⟩ := in_flown.1 hc
     exact ⟨f, insFs_perm.mem_iff.2 (yF.2 (.inl hf)), h1, h2⟩
    ·obtain ⟨s, hs, h1, h2⟩ := in_minusS.2 ⟨hx, hc⟩
     rw [← newF_sp (l := minusS r.need (flown (row j n))) (last := j.last)] at hs
     obtain ⟨f, hf, rfl⟩ := yK.1 hs
     exact ⟨f, insFs_perm.mem_iff.2 (yF.2 (.inr hf)), h1, h2⟩
 have hI : AskI (l ++ [r]) p.1.1 := by
  refine ⟨s4, s5, ?_, fun n' hn' w => ?_, fun n' hn' x => ?_, ?_⟩
  ·rw [s3, yJ, uP]; omega
  ·have hold : (∃ i, ∃ h : i < (l ++ [r]).length, (l ++ [r])[i].n = n' ∧ w = ⟨i, (l ++ [r])[i].need⟩) ↔ (∃ i, ∃ h : i < l.length, l[i].n = n' ∧ w = ⟨i, l[i].need⟩) ∨ (n = n' ∧ w = ⟨l.length, r.need⟩) := by
    constructor
    ·rintro ⟨i, hi, a, b⟩
     rw [yJ, uP] at hi
     rcases yN i l.length with hc | hc
     ·rw [uQ hc] at a b
      exact .inl ⟨i, hc, a, b⟩
     ·have : i = l.length := by omega
      subst this
      simp at a b
      exact .inr ⟨by rw [← hrn]; exact a, b⟩
    ·rintro (⟨i, hi, a, b⟩ | ⟨a, b⟩)
     ·exact ⟨i, by simp; omega, by rw [uQ hi]; exact a, by rw [uQ hi]; exact b⟩
     ·exact ⟨l.length, by simp, by simp; rw [hrn]; exact a, by simp; exact b⟩
   rw [hold]
   by_cases hc : n' = n
   ·subst hc
    rw [s6]
    unfold askN
    rw [insT_mem, h.wt n' hn' w]
    constructor
    ·rintro (h | h)
     ·exact .inr ⟨rfl, h⟩
     ·exact .inl h
    ·rintro (h | ⟨_, h⟩)
     ·exact .inr h
     ·exact .inl h
   ·rw [s7 n' hn' hc, h.wt n' hn' w]
    constructor
    ·exact fun h => .inl h
    ·rintro (h | ⟨h, _⟩)
     ·exact h
     ·exact absurd h.symm hc
  ·have hold : (∃ q ∈ l ++ [r], q.n = n' ∧ inS q.need x) ↔ (∃ q ∈ l, q.n = n' ∧ inS q.need x) ∨ (n = n' ∧ inS r.need x) := by
    constructor
    ·rintro ⟨q, hq, a, b⟩
     rcases yF.1 hq with hq | hq
     ·exact .inl ⟨q, hq, a, b⟩
     ·obtain rfl := vU.1 hq
      exact .inr ⟨by rw [← hrn]; exact a, b⟩
    ·rintro (⟨q, hq, a, b⟩ | ⟨a, b⟩)
     ·exact ⟨q, yF.2 (.inl hq), a, b⟩
     ·exact ⟨r, by simp, by rw [hrn]; exact a, b⟩
   rw [hold]
   by_cases hc : n' = n
   ·subst hc
    rw [hfl' x, h.fl n' hn' x]
    constructor
    ·exact fun h => h.imp id fun h => ⟨rfl, h⟩
    ·exact fun h => h.imp id fun h => h.2
   ·rw [s7 n' hn' hc, h.fl n' hn' x]
    constructor
    ·exact fun h => .inl h
    ·rintro (h | ⟨h, _⟩)
     ·exact h
     ·exact absurd h.symm hc
  ·have hc := h.cnt
   have hw : (row p.1.1 n).wt.length = (row j n).wt.length + 1 := by rw [s6]; exact insT_len
   rw [yJ, uP]
   have hx : n = 0 ∨ n = 1 ∨ n = 2 := by omega
   rcases hx with rfl | rfl | rfl
   ·rw [hw, s7 1 (by omega) (by omega), s7 2 (by omega) (by omega)]; omega
   ·rw [hw, s7 0 (by omega) (by omega), s7 2 (by omega) (by omega)]; omega
   ·rw [hw, s7 0 (by omega) (by omega), s7 1 (by omega) (by omega)]; omega
 refine ⟨s1, hI, sum3_one hn ?_ fun n' hn' hne => ?_, fun f hf => ?_⟩
 ·rw [← hI.fly hn, ← h.fly hn, tot_flown (row_min s4 n), tot_flown (row_min h.jok n), s2, s6]
  show lens (askN j n _ _).fl = lens (row j n).fl + lens _
  rw [← lens_app]
  exact lens_perm insFs_perm
 ·rw [← hI.fly hn', ← h.fly hn', s7 n' hn' hne]
 ·rw [s2] at hf
  have h1 := (newF_mem hf).1
  have h2 := hvm.1.1 _ h1
  have h3 := hvm.2 _ h1
  omega
end Go.Fx.J
namespace Go.Fx.J
open Go Go.Fx Go.Proofs Go.Fx.R
theorem come_from {j : Jns} (h : JOk j) {key : S} {id : Int} {got : List Sp} {m : Mis} (hm : m ∈ (comeP j key id got).1.1.l) : m ∈ j.l ∨ m.key = key := by
 unfold comeP at hm
 split at hm
 ·exact .inl hm
 ·split at hm
  ·exact .inl hm
  ·split at hm
   ·exact .inl hm
   ·unfold comeM at hm
    split at hm
    ·exact .inl hm
    ·have hm : m ∈ cleanL _ _ _ _ _ := hm
     unfold cleanL at hm
     split at hm
     ·exact .inl (mem_less hm)
     ·rcases uY hm with hm | rfl
      ·exact .inl hm
      ·exact .inr rfl
theorem meet_self {s : Sp} (h : s.1 < s.2) : meetS [s] [s] = [s] := Sep.ext (sep_meetS (sep_one.2 h)) (sep_one.2 h) fun x => by rw [in_meetS]; exact and_self_iff
theorem sep_no {l : List Sp} (h : Sep l) (hx : ∀ x, ¬ inS l x) : l = [] := by
 cases l with
 | nil => rfl
 | cons s l =>
  have := (sep_cons.1 h).1
  exact absurd ⟨s, by simp, vS _, this⟩ (hx s.1)
theorem minus_self {s : Sp} (h : s.1 < s.2) : minusS [s] [s] = [] := sep_no (sep_minusS (sep_one.2 h)) fun x hx => (in_minusS.1 hx).2 (in_minusS.1 hx).1
theorem idx_of {l : List Fet} (hu : (l.map (·.id)).Nodup) {f : Fet} (hf : f ∈ l) : ∃ h : l.findIdx (eqF f.id) < l.length, l[l.findIdx (eqF f.id)] = f := by
 have h1 : l.findIdx (eqF f.id) < l.length := vV.2 ⟨f, hf, decide_eq_true rfl⟩
 refine ⟨h1, ?_⟩
 have h2 : (l[l.findIdx (eqF f.id)]).id = f.id := of_decide_eq_true (List.findIdx_getElem (w := h1))
 obtain ⟨i, hi, he⟩ := yL hf
 have h3 := vO.1 (uM.1 (List.nodup_iff_pairwise_ne.1 hu))
 have h5 : l.findIdx (eqF f.id) = i := by
  rcases uE (l.findIdx (eqF f.id)) i with hc | hc | hc
  ·exact absurd (by rw [h2, he]) (h3 _ _ h1 hi hc)
  ·exact hc
  ·exact absurd (by rw [h2, he]) (h3 _ _ hi h1 hc)
 simp only [h5]
 exact he
theorem come_one {j : Jns} (h : JOk j) {key : S} {m : Mis} (hm : m ∈ j.l) (hk : m.key = key) {f : Fet} (hf : f ∈ m.fl)
  (hc : ∀ g ∈ lessL m.fl (m.fl.findIdx (eqF f.id)), ∃ x, inS (needed ⟨key, lessL m.fl (m.fl.findIdx (eqF f.id)), comeR m.wt [f.sp]⟩) x ∧ g.sp.1 ≤ x ∧ x < g.sp.2) :
  comeP j key f.id [f.sp] = ((⟨j.last, if comeR m.wt [f.sp] = [] then lessL j.l (posN (ltM key) j.l) else j.l.set (posN (ltM key) j.l) ⟨key, lessL m.fl (m.fl.findIdx (eqF f.id)), comeR m.wt [f.sp]⟩⟩, comeD m.wt [f.sp], []), 0) := by
 obtain ⟨hp, he, ha⟩ := at_key h hm
 rw [hk] at ha
 have he' : mAt j (posN (ltM key) j.l) = m := by
  rw [← hk, mAt_eq hp]; exact he
 have hid : (m.fl.map (·.id)).Nodup := by have := ids_row h hp; rw [he] at this; exact this
 obtain ⟨hi, hie⟩ := idx_of hid hf
 have hfs := ((h.m m hm).f f hf).1
 have hv : vd [f.sp] = true := vd_iff.2 (vs_vd.1 (vs_one hfs))
 have hfa : fAt m (m.fl.findIdx (eqF f.id)) = f := by rw [fAt_eq hi]; exact hie
 have hany : m.fl.any (eqF f.id) = true := yX.2 ⟨f, hf, decide_eq_true rfl⟩
 unfold comeP
 rw [if_neg (by rw [ha]; simp), he', if_neg (by rw [hany]; simp), if_neg (by rw [hv]; simp)]
 generalize m.fl.findIdx (eqF f.id) = i at *
 have hh : hereP m i [f.sp] = [f.sp] := by unfold hereP; rw [hfa]; exact meet_self hfs.2.1
 have hw : wantP key m i [f.sp] = [] := by
  unfold wantP
  rw [hfa, hh, minus_self hfs.2.1]
  exact sep_no (sep_meetS sep_nil) fun x hx => by have := (in_meetS.1 hx).1; simp [inS_nil] at this
 unfold comeM
 rw [hw, hh, if_neg (by have := h.lo; simp; omega)]
 simp only [List.length_nil, yT, Int.add_zero, newF, List.foldl_nil]
 unfold cleanL
 have hkp : keptD (goF (needed ⟨key, lessL m.fl i, comeR m.wt [f.sp]⟩)) (lessL m.fl i) = lessL m.fl i := by
  unfold keptD
  rw [List.filter_eq_self]
  intro g hg
  unfold goF
  rw [(common_iff sep_need).2 (hc g hg)]
  rfl
 rw [hkp]
def upd (c : Nat → List Sp) (n : Nat) (s : Sp) : Nat → List Sp := fun n' => if n' = n then addS (c n) s else c n'
structure ArrI (l : List Rq) (c : Nat → List Sp) (ans : List Int) (j : Jns) : Prop where
 jok : JOk j
 kys : Kys j
 cv : ∀ n, n < 3 → Vd (c n)
 wt : ∀ n, n < 3 → ∀ w, w ∈ (row j n).wt ↔ ∃ i, ∃ h : i < l.length, (l[i].n = n ∧ minusS l[i].need (c n) ≠ []) ∧ w = ⟨i, minusS l[i].need (c n)⟩
 fl : ∀ n, n < 3 → ∀ x, inS (flown (row j n)) x ↔ (∃ r ∈ l, r.n = n ∧ inS r.need x) ∧ ¬ inS (c n) x
 an : ∀ i : Nat, (i : Int) ∈ ans ↔ ∃ h : i < l.length, minusS l[i].need (c l[i].n) = []
 cnt : ans.length + ((row j 0).wt.length + (row j 1).wt.length + (row j 2).wt.length) = l.length
theorem ArrI.start {l : List Rq} {j : Jns} (h : AskI l j) (hl : ∀ r ∈ l, r.ok) : ArrI l (fun _ => []) [] j := by
 refine ⟨h.jok, h.kys, fun n _ => vs_vd.1 vs_nil, fun n hn w => ?_, fun n hn x => ?_, fun i => ?_, ?_⟩
 ·rw [h.wt n hn w]
  constructor
  ·rintro ⟨i, hi, a, b⟩
   exact ⟨i, hi, ⟨a, (hl _ (yD hi)).2⟩, b⟩
  ·rintro ⟨i, hi, ⟨a, _⟩, b⟩
   exact ⟨i, hi, a, b⟩
 ·rw [h.fl n hn x]
  exact ⟨fun h => ⟨h, by simp [inS_nil]⟩, fun h => h.1⟩
 ·constructor
  ·intro h; cases h
  ·rintro ⟨hi, e⟩
   exact absurd e (hl _ (yD hi)).2
 ·rw [List.length_nil, Nat.zero_add]; exact h.cnt
def nF (j : Jns) : Nat := (row j 0).fl.length + (row j 1).fl.length + (row j 2).fl.length
theorem minus_add {a c : List Sp} {s : Sp} (ha : Sep a) (hc : Sep c) : minusS a (addS c s) = minusS (minusS a c) [s] := Sep.ext (sep_minusS ha) (sep_minusS (sep_minusS ha)) fun x => by
 rw [in_minusS, in_minusS, in_minusS, in_addS hc, inS_cons, not_or, and_assoc]
 simp [inS_nil]
theorem come_cnt {wt : List Wai} {here : List Sp} : (comeD wt here).length + (comeR wt here).length = wt.length := by
 induction wt with
 | nil => rfl
 | cons w wt ih =>
  unfold comeD comeR at *
  rw [xA, xA]
  by_cases h : (minusS w.need here).length = 0
  ·simp only [h, if_true, uB]; omega
  ·simp only [h, if_false, uB]; omega
theorem three {n : Nat} (hn : n < 3) : n = 0 ∨ n = 1 ∨ n = 2 := by omega
theorem ArrI.step {l : List Rq} {c : Nat → List Sp} {ans : List Int} {j : Jns} (h : ArrI l c ans j) (hl : ∀ r ∈ l, r.ok) {n : Nat} (hn : n < 3) (hm : row j n ∈ j.l) {f : Fet} (hf : f ∈ (row j n).fl) :
  ((comeP j (nm n) f.id [f.sp]).2 = 0 ∧ (comeP j (nm n) f.id [f.sp]).1.2.2 = []) ∧ ArrI l (upd c n f.sp) (ans ++ (comeP j (nm n) f.id [f.sp]).1.2.1) (comeP j (nm n) f.id [f.sp]).1.1 ∧ nF (comeP j (nm n) f.id [f.sp]).1.1 + 1 = nF j := by
 have hkey := row_key h.jok n
 have hM := h.jok.m _ hm
 have hfs := (hM.f f hf).1
 obtain ⟨hp, he⟩ : ∃ hp : posN (ltM (nm n)) j.l < j.l.length, j.l[posN (ltM (nm n)) j.l] = row j n := by
  obtain ⟨hp, he, _⟩ := at_key h.jok hm
  rw [← hkey]
  exact ⟨hp, he⟩
 have hid : ((row j n).fl.map (·.id)).Nodup := by
  obtain ⟨hp, he, _⟩ := at_key h.jok hm
  have := ids_row h.jok hp; rw [he] at this; exact this
 obtain ⟨hi, hie⟩ := idx_of hid hf
 have hcs := (h.cv n hn).1
 have hbs : Bs f.sp := by unfold Bs; omega
 have hcv : ∀ n', n' < 3 → Vd (upd c n f.sp n') := fun n' hn' => by
  unfold upd
  split
  ·exact Vd.add (h.cv n hn) hbs
  ·exact h.cv n' hn'
 -- who waits on
 have hsep : ∀ i (hi : i < l.length), Sep l[i].need := fun i hi => (hl _ (yD hi)).1.1
 have hR : ∀ w, w ∈ comeR (row j n).wt [f.sp] ↔ ∃ i, ∃ h : i < l.length, (l[i].n = n ∧ minusS l[i].need (upd c n f.sp n) ≠ []) ∧ w = ⟨i, minusS l[i].need (upd c n f.sp n)⟩ := fun w => by
  have hu : upd c n f.sp n = addS (c n) f.sp := by unfold upd; rw [if_pos rfl]
  rw [hu]
  constructor
  ·intro hw
   obtain ⟨v, hv, h0, rfl⟩ := comeR_mem hw
   obtain ⟨i, hi, ⟨a, b⟩, rfl⟩ := (h.wt n hn v).1 hv
   refine ⟨i, hi, ⟨a, ?_⟩, ?_⟩
   ·rw [minus_add (hsep i hi) hcs]; exact fun e => h0 (by rw [e]; rfl)
   ·rw [minus_add (hsep i hi) hcs]
  ·rintro ⟨i, hi, ⟨a, b⟩, rfl⟩
   rw [minus_add (hsep i hi) hcs] at b ⊢
   unfold comeR
   refine uJ.2 ⟨⟨i, minusS l[i].need (c n)⟩, (h.wt n hn _).2 ⟨i, hi, ⟨a, fun e => b (by rw [e]; exact sep_no (sep_minusS sep_nil) fun x hx => by have := (in_minusS.1 hx).1; simp [inS_nil] at this)⟩, rfl⟩, ?_⟩
   rw [if_neg (fun e => b (vK.1 e))]
 have hD : ∀ i : Nat, (i : Int) ∈ comeD (row j n).wt [f.sp] ↔ ∃ h : i < l.length, l[i].n = n ∧ minusS l[i].need (c n) ≠ [] ∧ minusS l[i].need (upd c n f.sp n) = [] := fun i => by
  have hu : upd c n f.sp n = addS (c n) f.sp := by unfold upd; rw [if_pos rfl]
  rw [hu]
  unfold comeD
  rw [uJ]
  constructor
  ·rintro ⟨v, hv, hx⟩
   split at hx
   ·rename_i h0
    obtain ⟨k, hk, ⟨a, b⟩, rfl⟩ := (h.wt n hn v).1 hv
    have : (k : Int) = i := by simpa using hx
    obtain rfl : k = i := by omega
    exact ⟨hk, a, b, by rw [minus_add (hsep k hk) hcs]; exact vK.1 h0⟩
   ·cases hx
  ·rintro ⟨hi, a, b, e⟩
   refine ⟨⟨i, minusS l[i].need (c n)⟩, (h.wt n hn _).2 ⟨i, hi, ⟨a, b⟩, rfl⟩, ?_⟩
   rw [minus_add (hsep i hi) hcs] at e
   have e' : (minusS (minusS l[i].need (c n)) [f.sp]).length = 0 := by rw [e]; rfl
   simp [e']
 have hcnt := come_cnt (wt := (row j n).wt) (here := [f.sp])
 -- what is fetched on
 have hF : ∀ x, (∃ g ∈ lessL (row j n).fl ((row j n).fl.findIdx (eqF f.id)), g.sp.1 ≤ x ∧ x < g.sp.2) ↔ (∃ r ∈ l, r.n = n ∧ inS r.need x) ∧ ¬ inS (upd c n f.sp n) x := fun x => by
  have hu : upd c n f.sp n = addS (c n) f.sp := by unfold upd; rw [if_pos rfl]
  rw [hu, in_addS hcs, not_or, ← and_assoc, ← h.fl n hn x, in_flown]
  constructor
  ·rintro ⟨g, hg, a, b⟩
   refine ⟨⟨g, mem_less hg, a, b⟩, ?_⟩
   have := less_apart hi hM.fo hg
   rw [hie] at this
   omega
  ·rintro ⟨⟨g, hg, a, b⟩, hn'⟩
   rcases less_or hi hg with e | hg
   ·rw [hie] at e; subst e; exact absurd ⟨a, b⟩ hn'
   ·exact ⟨g, hg, a, b⟩
 have hc : ∀ g ∈ lessL (row j n).fl ((row j n).fl.findIdx (eqF f.id)), ∃ x, inS (needed ⟨nm n, lessL (row j n).fl ((row j n).fl.findIdx (eqF f.id)), comeR (row j n).wt [f.sp]⟩) x ∧ g.sp.1 ≤ x ∧ x < g.sp.2 := fun g hg => by
  have hgs := (hM.f g (mem_less hg)).1
  obtain ⟨⟨r, hr, hrn, hx⟩, hno⟩ := (hF g.sp.1).1 ⟨g, hg, vS _, hgs.2.1⟩
  obtain ⟨i, hi, rfl⟩ := yL hr
  have hin : inS (minusS l[i].need (upd c n f.sp n)) g.sp.1 := in_minusS.2 ⟨hx, hno⟩
  refine ⟨g.sp.1, in_needed.2 ⟨_, (hR _).2 ⟨i, hi, ⟨hrn, fun e => ?_⟩, rfl⟩, hin⟩, vS _, hgs.2.1⟩
  rw [e] at hin
  simp [inS_nil] at hin
 have hq := come_one h.jok hm hkey hf hc
 have hJ := come_jok h.jok (nm n) f.id [f.sp]
 have hfrom := fun m hm => come_from h.jok (m := m) (key := nm n) (id := f.id) (got := [f.sp]) hm
 have hkeep := fun m hm hne => come_keep h.jok (m := m) (key := nm n) (id := f.id) (got := [f.sp]) hm hne
 have hoth : ∀ n' < 3, n' ≠ n → row (comeP j (nm n) f.id [f.sp]).1.1 n' = row j n' := fun n' hn' hne' => by
  have hkne : nm n' ≠ nm n := fun e => hne' (nm_inj hn' hn e)
  rcases row_cases h.jok n' with ⟨h1, h2, _⟩ | ⟨h1, h2⟩
  ·exact row_of hJ (hkeep _ h1 (by rw [h2]; exact hkne)) h2
  ·rw [h1]
   refine row_no fun m hm e => ?_
   rcases hfrom m hm with hm | hm
   ·exact h2 m hm e
   ·rw [hm] at e; exact hkne e.symm
 have hrow : (row (comeP j (nm n) f.id [f.sp]).1.1 n).wt = comeR (row j n).wt [f.sp] ∧ (row (comeP j (nm n) f.id [f.sp]).1.1 n).fl = lessL (row j n).fl ((row j n).fl.findIdx (eqF f.id)) := by
  by_cases hw : comeR (row j n).wt [f.sp] = []
  ·have hfl0 : lessL (row j n).fl ((row j n).fl.findIdx (eqF f.id)) = [] := by
    cases hL : lessL (row j n).fl ((row j n).fl.findIdx (eqF f.id)) with
    | nil => rfl
    | cons g r =>
     obtain ⟨x, hx, _⟩ := hc g (by rw [hL]; simp)
     obtain ⟨w, hw', _⟩ := in_needed.1 hx
     rw [hw] at hw'; cases hw'
   have hno : row (comeP j (nm n) f.id [f.sp]).1.1 n = ⟨nm n, [], []⟩ := by
    refine row_no fun m hm e => ?_
    rw [hq] at hm
    have hm : m ∈ (if comeR (row j n).wt [f.sp] = [] then lessL j.l (posN (ltM (nm n)) j.l) else j.l.set (posN (ltM (nm n)) j.l) ⟨nm n, lessL (row j n).fl ((row j n).fl.findIdx (eqF f.id)), comeR (row j n).wt [f.sp]⟩) := hm
    rw [if_pos hw] at hm
    have ho := vO.1 h.jok.o
    have hpk : j.l[posN (ltM (nm n)) j.l].key = nm n := by rw [he]; exact hkey
    rcases yF.1 hm with hm | hm
    ·obtain ⟨i, hi, rfl⟩ := yL hm
     rw [yV] at hi
     rw [vP] at e
     have := ho i _ (by omega) hp (by omega)
     rw [e, hpk] at this
     exact s_irr _ this
    ·obtain ⟨i, hi, rfl⟩ := yL hm
     rw [vR] at hi
     rw [vQ] at e
     have := ho _ (posN (ltM (nm n)) j.l + 1 + i) hp (by omega) (by omega)
     rw [e, hpk] at this
     exact s_irr _ this
   rw [hno, hw, hfl0]
   exact ⟨rfl, rfl⟩
  ·have : row (comeP j (nm n) f.id [f.sp]).1.1 n = ⟨nm n, lessL (row j n).fl ((row j n).fl.findIdx (eqF f.id)), comeR (row j n).wt [f.sp]⟩ := by
    refine row_of hJ ?_ rfl
    rw [hq]
    show _ ∈ (if comeR (row j n).wt [f.sp] = [] then lessL j.l (posN (ltM (nm n)) j.l) else j.l.set (posN (ltM (nm n)) j.l) ⟨nm n, lessL (row j n).fl ((row j n).fl.findIdx (eqF f.id)), comeR (row j n).wt [f.sp]⟩)
    rw [if_neg hw]
    generalize (⟨nm n, lessL (row j n).fl ((row j n).fl.findIdx (eqF f.id)), comeR (row j n).wt [f.sp]⟩ : Mis) = R
    have hx := yD (l := j.l.set (posN (ltM (nm n)) j.l) R) (n := posN (ltM (nm n)) j.l) (by simpa using hp)
    rwa [uZ] at hx
   rw [this]
   exact ⟨rfl, rfl⟩
 have hd' : (comeP j (nm n) f.id [f.sp]).1.2.1 = comeD (row j n).wt [f.sp] := by rw [hq]
 refine ⟨⟨by rw [hq], by rw [hq]⟩, ⟨hJ, fun m hm => ?_, hcv, fun n' hn' w => ?_, fun n' hn' x => ?_, fun i => ?_, ?_⟩, ?_⟩
 ·rcases hfrom m hm with hm | hm
  ·exact h.kys m hm
  ·exact ⟨n, hn, hm⟩
 ·by_cases hne : n' = n
  ·subst hne
   rw [hrow.1]; exact hR w
  ·rw [hoth n' hn' hne, h.wt n' hn' w]
   have hu : upd c n f.sp n' = c n' := by unfold upd; rw [if_neg hne]
   rw [hu]
 ·by_cases hne : n' = n
  ·subst hne
   rw [in_flown, hrow.2]; exact hF x
  ·rw [hoth n' hn' hne, h.fl n' hn' x]
   have hu : upd c n f.sp n' = c n' := by unfold upd; rw [if_neg hne]
   rw [hu]
 ·rw [yF, h.an i, hd', hD i]
  have hmono : ∀ (hi : i < l.length), l[i].n = n → minusS l[i].need (c n) = [] → minusS l[i].need (upd c n f.sp n) = [] := fun hi a e => by
   have hu : upd c n f.sp n = addS (c n) f.sp := by unfold upd; rw [if_pos rfl]
   rw [hu, minus_add (hsep i hi) hcs, e]
   exact sep_no (sep_minusS sep_nil) fun x hx => by have := (in_minusS.1 hx).1; simp [inS_nil] at this
  have hu2 : ∀ n', n' ≠ n → upd c n f.sp n' = c n' := fun n' hne => by unfold upd; rw [if_neg hne]
  constructor
  ·rintro (⟨hi, e⟩ | ⟨hi, a, b, e⟩)
   ·refine ⟨hi, ?_⟩
    by_cases hne : l[i].n = n
    ·rw [hne] at e ⊢; exact hmono hi hne e
    ·rw [hu2 _ hne]; exact e
   ·exact ⟨hi, by rw [a]; exact e⟩
  ·rintro ⟨hi, e⟩
   by_cases hne : l[i].n = n
   ·rw [hne] at e
    by_cases h0 : minusS l[i].need (c n) = []
    ·exact .inl ⟨hi, by rw [hne]; exact h0⟩
    ·exact .inr ⟨hi, hne, h0, e⟩
   ·rw [hu2 _ hne] at e
    exact .inl ⟨hi, e⟩
 ·have hc0 := h.cnt
  rw [yJ, hd']
  rcases three hn with rfl | rfl | rfl
  ·rw [hrow.1, hoth 1 (by omega) (by omega), hoth 2 (by omega) (by omega)]; omega
  ·rw [hrow.1, hoth 0 (by omega) (by omega), hoth 2 (by omega) (by omega)]; omega
  ·rw [hrow.1, hoth 0 (by omega) (by omega), hoth 1 (by omega) (by omega)]; omega
 ·have hll : (lessL (row j n).fl ((row j n).fl.findIdx (eqF f.id))).length + 1 = (row j n).fl.length := by unfold lessL; simp; omega
  unfold nF
  rcases three hn with rfl | rfl | rfl
  ·rw [hrow.2, hoth 1 (by omega) (by omega), hoth 2 (by omega) (by omega)]; omega
  ·rw [hrow.2, hoth 0 (by omega) (by omega), hoth 2 (by omega) (by omega)]; omega
  ·rw [hrow.2, hoth 0 (by omega) (by omega), hoth 1 (by omega) (by omega)]; omega
theorem ArrI.done {l : List Rq} {c : Nat → List Sp} {ans : List Int} {j : Jns} (h : ArrI l c ans j) (h0 : nF j = 0) : j.l = [] ∧ ans.length = l.length := by
 have hw : ∀ n, n < 3 → (row j n).wt = [] := fun n hn => by
  have hf0 : (row j n).fl = [] := by
   unfold nF at h0
   rcases three hn with rfl | rfl | rfl <;> exact vK.1 (by omega)
  cases hL : (row j n).wt with
  | nil => rfl
  | cons w r =>
   have hmw : w ∈ (row j n).wt := by rw [hL]; simp
   have hm := row_in h.jok (n := n) (by rw [hL]; simp)
   have hM := h.jok.m _ hm
   obtain ⟨h1, h2⟩ := hM.w w hmw
   have hx : ∃ x, inS w.need x := Classical.byContradiction fun hno => h2 (sep_no h1.1 fun x hx => hno ⟨x, hx⟩)
   obtain ⟨x, hx⟩ := hx
   obtain ⟨f, hf, _⟩ := in_flown.1 (hM.d x (in_needed.2 ⟨w, hmw, hx⟩))
   rw [hf0] at hf; cases hf
 refine ⟨?_, ?_⟩
 ·rw [rows_eq h.jok h.kys]
  simp [nonE, hw 0 (by omega), hw 1 (by omega), hw 2 (by omega)]
 ·have := h.cnt
  rw [hw 0 (by omega), hw 1 (by omega), hw 2 (by omega)] at this
  simpa using this
end Go.Fx.J
namespace Go.Fx.J
open Go Go.Fx Go.Proofs Go.Fx.R
set_option maxRecDepth 20000
end Go.Fx.J
namespace Go.Fx.J
open Go Go.Fx Go.Proofs Go.Fx.R
set_option maxRecDepth 20000
abbrev u8 (k : Nat) : V := .v (.int .u8 k)
theorem ok23 (k : Nat) (hk : k < 256) : Ok 23 [u8 k] (Is (sv (nm (k % 3)))) := by
 refine ok_of lw23 (by simp) ?_
 unfold c23
 simp -implicitDefEqProofs only [rX,↓rY,ofConst,cells?,↓reduceIte,reduceCtorEq,freshP,litsP,resP,tupV,wfV,isD,Nat.reduceLT,cxN,k_nil,yB,yA,args0]
 rw [show (k : Int).tmod 3 = ((k % 3 : Nat) : Int) from by rw [vL (by omega)]; omega]
 have h3 : k % 3 < 3 := vT _ (by omega)
 generalize k % 3 = n at *
 refine ⟨by omega, by simp only [lo, Fx.hi]; omega, ?_⟩
 have he : ((97 : Int) + (n : Int)).toNat = 97 + n := by omega
 simp [bytesOf, optK, he, nm, sb]
theorem ok69 (l : List Int) (n : Int) : Ok 69 [.bro 1 (l.map encI), .i n] (Is (.b (decide (n ∈ l)))) := by
 refine ok_of lw69 (by simp) ?_
 unfold c69
 simp -implicitDefEqProofs only [rX,ofConst,cxN,args0]
 refine loopP_intro (fun i : Nat => ⟨[(5, .i i), (0, .bro 1 (l.map encI)), (1, .i n)], [], 0⟩) (fun i => i ≤ l.length ∧ n ∉ l.take i) (fun i => l.length - i) 0 ⟨by omega, by simp⟩ ?_ ?_
 ·simp -implicitDefEqProofs only [rX,↓reduceIte,Nat.reduceEqDiff,reduceCtorEq,leE,leH,keepP,wfE,wfB,wfV,yT]
 rintro i ⟨hi0, hno⟩
 unfold c69l0
 rcases yN i l.length with hi' | hi'
 ·have hd : decide ((i : Int) < (l.length : Int)) = true := decide_eq_true (by omega)
  have hii : (0 : Int) ≤ i ∧ (i : Int) < l.length := ⟨by omega, by omega⟩
  cases hE : l[i] == n with
  | true =>
   have hmem : decide (n ∈ l) = true := decide_eq_true (by rw [← eq_of_beq hE]; exact yD hi')
   rw [hmem]
   simp -implicitDefEqProofs only [rX,↓rY,rZ,ofConst,↓reduceIte,Nat.reduceEqDiff,reduceCtorEq,resP,tupV,wfV,yA,hd,hE]
   exact fun _ => ⟨hii, hi', trivial⟩
  | false =>
   simp -implicitDefEqProofs only [rX,↓rY,rZ,ofConst,↓reduceIte,Nat.reduceEqDiff,reduceCtorEq,leE,leH,keepP,wfE,wfB,wfV,yA,hd,hE]
   refine fun hm => ⟨hii, hi', by simp only [lo, Fx.hi, maxLen] at *; omega, i + 1, ⟨⟨hi', ?_⟩, by omega⟩, by omega⟩
   rw [vJ hi', yF, vU]
   rintro (h | h)
   ·exact hno h
   ·rw [← h] at hE; simp at hE
 ·have hd : decide ((i : Int) < (l.length : Int)) = false := decide_eq_false (by omega)
  rw [yE (by omega)] at hno
  rw [decide_eq_false hno]
  simp -implicitDefEqProofs only [rX,↓rY,ofConst,↓reduceIte,Nat.reduceEqDiff,reduceCtorEq,resP,tupV,wfV,hd]
  exact fun _ => trivial
def firstP : Nat → List Mis → Option (S × Fet)
 | _, [] => none
 | p, m :: l => if h : p < m.fl.length then some (m.key, m.fl[p]) else firstP (p - m.fl.length) l
def cntF (l : List Mis) : Nat := (l.map fun m => m.fl.length).sum
def firstR (l : List Mis) (p : Nat) : Option (S × Fet) := if cntF l = 0 then none else firstP (p % cntF l) l
def encF : Option (S × Fet) → V
 | none => .tup [sv [], .agg (Fet.enc ⟨0, (0, 0)⟩), .b false]
 | some (k, f) => .tup [sv k, .agg f.enc, .b true]
theorem first_mem : ∀ {l : List Mis} {p : Nat} {k : S} {f : Fet}, firstP p l = some (k, f) → ∃ m ∈ l, m.key = k ∧ f ∈ m.fl
 | [], _, _, _, h => by cases h
 | m :: l, p, k, f, h => by
  unfold firstP at h
  split at h
  ·rename_i hp
   simp only [Option.some.injEq, Prod.mk.injEq] at h
   exact ⟨m, by simp, h.1, by rw [← h.2]; exact yD _⟩
  ·obtain ⟨m', h1, h2⟩ := first_mem h
   exact ⟨m', yY _ h1, h2⟩
theorem first_some : ∀ {l : List Mis} {p : Nat}, p < cntF l → firstP p l ≠ none
 | [], p, h => by simp [cntF] at h
 | m :: l, p, h => by
  unfold firstP
  split
  ·simp
  ·refine first_some ?_
   unfold cntF at h ⊢
   rw [yH, uA] at h
   omega
theorem firstP_c {p : Nat} {m : Mis} {l : List Mis} : firstP p (m :: l) = if h : p < m.fl.length then some (m.key, m.fl[p]) else firstP (p - m.fl.length) l := by rw [firstP]
theorem ok68 (j : Jns) (p : Nat) (hp : p ≤ 1000000) (hl : j.l.length ≤ 1000) (hf : ∀ m ∈ j.l, m.fl.length ≤ 1099511627776) : Ok 68 [.agg j.enc, .i p] (Is (encF (firstR j.l p))) := by
 refine okN_gv ?_
 refine ok_of lw68 (by simp) ?_
 unfold c68
 have hcnt : ∀ i, cntF (j.l.take i) ≤ 1099511627776 * 1000 := fun i => by
  have key : ∀ l : List Mis, (∀ m ∈ l, m.fl.length ≤ 1099511627776) → cntF l ≤ 1099511627776 * l.length := by
   intro l hl
   induction l with
   | nil => simp [cntF]
   | cons m l ih =>
    have := ih fun q hq => hl q (yY _ hq)
    have := hl m yU
    unfold cntF at *
    rw [yH, uA, uB]
    omega
  have h1 := key (j.l.take i) fun m hm => hf m (vB hm)
  have h2 : (j.l.take i).length ≤ 1000 := by rw [yV]; omega
  omega
 simp -implicitDefEqProofs only [rX,↓rY,ofConst,cells?,↓reduceIte,Nat.reduceAdd,freshP,cxN,k_nil,yA,args0]
 refine loopP_intro (fun i : Nat => ⟨[(8, .i i), (7, .i (cntF (j.l.take i))), (5, .ptr 1 0 0), (2, .ptr 0 0 0), (1, .i p)], [.var j.enc, .var [.i 0, .i 0, .i 0]], 2⟩) (fun i => i ≤ j.l.length) (fun i => j.l.length - i) 0 (by omega) ?_ ?_
 ·simp -implicitDefEqProofs only [rX,↓reduceIte,Nat.reduceEqDiff,reduceCtorEq,leE,leH,leB,leV,leVs,keepP,liveP,wfE,wfB,wfV,wfL,yT,cntF,List.sum_nil]
 rintro i hi0
 unfold c68l0
 rcases yN i j.l.length with hi' | hi'
 ·have hd : decide ((i : Int) < (j.l.length : Int)) = true := decide_eq_true (by omega)
  have hii : (0 : Int) ≤ i ∧ (i : Int) < j.l.length := ⟨by omega, by omega⟩
  have hs : cntF (j.l.take (i + 1)) = cntF (j.l.take i) + j.l[i].fl.length := by
   unfold cntF
   rw [vJ hi', yQ, uN]; simp
  have h1 := hcnt i
  have h2 := hcnt (i + 1)
  simp -implicitDefEqProofs only [rX,↓rY,ofConst,↓reduceIte,Nat.reduceEqDiff,Nat.reduceAdd,leE,leH,leB,leV,leVs,keepP,liveP,wfE,wfB,wfV,wfL,ms_1,yA,hd]
  exact fun _ => ⟨hii, hi', fun _ => ⟨by simp only [lo, Fx.hi]; omega, by simp only [lo, Fx.hi]; omega, i + 1, ⟨hi', by omega⟩, by omega, by omega⟩⟩
 ·have hd : decide ((i : Int) < (j.l.length : Int)) = false := decide_eq_false (by omega)
  rw [yE (by omega)]
  have h1 := hcnt j.l.length
  rw [vW] at h1
  cases h0 : ((cntF j.l : Int) == 0) with
  | true =>
   have hr : firstR j.l p = none := if_pos (by have := eq_of_beq h0; omega)
   rw [hr]
   simp -implicitDefEqProofs only [rX,↓rY,ofConst,cells?,splice,↓reduceIte,Nat.reduceEqDiff,Nat.reduceAdd,buildP,isC,yC,yA,hd,h0]
   intro _
   refine ret_data ?_
   simp -implicitDefEqProofs only [rX,↓rY,↓reduceIte,Nat.reduceEqDiff,Nat.reduceAdd,resP,tupV,wfV,wfL,yB,yA]
   simp [Gv, tupV, gvV, gvL, wk, wkL, wkR, wfV, wfL, encF, Fet.enc]
  | false =>
   have h0' : cntF j.l ≠ 0 := fun e => by rw [e] at h0; simp at h0
   have hr : firstR j.l p = firstP (p % cntF j.l) j.l := if_neg h0'
   rw [hr]
   simp -implicitDefEqProofs only [rX,↓rY,ofConst,cells?,splice,↓reduceIte,Nat.reduceEqDiff,Nat.reduceAdd,buildP,isC,yC,yA,hd,h0]
   refine fun _ => ⟨by omega, ?_⟩
   have hmd : (p : Int).tmod (cntF j.l : Int) = ((p % cntF j.l : Nat) : Int) := by rw [vL (by omega)]; rfl
   rw [hmd]
   have hq : p % cntF j.l ≤ p := Nat.mod_le _ _
   generalize p % cntF j.l = q0 at *
   refine loopP_intro (fun g : Nat × Nat => ⟨[(9, .i g.1), (1, .i g.2), (5, .ptr 1 0 0), (2, .ptr 0 0 0)], [.var j.enc, .var [.i 0, .i 0, .i 0]], 2⟩) (fun g => (g.1 ≤ j.l.length ∧ g.2 ≤ q0) ∧ firstP g.2 (j.l.drop g.1) = firstP q0 j.l) (fun g => j.l.length - g.1) (0, q0) ⟨⟨by simp, by simp⟩, by simp⟩ ?_ ?_
   ·simp -implicitDefEqProofs only [rX,↓reduceIte,Nat.reduceEqDiff,leE,leH,leB,leV,leVs,keepP,liveP,wfE,wfB,wfV,wfL,yT]
   rintro ⟨i, q⟩ ⟨⟨hi0, hq0⟩, hfp⟩
   simp only at hi0 hq0 hfp
   rw [← hfp]
   unfold c68l1
   rcases yN i j.l.length with hi' | hi'
   ·have hd2 : decide ((i : Int) < (j.l.length : Int)) = true := decide_eq_true (by omega)
    have hii : (0 : Int) ≤ i ∧ (i : Int) < j.l.length := ⟨by omega, by omega⟩
    rw [vY hi', firstP_c] at hfp ⊢
    have hfm := hf _ (yD hi')
    cases hc : decide ((q : Int) < (j.l[i].fl.length : Int)) with
    | true =>
     have hc' : q < j.l[i].fl.length := by have := of_decide_eq_true hc; omega
     rw [dif_pos hc']
     simp -implicitDefEqProofs only [rX,↓rY,ofConst,cells?,splice,↓reduceIte,Nat.reduceEqDiff,Nat.reduceAdd,ft_len,ft_t,ft_C,ms_0,ms_1,yC,yA,hd2,hc]
     refine fun _ => ⟨hii, hi', fun _ => ⟨hii, hi', hii, hi', ⟨by omega, by omega⟩, hc', ?_⟩⟩
     refine ret_data ?_
     simp -implicitDefEqProofs only [rX,↓rY,↓reduceIte,Nat.reduceEqDiff,resP,tupV,wfV,wfL,ft_len,ft_t,ft_wf,yA]
     simp [Gv, tupV, gvV, gvL, wk, wkL, wkR, wfV, wfL, encF, Fet.enc]
    | false =>
     have hc' : ¬ q < j.l[i].fl.length := by have := of_decide_eq_false hc; omega
     rw [dif_neg hc'] at hfp ⊢
     simp -implicitDefEqProofs only [rX,↓rY,ofConst,↓reduceIte,Nat.reduceEqDiff,Nat.reduceAdd,leE,leH,leB,leV,leVs,keepP,liveP,wfE,wfB,wfV,wfL,ms_1,yA,hd2,hc]
     exact fun _ => ⟨hii, hi', fun _ => ⟨hii, hi', fun _ => ⟨by simp only [lo, Fx.hi]; omega, by simp only [lo, Fx.hi]; omega, (i + 1, q - j.l[i].fl.length), ⟨⟨⟨hi', by show q - _ ≤ q0; omega⟩, rfl⟩, by omega⟩, by omega, by show (q : Int) - _ = ((q - _ : Nat) : Int); omega⟩⟩⟩
   ·have hd2 : decide ((i : Int) < (j.l.length : Int)) = false := decide_eq_false (by omega)
    rw [List.drop_of_length_le (by omega), show firstP q [] = none from by unfold firstP; rfl]
    simp -implicitDefEqProofs only [rX,↓rY,ofConst,cells?,splice,↓reduceIte,Nat.reduceEqDiff,Nat.reduceAdd,buildP,isC,yC,yA,hd2]
    intro _
    refine ret_data ?_
    simp -implicitDefEqProofs only [rX,↓rY,↓reduceIte,Nat.reduceEqDiff,Nat.reduceAdd,resP,tupV,wfV,wfL,yB,yA]
    simp [Gv, tupV, gvV, gvL, wk, wkL, wkR, wfV, wfL, encF, Fet.enc]
end Go.Fx.J
namespace Go.Fx.J
open Go Go.Fx Go.Proofs Go.Fx.R
set_option maxRecDepth 20000
set_option maxHeartbeats 1000000
def Rq.enc (r : Rq) : List V := [u8 r.key, spans r.need]
abbrev rqs (l : List Rq) : V := .ro 2 (l.map Rq.enc)
def encO (o : Nat) : List V := [.v (.int .u16 o)]
theorem rq_0 {r : Rq} : r.enc[0]? = some (u8 r.key) := rfl
theorem rq_1 {r : Rq} : r.enc[1]? = some (.ro 2 (r.need.map enS)) := rfl
theorem eo_0 {o : Nat} : (encO o)[0]? = some (.v (.int .u16 o)) := rfl
theorem lens_ge {l : List Fet} (h : ∀ f ∈ l, f.sp.1 < f.sp.2) : (l.length : Int) ≤ lens l := by
 induction l with
 | nil => simp [lens]
 | cons f l ih =>
  have := ih fun g hg => h g (yY _ hg)
  have := h f yU
  unfold lens at *
  rw [yH, uA, uB]
  omega
theorem fl_cap {last : Int} {m : Mis} (h : MIn last m) : m.fl.length ≤ 1099511627776 := by
 have h1 := lens_ge fun f hf => (h.f f hf).1.2.1
 have h2 := (lenF_le h m.fl.length).2
 rw [vW] at h2
 have h3 : lens m.fl = lenF m.fl := rfl
 omega
theorem nF_cnt {j : Jns} (h : JOk j) (hk : Kys j) : cntF j.l = nF j := rows_sum h hk (fun m => m.fl.length) fun _ => rfl
theorem nm_get {n : Nat} (hn : n < 3) : ∃ h : 0 < (nm n).length, (nm n)[0].toNat = 97 + n := by
 rcases three hn with rfl | rfl | rfl <;> exact ⟨by decide, by decide⟩
abbrev cells (c : Nat → List Sp) : List V := [spans (c 0), spans (c 1), spans (c 2)]
theorem cells_get {c : Nat → List Sp} {n : Nat} (hn : n < 3) : (cells c)[n]? = some (spans (c n)) := by
 rcases three hn with rfl | rfl | rfl <;> rfl
theorem cells_put {c : Nat → List Sp} {n : Nat} {s : Sp} (hn : n < 3) : yG n (cells c) ++ [spans (addS (c n) s)] ++ List.drop n [spans (c 1), spans (c 2)] = cells (upd c n s) := by
 rcases three hn with rfl | rfl | rfl <;> rfl
theorem encF_ren {g : Nat → Option Nat} {x : Option (S × Fet)} : ren g (encF x) = encF x := by
 rcases x with _ | ⟨k, f⟩ <;> rfl
theorem ok27 (l : List Rq) (order : List Nat) (j : Jns) (hl : l.length ≤ 20) (hlk : ∀ r ∈ l, r.ok ∧ r.key < 256) (ho : ∀ o ∈ order, o < 65536) (hI : ArrI l (fun _ => []) [] j) :
  Ok 27 [.agg j.enc, rqs l, .ro 1 (order.map encO)] (Is (.b true)) := by
 refine ok_of lw27 (by simp) ?_
 unfold c27
 have hlo : ∀ r ∈ l, r.ok := fun r hr => (hlk r hr).1
 have hcap0 : nF j ≤ 3298534883328 := by
  have h0 := fl_cap (row_min hI.jok 0)
  have h1 := fl_cap (row_min hI.jok 1)
  have h2 := fl_cap (row_min hI.jok 2)
  unfold nF; omega
 simp -implicitDefEqProofs only [rX,↓rY,ofConst,cells?,↓reduceIte,Nat.reduceAdd,freshP,cxN,yA,args0]
 refine loopP_ghost (.virt 1 2 (by decide) (.nilB 1 [.nil, .nil, .nil] [.sl 2 0 0, .sl 2 0 0, .sl 2 0 0] rfl ⟨rfl, fun i a b h1 h2 => ?_⟩ (.give (fun k => k == 2) (by simp) (.virt 1 1 (by decide) (.nilE 8 3 rfl (.refl _)))))) (fun g : Nat × (Nat → List Sp) × List Int × Jns => ⟨[(9, .i g.1), (8, .sl 3 0 g.2.2.1.length), (7, .ptr 1 0 0), (3, .ptr 0 0 0), (1, rqs l), (2, .ro 1 (order.map encO))], [.var g.2.2.2.enc, .var [spans (g.2.1 0), spans (g.2.1 1), spans (g.2.1 2)], .dead, .arr 1 (g.2.2.1.map encI)], 2⟩)
  (fun g => ArrI l g.2.1 g.2.2.1 g.2.2.2 ∧ g.1 + nF g.2.2.2 = nF j) (fun g => nF g.2.2.2) (0, fun _ => [], [], j) ⟨hI, by simp⟩ ?_ ?_
 ·match i with
  | 0 => simp at h1 h2; subst h1 h2; exact .inr ⟨rfl, _, rfl⟩
  | 1 => simp at h1 h2; subst h1 h2; exact .inr ⟨rfl, _, rfl⟩
  | 2 => simp at h1 h2; subst h1 h2; exact .inr ⟨rfl, _, rfl⟩
  | i + 3 => simp at h1
 ·simp [St.give, gvE, gvV, gvH, gvB, gvL, blk]
  simp -implicitDefEqProofs only [rX,↓reduceIte,Nat.reduceEqDiff,reduceCtorEq,leE,leH,leB,leV,leVs,keepP,liveP,wfE,wfB,wfV,wfL,yA]
  rfl
 rintro ⟨k, c, ans, j'⟩ ⟨hA, hkn⟩
 simp only at hA hkn
 unfold c27l0
 have hJ := hA.jok
 have hlen := kys_len hJ hA.kys
 have hfl : ∀ m ∈ j'.l, m.fl.length ≤ 1099511627776 := fun m hm => fl_cap (hJ.m m hm).toMIn
 have hansl : ans.length ≤ l.length := by have := hA.cnt; omega
 simp only
 by_cases hor : order = []
 ·have hd0 : decide ((0 : Int) < (order.length : Int)) = false := by rw [hor]; rfl
  obtain ⟨p, hp0⟩ : ∃ p : Nat, p = 0 := ⟨_, rfl⟩
  have hpi : V.v (.int .i64 0) = .i (p : Int) := by rw [hp0]; rfl
  have hp : p ≤ 65535 := by omega
  simp -implicitDefEqProofs only [rX,↓rY,ofConst,↓reduceIte,Nat.reduceEqDiff,Nat.reduceAdd,yB,yA,hd0]
  rw [hpi]
  intro _
  refine call_is (ok68 j' p (by omega) hJ.n hfl) (by simp [lendsOk, lendOk, lends, lend, wkL, wk, wkR, wkB]) encF_ren trivial ?_
  cases hF : firstR j'.l p with
  | none =>
   have hc0 : nF j' = 0 := by
    rw [← nF_cnt hJ hA.kys]
    unfold firstR at hF
    split at hF
    ·assumption
    ·rename_i hc
     exact absurd hF (first_some (vT _ (by omega)))
   obtain ⟨hd1, hd2⟩ := hA.done hc0
   have hb1 : ((j'.l.length : Int) == 0) = true := by rw [hd1]; rfl
   have hb2 : ((ans.length : Int) == (l.length : Int)) = true := by rw [hd2]; simp
   simp -implicitDefEqProofs only [rX,↓rY,ofConst,cells?,splice,↓reduceIte,Nat.reduceEqDiff,Nat.reduceAdd,reduceCtorEq,freshP,resP,tupV,wfV,ft_len,ft_C,yA,encF,hb1,hb2]
   intros
   trivial
  | some q =>
   obtain ⟨key, f⟩ := q
   obtain ⟨m, hm, hmk, hfm⟩ : ∃ m ∈ j'.l, m.key = key ∧ f ∈ m.fl := by
    unfold firstR at hF
    split at hF
    ·cases hF
    ·exact first_mem hF
   obtain ⟨n, hn, hkn'⟩ := hA.kys m hm
   have hrow := row_of hJ hm hkn'
   have hkey : key = nm n := by rw [← hmk]; exact hkn'
   subst hkey
   obtain ⟨⟨q1, q2⟩, q3, q4⟩ := hA.step hlo hn (by rw [hrow]; exact hm) (by rw [hrow]; exact hfm)
   have hfs := ((hJ.m m hm).f f hfm).1
   simp -implicitDefEqProofs only [rX,↓rY,ofConst,cells?,splice,↓reduceIte,Nat.reduceEqDiff,Nat.reduceAdd,freshP,litsP,Nat.reduceLT,enS_len,enS_D,ft_len,ft_d1,ft_0,ft_C,yC,yB,yA,encF]
   have h18 := okN_mv (xs := [.agg j'.enc, sv (nm n), .i f.id, .sl 0 0 1]) (h0 := [.arr 2 [enS f.sp]]) (ok18 j' (nm n) f.id [f.sp] hJ hfl) (by simp [gvL, gvV, wkL, wk, wkR, blk])
   refine call_isMA [5] [0] [5] [.agg j'.enc, sv (nm n), .i f.id, .sl 0 0 1] (.tup [.agg (comeP j' (nm n) f.id [f.sp]).1.1.enc, ints (comeP j' (nm n) f.id [f.sp]).1.2.1, fets (comeP j' (nm n) f.id [f.sp]).1.2.2, .i (comeP j' (nm n) f.id [f.sp]).2]) (.tup [.agg (comeP j' (nm n) f.id [f.sp]).1.1.enc, ints (comeP j' (nm n) f.id [f.sp]).1.2.1, fets (comeP j' (nm n) f.id [f.sp]).1.2.2, .i (comeP j' (nm n) f.id [f.sp]).2]) [.arr 2 [enS f.sp]] [.dead] [.var j'.enc, .var (cells c), .dead, .arr 1 (ans.map encI), .var f.enc, .dead, .dead] _ h18 (by simp) (by simp) (by simp [blk, renB]) (by simp [lendsOk, lendOk, lends, lend, wkL, wk, wkR, pos]) rfl rfl rfl trivial ?_
   generalize comeP j' (nm n) f.id [f.sp] = r at *
   obtain ⟨⟨J, D, nF0⟩, e0⟩ := r
   simp only at q1 q2 q3 q4
   subst q1 q2
   obtain ⟨hn0, hn1⟩ := nm_get hn
   have hb1 : decide ((0 : Int) < ((0 : Nat) : Int)) = false := rfl
   have hx0 : (nm n)[vE 0]? = some (nm n)[0] := yM hn0
   have hx1 : (((nm n)[0].toNat : Nat) : Int) - 97 = (n : Int) := by omega
   simp -implicitDefEqProofs only [rX,↓rY,rdK,ofConst,cells?,splice,↓reduceIte,Nat.reduceEqDiff,Nat.reduceAdd,reduceCtorEq,freshP,resP,tupV,wfV,killE,kill,kills,St.kill,isC,enS_kill,sb_get,ft_len,ft_d1,ft_k,yC,yB,yA,bne_self_eq_false,hb1,hx0,hx1,yZ,cells_get hn]
   have hcl := (hA.cv n hn).len
   refine fun _ => ⟨by omega, by simp only [lo, Fx.hi]; omega, by simp only [lo, Fx.hi]; omega, ⟨by omega, by omega⟩, ?_⟩
   refine call_is (ok24 (c n) f.sp (by omega)) (by simp [lendsOk, lendOk, lends, lend, wkL, wk, wkR, wkB, enS]) rfl trivial ?_
   have hcl2 : (cells c).length = 3 := rfl
   have hDl : (ans ++ D).length ≤ l.length := by have := q3.cnt; omega
   rw [yJ] at hDl
   have hta : yG ans.length (ans.map encI) = ans.map encI := yE (by simp)
   simp -implicitDefEqProofs only [rX,↓rY,ofConst,cells?,splice,↓reduceIte,Nat.reduceEqDiff,Nat.reduceAdd,reduceCtorEq,killE,killB,kill,kills,St.kill,isC,Nat.reduceLeDiff,enS_kill,ft_k,yC,yA,yZ,hcl2,hta]
   refine ⟨⟨by omega, by omega⟩, by omega, .inr trivial, by omega, ?_⟩
   rw [← yQ, ← yJ]
   have hDl2 : (ans ++ D).length ≤ l.length := by rw [yJ]; exact hDl
   generalize ans ++ D = A at *
   have hta : yG A.length (A.map encI) = A.map encI := yE (by simp)
   have hput := cells_put (c := c) (s := f.sp) hn
   generalize upd c n f.sp = c' at *
   refine loopP_intro (fun i : Nat => ⟨[(19, .i i), (18, .i n), (9, .i k), (8, .sl 3 0 A.length), (7, .ptr 1 0 0), (3, .ptr 0 0 0), (1, rqs l), (2, .ro 1 (order.map encO))], [.var J.enc, .var (cells c'), .dead, .arr 1 (A.map encI)], 8⟩) (fun i => i ≤ l.length) (fun i => l.length - i) 0 (by omega) ?_ ?_
   ·simp -implicitDefEqProofs only [rX,↓reduceIte,Nat.reduceEqDiff,leE,leH,leB,leV,leVs,keepP,liveP,wfE,wfB,wfV,wfL,yA,yT]
    rw [hput]
    exact ⟨rfl, rfl, rfl, trivial⟩
   rintro i hi0
   unfold c27l1
   rcases yN i l.length with hi' | hi'
   ·have hd : decide ((i : Int) < (l.length : Int)) = true := decide_eq_true (by omega)
    have hii : (0 : Int) ≤ i ∧ (i : Int) < l.length := ⟨by omega, by omega⟩
    obtain ⟨hr, hrk⟩ := hlk _ (yD hi')
    have hmd : ((l[i].key : Nat) : Int).tmod 3 = (l[i].n : Int) := by rw [vL (by omega)]; rfl
    have hr3 := l[i].lt
    cases hE : ((l[i].n : Int) == (n : Int)) with
    | false =>
     simp -implicitDefEqProofs only [rX,↓rY,ofConst,↓reduceIte,Nat.reduceEqDiff,Nat.reduceAdd,leE,leH,leB,leV,leVs,keepP,liveP,wfE,wfB,wfV,wfL,yA,hd,rq_0,hmd,hE]
     exact fun _ => ⟨hii, hi', by omega, by simp only [lo, Fx.hi]; omega, by simp only [lo, Fx.hi]; omega, i + 1, ⟨hi', by omega⟩, by omega⟩
    | true =>
     have hin : l[i].n = n := by have := eq_of_beq hE; omega
     have han := q3.an i
     simp -implicitDefEqProofs only [rX,↓rY,ofConst,↓reduceIte,Nat.reduceEqDiff,Nat.reduceAdd,leE,leH,leB,leV,leVs,keepP,liveP,wfE,wfB,wfV,wfL,yA,hd,rq_0,rq_1,hmd,hE,yZ,cells_get hn]
     refine fun _ => ⟨hii, hi', by omega, by simp only [lo, Fx.hi]; omega, hii, hi', ⟨by omega, by omega⟩, ?_⟩
     refine call_is (ok48 l[i].need (c' n) (vs_vd.1 hr.1)) (by simp [lendsOk, lendOk, lends, lend, wkL, wk, wkR, wkB]) rfl trivial ?_
     simp -implicitDefEqProofs only [rX,↓rY,ofConst,↓reduceIte,Nat.reduceEqDiff,Nat.reduceAdd,yA]
     refine fun _ => ?_
     refine call_is (ok69 A i) (by simp [lendsOk, lendOk, lends, lend, wkL, wk, wkR, wkB, blk, hta]) rfl trivial ?_
     have hdec : decide ((i : Int) ∈ A) = !decide ((0 : Int) < ((minusS l[i].need (c' n)).length : Int)) := by
      rw [Bool.eq_iff_iff, Bool.not_eq_true', decide_eq_true_eq, decide_eq_false_iff_not, han]
      constructor
      ·rintro ⟨_, e⟩
       rw [hin] at e
       rw [e]; simp
      ·intro e
       refine ⟨hi', ?_⟩
       rw [hin]
       exact vK.1 (by omega)
     rw [hdec]
     cases hz : decide ((0 : Int) < ((minusS l[i].need (c' n)).length : Int)) with
     | true =>
      simp -implicitDefEqProofs only [rX,↓rY,ofConst,↓reduceIte,Nat.reduceEqDiff,Nat.reduceAdd,resP,tupV,leE,leH,leB,leV,leVs,keepP,liveP,wfE,wfB,wfV,wfL,yA]
      simp only [br]
      refine ⟨fun h => (by simp at h), fun _ => ⟨by simp only [lo, Fx.hi]; omega, i + 1, ⟨hi', by omega⟩, by omega⟩⟩
     | false =>
      simp -implicitDefEqProofs only [rX,↓rY,ofConst,↓reduceIte,Nat.reduceEqDiff,Nat.reduceAdd,resP,tupV,leE,leH,leB,leV,leVs,keepP,liveP,wfE,wfB,wfV,wfL,yA]
      simp only [br]
      refine ⟨fun h => (by simp at h), fun _ => ⟨by simp only [lo, Fx.hi]; omega, i + 1, ⟨hi', by omega⟩, by omega⟩⟩
   ·have hd : decide ((i : Int) < (l.length : Int)) = false := decide_eq_false (by omega)
    simp -implicitDefEqProofs only [rX,↓rY,ofConst,↓reduceIte,Nat.reduceEqDiff,Nat.reduceAdd,leE,leH,leB,leV,leVs,keepP,liveP,wfE,wfB,wfV,wfL,yA,hd]
    refine fun _ => ⟨by simp only [lo, Fx.hi]; omega, (k + 1, c', A, J), ⟨⟨q3, by show k + 1 + nF J = _; omega⟩, by show nF J < _; omega⟩, ⟨by show ((k : Int) + 1 = ((k + 1 : Nat) : Int)); omega, rfl⟩, ⟨rfl, rfl⟩, ⟨rfl, rfl, rfl⟩, rfl⟩
 ·have hol : 0 < order.length := List.length_pos_iff.2 hor
  have hd0 : decide ((0 : Int) < (order.length : Int)) = true := decide_eq_true (by omega)
  simp -implicitDefEqProofs only [rX,↓rY,ofConst,↓reduceIte,Nat.reduceEqDiff,Nat.reduceAdd,yB,yA,hd0]
  have hmd : (k : Int).tmod (order.length : Int) = ((k % order.length : Nat) : Int) := by rw [vL (by omega)]; rfl
  have hml : k % order.length < order.length := vT _ hol
  rw [hmd]
  generalize k % order.length = i at *
  have hoi := ho _ (yD hml)
  obtain ⟨p, hpe⟩ : ∃ p, order[i] = p := ⟨_, rfl⟩
  rw [hpe] at hoi
  have hp : p ≤ 65535 := by omega
  intro _ _
  refine ⟨by omega, ⟨by omega, by omega⟩, hml, ?_⟩
  simp -implicitDefEqProofs only [rX,hpe]
  simp -implicitDefEqProofs only [rX,↓rY,eo_0]
  refine ⟨by simp only [lo, Fx.hi]; omega, ?_⟩
  refine call_is (ok68 j' p (by omega) hJ.n hfl) (by simp [lendsOk, lendOk, lends, lend, wkL, wk, wkR, wkB]) encF_ren trivial ?_
  cases hF : firstR j'.l p with
  | none =>
   have hc0 : nF j' = 0 := by
    rw [← nF_cnt hJ hA.kys]
    unfold firstR at hF
    split at hF
    ·assumption
    ·rename_i hc
     exact absurd hF (first_some (vT _ (by omega)))
   obtain ⟨hd1, hd2⟩ := hA.done hc0
   have hb1 : ((j'.l.length : Int) == 0) = true := by rw [hd1]; rfl
   have hb2 : ((ans.length : Int) == (l.length : Int)) = true := by rw [hd2]; simp
   simp -implicitDefEqProofs only [rX,↓rY,ofConst,cells?,splice,↓reduceIte,Nat.reduceEqDiff,Nat.reduceAdd,reduceCtorEq,freshP,resP,tupV,wfV,ft_len,ft_C,yA,encF,hb1,hb2]
   intros
   trivial
  | some q =>
   obtain ⟨key, f⟩ := q
   obtain ⟨m, hm, hmk, hfm⟩ : ∃ m ∈ j'.l, m.key = key ∧ f ∈ m.fl := by
    unfold firstR at hF
    split at hF
    ·cases hF
    ·exact first_mem hF
   obtain ⟨n, hn, hkn'⟩ := hA.kys m hm
   have hrow := row_of hJ hm hkn'
   have hkey : key = nm n := by rw [← hmk]; exact hkn'
   subst hkey
   obtain ⟨⟨q1, q2⟩, q3, q4⟩ := hA.step hlo hn (by rw [hrow]; exact hm) (by rw [hrow]; exact hfm)
   have hfs := ((hJ.m m hm).f f hfm).1
   simp -implicitDefEqProofs only [rX,↓rY,ofConst,cells?,splice,↓reduceIte,Nat.reduceEqDiff,Nat.reduceAdd,freshP,litsP,Nat.reduceLT,enS_len,enS_D,ft_len,ft_d1,ft_0,ft_C,yC,yB,yA,encF]
   have h18 := okN_mv (xs := [.agg j'.enc, sv (nm n), .i f.id, .sl 0 0 1]) (h0 := [.arr 2 [enS f.sp]]) (ok18 j' (nm n) f.id [f.sp] hJ hfl) (by simp [gvL, gvV, wkL, wk, wkR, blk])
   refine call_isMA [5] [0] [5] [.agg j'.enc, sv (nm n), .i f.id, .sl 0 0 1] (.tup [.agg (comeP j' (nm n) f.id [f.sp]).1.1.enc, ints (comeP j' (nm n) f.id [f.sp]).1.2.1, fets (comeP j' (nm n) f.id [f.sp]).1.2.2, .i (comeP j' (nm n) f.id [f.sp]).2]) (.tup [.agg (comeP j' (nm n) f.id [f.sp]).1.1.enc, ints (comeP j' (nm n) f.id [f.sp]).1.2.1, fets (comeP j' (nm n) f.id [f.sp]).1.2.2, .i (comeP j' (nm n) f.id [f.sp]).2]) [.arr 2 [enS f.sp]] [.dead] [.var j'.enc, .var (cells c), .dead, .arr 1 (ans.map encI), .var f.enc, .dead, .dead] _ h18 (by simp) (by simp) (by simp [blk, renB]) (by simp [lendsOk, lendOk, lends, lend, wkL, wk, wkR, pos]) rfl rfl rfl trivial ?_
   generalize comeP j' (nm n) f.id [f.sp] = r at *
   obtain ⟨⟨J, D, nF0⟩, e0⟩ := r
   simp only at q1 q2 q3 q4
   subst q1 q2
   obtain ⟨hn0, hn1⟩ := nm_get hn
   have hb1 : decide ((0 : Int) < ((0 : Nat) : Int)) = false := rfl
   have hx0 : (nm n)[vE 0]? = some (nm n)[0] := yM hn0
   have hx1 : (((nm n)[0].toNat : Nat) : Int) - 97 = (n : Int) := by omega
   simp -implicitDefEqProofs only [rX,↓rY,rdK,ofConst,cells?,splice,↓reduceIte,Nat.reduceEqDiff,Nat.reduceAdd,reduceCtorEq,freshP,resP,tupV,wfV,killE,kill,kills,St.kill,isC,enS_kill,sb_get,ft_len,ft_d1,ft_k,yC,yB,yA,bne_self_eq_false,hb1,hx0,hx1,yZ,cells_get hn]
   have hcl := (hA.cv n hn).len
   refine fun _ => ⟨by omega, by simp only [lo, Fx.hi]; omega, by simp only [lo, Fx.hi]; omega, ⟨by omega, by omega⟩, ?_⟩
   refine call_is (ok24 (c n) f.sp (by omega)) (by simp [lendsOk, lendOk, lends, lend, wkL, wk, wkR, wkB, enS]) rfl trivial ?_
   have hcl2 : (cells c).length = 3 := rfl
   have hDl : (ans ++ D).length ≤ l.length := by have := q3.cnt; omega
   rw [yJ] at hDl
   have hta : yG ans.length (ans.map encI) = ans.map encI := yE (by simp)
   simp -implicitDefEqProofs only [rX,↓rY,ofConst,cells?,splice,↓reduceIte,Nat.reduceEqDiff,Nat.reduceAdd,reduceCtorEq,killE,killB,kill,kills,St.kill,isC,Nat.reduceLeDiff,enS_kill,ft_k,yC,yA,yZ,hcl2,hta]
   refine ⟨⟨by omega, by omega⟩, by omega, .inr trivial, by omega, ?_⟩
   rw [← yQ, ← yJ]
   have hDl2 : (ans ++ D).length ≤ l.length := by rw [yJ]; exact hDl
   generalize ans ++ D = A at *
   have hta : yG A.length (A.map encI) = A.map encI := yE (by simp)
   have hput := cells_put (c := c) (s := f.sp) hn
   generalize upd c n f.sp = c' at *
   refine loopP_intro (fun i : Nat => ⟨[(19, .i i), (18, .i n), (9, .i k), (8, .sl 3 0 A.length), (7, .ptr 1 0 0), (3, .ptr 0 0 0), (1, rqs l), (2, .ro 1 (order.map encO))], [.var J.enc, .var (cells c'), .dead, .arr 1 (A.map encI)], 8⟩) (fun i => i ≤ l.length) (fun i => l.length - i) 0 (by omega) ?_ ?_
   ·simp -implicitDefEqProofs only [rX,↓reduceIte,Nat.reduceEqDiff,leE,leH,leB,leV,leVs,keepP,liveP,wfE,wfB,wfV,wfL,yA,yT]
    rw [hput]
    exact ⟨rfl, rfl, rfl, trivial⟩
   rintro i hi0
   unfold c27l1
   rcases yN i l.length with hi' | hi'
   ·have hd : decide ((i : Int) < (l.length : Int)) = true := decide_eq_true (by omega)
    have hii : (0 : Int) ≤ i ∧ (i : Int) < l.length := ⟨by omega, by omega⟩
    obtain ⟨hr, hrk⟩ := hlk _ (yD hi')
    have hmd : ((l[i].key : Nat) : Int).tmod 3 = (l[i].n : Int) := by rw [vL (by omega)]; rfl
    have hr3 := l[i].lt
    cases hE : ((l[i].n : Int) == (n : Int)) with
    | false =>
     simp -implicitDefEqProofs only [rX,↓rY,ofConst,↓reduceIte,Nat.reduceEqDiff,Nat.reduceAdd,leE,leH,leB,leV,leVs,keepP,liveP,wfE,wfB,wfV,wfL,yA,hd,rq_0,hmd,hE]
     exact fun _ => ⟨hii, hi', by omega, by simp only [lo, Fx.hi]; omega, by simp only [lo, Fx.hi]; omega, i + 1, ⟨hi', by omega⟩, by omega⟩
    | true =>
     have hin : l[i].n = n := by have := eq_of_beq hE; omega
     have han := q3.an i
     simp -implicitDefEqProofs only [rX,↓rY,ofConst,↓reduceIte,Nat.reduceEqDiff,Nat.reduceAdd,leE,leH,leB,leV,leVs,keepP,liveP,wfE,wfB,wfV,wfL,yA,hd,rq_0,rq_1,hmd,hE,yZ,cells_get hn]
     refine fun _ => ⟨hii, hi', by omega, by simp only [lo, Fx.hi]; omega, hii, hi', ⟨by omega, by omega⟩, ?_⟩
     refine call_is (ok48 l[i].need (c' n) (vs_vd.1 hr.1)) (by simp [lendsOk, lendOk, lends, lend, wkL, wk, wkR, wkB]) rfl trivial ?_
     simp -implicitDefEqProofs only [rX,↓rY,ofConst,↓reduceIte,Nat.reduceEqDiff,Nat.reduceAdd,yA]
     refine fun _ => ?_
     refine call_is (ok69 A i) (by simp [lendsOk, lendOk, lends, lend, wkL, wk, wkR, wkB, blk, hta]) rfl trivial ?_
     have hdec : decide ((i : Int) ∈ A) = !decide ((0 : Int) < ((minusS l[i].need (c' n)).length : Int)) := by
      rw [Bool.eq_iff_iff, Bool.not_eq_true', decide_eq_true_eq, decide_eq_false_iff_not, han]
      constructor
      ·rintro ⟨_, e⟩
       rw [hin] at e
       rw [e]; simp
      ·intro e
       refine ⟨hi', ?_⟩
       rw [hin]
       exact vK.1 (by omega)
     rw [hdec]
     cases hz : decide ((0 : Int) < ((minusS l[i].need (c' n)).length : Int)) with
     | true =>
      simp -implicitDefEqProofs only [rX,↓rY,ofConst,↓reduceIte,Nat.reduceEqDiff,Nat.reduceAdd,resP,tupV,leE,leH,leB,leV,leVs,keepP,liveP,wfE,wfB,wfV,wfL,yA]
      simp only [br]
      refine ⟨fun h => (by simp at h), fun _ => ⟨by simp only [lo, Fx.hi]; omega, i + 1, ⟨hi', by omega⟩, by omega⟩⟩
     | false =>
      simp -implicitDefEqProofs only [rX,↓rY,ofConst,↓reduceIte,Nat.reduceEqDiff,Nat.reduceAdd,resP,tupV,leE,leH,leB,leV,leVs,keepP,liveP,wfE,wfB,wfV,wfL,yA]
      simp only [br]
      refine ⟨fun h => (by simp at h), fun _ => ⟨by simp only [lo, Fx.hi]; omega, i + 1, ⟨hi', by omega⟩, by omega⟩⟩
   ·have hd : decide ((i : Int) < (l.length : Int)) = false := decide_eq_false (by omega)
    simp -implicitDefEqProofs only [rX,↓rY,ofConst,↓reduceIte,Nat.reduceEqDiff,Nat.reduceAdd,leE,leH,leB,leV,leVs,keepP,liveP,wfE,wfB,wfV,wfL,yA,hd]
    refine fun _ => ⟨by simp only [lo, Fx.hi]; omega, (k + 1, c', A, J), ⟨⟨q3, by show k + 1 + nF J = _; omega⟩, by show nF J < _; omega⟩, ⟨by show ((k : Int) + 1 = ((k + 1 : Nat) : Int)); omega, rfl⟩, ⟨rfl, rfl⟩, ⟨rfl, rfl, rfl⟩, rfl⟩
set_option maxRecDepth 20000
def c5r : LCode :=
(.seq
 (.seq
 (.reg 0 [
 ⟨(some 72), .mov (.tmp 12), none⟩,
 ⟨(some 73), .bin .neq false (.tmp 72) (.const (.int .i64 0)), none⟩])
 (.cond (.tmp 73)
 (.seq
 (.reg 0 [
 ⟨(some 4), .mov (.const (.bool false)), none⟩])
 .ret)
 .skip))
 (.seq
 (.reg 0 [
 ⟨(some 74), .load (some 2) (.tmp 10), none⟩,
 ⟨none, .store 2 (.tmp 7) (.tmp 74), none⟩])
 (.seq
 (.seq
 (.reg 0 [
 ⟨(some 13), .mov (.const (.int .i64 0)), none⟩])
 (.block 2
 (.loop c5l1)))
 (.seq
 (.reg 0 [
 ⟨(some 14), .mov (.const (.int .i64 0)), none⟩])
 (.block 4
 (.loop c5l2))))))
def c5b : LCode :=
 .seq
 (.seq
 (.reg 0 [
 ⟨(some 21), .mov (.tmp 8), none⟩,
 ⟨(some 22), .mov (.tmp 0), none⟩,
 ⟨(some 23), .len (.tmp 22), none⟩,
 ⟨(some 24), .bin .lss false (.tmp 21) (.tmp 23), none⟩])
 (.cond (.tmp 24)
 .skip
 (.exit 0)))
 (.seq
 (.block 1
 (.seq
 (.reg 0 [
 ⟨(some 27), .mov (.tmp 0), none⟩,
 ⟨(some 28), .mov (.tmp 8), none⟩,
 ⟨(some 29), .idx 2 (.tmp 27) (.tmp 28), none⟩,
 ⟨(some 30), .fld 1 (.tmp 29), none⟩,
 ⟨(some 31), .load none (.tmp 30), none⟩,
 ⟨(some 32), .call 22 [(.tmp 31)], none⟩,
 ⟨(some 9), .mov (.tmp 32), none⟩])
 (.seq
 (.seq
 (.reg 0 [
 ⟨(some 33), .mov (.tmp 9), none⟩,
 ⟨(some 34), .not (.tmp 33), none⟩,
 ⟨(some 35), .mov (.tmp 34), none⟩,
 ⟨(some 36), .mov (.tmp 0), (some (35, false))⟩,
 ⟨(some 37), .mov (.tmp 8), (some (35, false))⟩,
 ⟨(some 38), .idx 2 (.tmp 36) (.tmp 37), (some (35, false))⟩,
 ⟨(some 39), .fld 1 (.tmp 38), (some (35, false))⟩,
 ⟨(some 40), .load none (.tmp 39), (some (35, false))⟩,
 ⟨(some 41), .len (.tmp 40), (some (35, false))⟩,
 ⟨(some 42), .bin .eql false (.tmp 41) (.const (.int .i64 0)), (some (35, false))⟩,
 ⟨(some 43), .pick (.tmp 35) (.const (.bool true)) (.tmp 42), none⟩,
 ⟨(some 44), .mov (.tmp 43), none⟩,
 ⟨(some 45), .mov (.tmp 0), (some (44, false))⟩,
 ⟨(some 46), .mov (.tmp 8), (some (44, false))⟩,
 ⟨(some 47), .idx 2 (.tmp 45) (.tmp 46), (some (44, false))⟩,
 ⟨(some 48), .fld 1 (.tmp 47), (some (44, false))⟩,
 ⟨(some 49), .load none (.tmp 48), (some (44, false))⟩,
 ⟨(some 50), .len (.tmp 49), (some (44, false))⟩,
 ⟨(some 51), .bin .gtr false (.tmp 50) (.const (.int .i64 6)), (some (44, false))⟩,
 ⟨(some 52), .pick (.tmp 44) (.const (.bool true)) (.tmp 51), none⟩])
 (.cond (.tmp 52)
 (.seq
 (.reg 0 [
 ⟨(some 53), .call 9 [], none⟩,
 ⟨(some 4), .mov (.tmp 53), none⟩])
 .ret)
 .skip))
 (.seq
 (.tree 1
 (.take 0 [13, 14, 15, 16, 17, 19, 20, 21] ⟨(some 55), .load (some 2) (.tmp 7), none⟩
 (.take 1 [3, 4, 5, 6, 13, 14, 15, 16, 17, 19, 20, 21] ⟨(some 56), .mov (.tmp 0), none⟩
 (.take 2 [3, 4, 5, 6, 13, 14, 15, 16, 17, 19, 20, 21] ⟨(some 57), .mov (.tmp 8), none⟩
 (.take 3 [4, 5, 6, 13, 14, 15, 16, 17, 19, 20, 21] ⟨(some 58), .idx 2 (.tmp 56) (.tmp 57), none⟩
 (.take 4 [5, 6, 13, 14, 15, 16, 17, 19, 20, 21] ⟨(some 59), .fld 0 (.tmp 58), none⟩
 (.take 5 [6, 13, 14, 15, 16, 17, 19, 20, 21] ⟨(some 60), .load none (.tmp 59), none⟩
 (.take 7 [13, 14, 15, 16, 17, 19, 20, 21] ⟨(some 62), .mov (.tmp 8), none⟩
 (.take 8 [10, 11, 12, 13, 14, 15, 16, 17, 19, 20, 21] ⟨(some 63), .mov (.tmp 0), none⟩
 (.take 9 [10, 11, 12, 13, 14, 15, 16, 17, 19, 20, 21] ⟨(some 64), .mov (.tmp 8), none⟩
 (.take 10 [11, 12, 13, 14, 15, 16, 17, 19, 20, 21] ⟨(some 65), .idx 2 (.tmp 63) (.tmp 64), none⟩
 (.take 11 [12, 13, 14, 15, 16, 17, 19, 20, 21] ⟨(some 66), .fld 1 (.tmp 65), none⟩
 (.take 12 [13, 14, 15, 16, 17, 19, 20, 21] ⟨(some 67), .load none (.tmp 66), none⟩
 (.alt 6 ⟨(some 61), .call 23 [(.tmp 60)], none⟩ true
 (.alt 13 ⟨(some 68), .call 10 [(.tmp 55), (.tmp 61), (.tmp 62), (.tmp 67)], none⟩ false
 (.take 14 [15, 16, 17, 19, 20, 21] ⟨(some 54), .mov (.tmp 68), none⟩
 (.take 15 [19, 20, 21] ⟨(some 69), .ext (.tmp 54) 0, none⟩
 (.take 16 [20, 21] ⟨(some 70), .ext (.tmp 54) 1, none⟩
 (.take 17 [21] ⟨(some 71), .ext (.tmp 54) 2, none⟩
 (.alt 18 ⟨(some 10), .alloc 0 (.agg #[.int .i64 0, .slice none 0 0]), none⟩ true
 (.alt 19 ⟨none, .store 2 (.tmp 10) (.tmp 69), none⟩ false
 (.take 20 [21] ⟨(some 11), .mov (.tmp 70), none⟩
 (.take 21 [] ⟨(some 12), .mov (.tmp 71), none⟩
 .done))
 .none)
 .none)))))
 (.alt 18 ⟨(some 10), .alloc 0 (.agg #[.int .i64 0, .slice none 0 0]), none⟩ true
 (.alt 13 ⟨(some 68), .call 10 [(.tmp 55), (.tmp 61), (.tmp 62), (.tmp 67)], none⟩ false
 (.take 14 [15, 16, 17, 19, 20, 21] ⟨(some 54), .mov (.tmp 68), none⟩
 (.take 15 [19, 20, 21] ⟨(some 69), .ext (.tmp 54) 0, none⟩
 (.take 16 [20, 21] ⟨(some 70), .ext (.tmp 54) 1, none⟩
 (.take 17 [21] ⟨(some 71), .ext (.tmp 54) 2, none⟩
 (.alt 19 ⟨none, .store 2 (.tmp 10) (.tmp 69), none⟩ false
 (.take 20 [21] ⟨(some 11), .mov (.tmp 70), none⟩
 (.take 21 [] ⟨(some 12), .mov (.tmp 71), none⟩
 .done))
 .none)))))
 .none)
 .none))
 (.alt 18 ⟨(some 10), .alloc 0 (.agg #[.int .i64 0, .slice none 0 0]), none⟩ true
 (.alt 6 ⟨(some 61), .call 23 [(.tmp 60)], none⟩ true
 (.alt 13 ⟨(some 68), .call 10 [(.tmp 55), (.tmp 61), (.tmp 62), (.tmp 67)], none⟩ false
 (.take 14 [15, 16, 17, 19, 20, 21] ⟨(some 54), .mov (.tmp 68), none⟩
 (.take 15 [19, 20, 21] ⟨(some 69), .ext (.tmp 54) 0, none⟩
 (.take 16 [20, 21] ⟨(some 70), .ext (.tmp 54) 1, none⟩
 (.take 17 [21] ⟨(some 71), .ext (.tmp 54) 2, none⟩
 (.alt 19 ⟨none, .store 2 (.tmp 10) (.tmp 69), none⟩ false
 (.take 20 [21] ⟨(some 11), .mov (.tmp 70), none⟩
 (.take 21 [] ⟨(some 12), .mov (.tmp 71), none⟩
 .done))
 .none)))))
 .none)
 .none)
 .none)))))))))))))))
 c5r))))
 (.reg 0 [
 ⟨(some 25), .mov (.tmp 8), none⟩,
 ⟨(some 26), .bin .add true (.tmp 25) (.const (.int .i64 1)), none⟩,
 ⟨(some 8), .mov (.tmp 26), none⟩]))
theorem c5_eq : c5l0 = c5b := rfl
end Go.Fx.J
namespace Go.Fx.J
open Go Go.Fx Go.Proofs Go.Fx.R
set_option maxRecDepth 20000
set_option maxHeartbeats 1000000
theorem aN_snoc {l : List Rq} {r : Rq} {n : Nat} : aN (l ++ [r]) n = if r.n = n then r.need.foldl addS (aN l n) else aN l n := by
 unfold aN
 rw [List.filter_append]
 by_cases h : r.n = n
 ·have hd : decide (r.n = n) = true := decide_eq_true h
  rw [if_pos h, uO, hd, if_pos rfl, List.filter_nil, yQ, List.flatten_append]
  unfold ofS bothS
  rw [List.foldl_append]
  simp
 ·have hd : decide (r.n = n) = false := decide_eq_false h
  rw [if_neg h, uO, hd, if_neg (by simp), List.filter_nil, uK]
def mid (c : Nat → List Sp) (n : Nat) (q : List Sp) : Nat → List Sp := fun n' => if n = n' then q.foldl addS (c n') else c n'
theorem mid_upd {c : Nat → List Sp} {n : Nat} {q : List Sp} {s : Sp} : upd (mid c n q) n s = mid c n (q ++ [s]) := by
 funext n'
 unfold upd mid
 by_cases h : n' = n
 ·subst h
  rw [if_pos rfl, if_pos rfl, if_pos rfl, List.foldl_append]; rfl
 ·rw [if_neg h, if_neg (fun e => h e.symm), if_neg (fun e => h e.symm)]
theorem mid_nil {c : Nat → List Sp} {n : Nat} : mid c n [] = c := by
 funext n'
 unfold mid
 split <;> rfl
theorem mid_aN {l : List Rq} {r : Rq} : mid (aN l) r.n r.need = aN (l ++ [r]) := by
 funext n'
 rw [aN_snoc]
 rfl
theorem foldl_vd {q : List Sp} (hq : ∀ s ∈ q, Bs s) : ∀ {a : List Sp}, Vd a → Vd (q.foldl addS a) := by
 induction q with
 | nil => intro a h; exact h
 | cons s q ih => intro a h; exact ih (fun t ht => hq t (yY _ ht)) (h.add (hq s yU))
theorem AskI.vd {l : List Rq} {j : Jns} (h : AskI l j) {n : Nat} (hn : n < 3) : Vd (aN l n) := by
 rw [← h.fly hn]
 exact vs_vd.1 (MIn.vfl (row_min h.jok n))
theorem lens_nn {l : List Fet} (h : ∀ f ∈ l, f.sp.1 < f.sp.2) : 0 ≤ lens l := by have := lens_ge h; omega
theorem lens_take {l : List Fet} (h : ∀ f ∈ l, f.sp.1 < f.sp.2) (i : Nat) : 0 ≤ lens (l.take i) ∧ lens (l.take i) ≤ lens l := by
 have h1 := lens_nn (l := l.take i) fun f hf => h f (vB hf)
 have h2 := lens_nn (l := l.drop i) fun f hf => h f (uD hf)
 have h3 : lens l = lens (l.take i) + lens (l.drop i) := by rw [← lens_app, vD]
 omega
theorem lens_step {l : List Fet} {n : Nat} (h : n < l.length) : lens (l.take (n + 1)) = lens (l.take n) + l[n].sp.2 - l[n].sp.1 := lenF_step h
theorem rest5 (l : List Rq) (order : List Nat) (r : Rq) (k : Nat) (c : Nat → List Sp) (j J : Jns) (F : List Fet) (T0 : Int) (hk' : k < l.length) (hr : l[k] = r) (hkey : r.key < 256) (hv : Vd r.need) (hn6 : r.need.length ≤ 6) (hc : ∀ n, n < 3 → Vd (c n))
  (hF : ∀ f ∈ F, 0 ≤ f.sp.1 ∧ f.sp.1 < f.sp.2 ∧ f.sp.2 ≤ 1099511627776) (hT : 0 ≤ T0 ∧ T0 + lens F ≤ 8796093022208) {e : Env}
  (g12 : get e 12 = .i 0) (g11 : get e 11 = fets F) (g10 : get e 10 = .ptr 2 0 0) (g8 : get e 8 = .i k) (g7 : get e 7 = .ptr 1 0 0) (g6 : get e 6 = .i T0) (g5 : get e 5 = .ptr 0 0 0) (g0 : get e 0 = rqs l) (g1 : get e 1 = .ro 1 (order.map encO))
  {N R : St → Prop} {X : Nat → St → Prop} (hN : ∀ e' b' h', get e' 8 = .i k → get e' 7 = .ptr 1 0 0 → get e' 6 = .i (T0 + lens F) → get e' 5 = .ptr 0 0 0 → get e' 0 = rqs l → get e' 1 = .ro 1 (order.map encO) → N ⟨e', .var (cells (mid c r.n r.need)) :: .var J.enc :: h', b'⟩) :
  aw (cxN Tryz.prog []) c5r N X R ⟨e, [.var (cells c), .var j.enc, .var J.enc], 2⟩ := by
 unfold c5r
 have hkk : (0 : Int) ≤ k ∧ (k : Int) < l.length := ⟨by omega, by omega⟩
 have hF2 : ∀ f ∈ F, f.sp.1 < f.sp.2 := fun f hf => (hF f hf).2.1
 simp -implicitDefEqProofs only [rX,↓rY,ofConst,cells?,splice,↓reduceIte,Nat.reduceEqDiff,Nat.reduceAdd,isC,cxN,yC,yB,yA,g12,g10,g7,bne_self_eq_false]
 refine loopP_intro (fun i : Nat => ⟨[(13, .i i), (11, fets F), (8, .i k), (7, .ptr 1 0 0), (6, .i (T0 + lens (F.take i))), (5, .ptr 0 0 0), (0, rqs l), (1, .ro 1 (order.map encO))], [.var (cells c), .var J.enc], 3⟩) (fun i => i ≤ F.length) (fun i => F.length - i) 0 (by omega) ?_ ?_
 ·simp -implicitDefEqProofs only [rX,↓reduceIte,Nat.reduceEqDiff,reduceCtorEq,leE,leH,leB,leV,leVs,keepP,liveP,wfE,wfB,wfV,wfL,yA,yT,g11,g8,g6,g5,g0,g1,g7]
  simp [lens]
 rintro i hi0
 unfold c5l1
 have hb := lens_take hF2 i
 have hFl := lens_ge hF2
 rcases yN i F.length with hi' | hi'
 ·have hd : decide ((i : Int) < (F.length : Int)) = true := decide_eq_true (by omega)
  have hii : (0 : Int) ≤ i ∧ (i : Int) < F.length := ⟨by omega, by omega⟩
  have hs := lens_step hi'
  have hb2 := lens_take hF2 (i + 1)
  have hf := hF _ (yD hi')
  simp -implicitDefEqProofs only [rX,↓rY,ofConst,↓reduceIte,Nat.reduceEqDiff,Nat.reduceAdd,reduceCtorEq,leE,leH,leB,leV,leVs,keepP,liveP,wfE,wfB,wfV,wfL,ft_1,ft_2,yA,hd]
  exact fun _ => ⟨hii, hi', by simp only [lo, Fx.hi]; omega, hii, hi', by simp only [lo, Fx.hi]; omega, by simp only [lo, Fx.hi]; omega, i + 1, ⟨hi', by omega⟩, by omega, by omega⟩
 ·have hd : decide ((i : Int) < (F.length : Int)) = false := decide_eq_false (by omega)
  rw [yE (by omega)]
  simp -implicitDefEqProofs only [rX,↓rY,ofConst,↓reduceIte,Nat.reduceEqDiff,Nat.reduceAdd,yA,hd]
  intro _
  refine loopP_intro (fun i : Nat => ⟨[(14, .i i), (8, .i k), (7, .ptr 1 0 0), (6, .i (T0 + lens F)), (5, .ptr 0 0 0), (0, rqs l), (1, .ro 1 (order.map encO))], [.var (cells (mid c r.n (r.need.take i))), .var J.enc], 3⟩) (fun i => i ≤ r.need.length) (fun i => r.need.length - i) 0 (by omega) ?_ ?_
  ·simp -implicitDefEqProofs only [rX,↓reduceIte,Nat.reduceEqDiff,reduceCtorEq,leE,leH,leB,leV,leVs,keepP,liveP,wfE,wfB,wfV,wfL,yT,mid_nil]
  rintro i hi0
  unfold c5l2
  rcases yN i r.need.length with hi' | hi'
  ·have hd : decide ((i : Int) < (r.need.length : Int)) = true := decide_eq_true (by omega)
   have hii : (0 : Int) ≤ i ∧ (i : Int) < r.need.length := ⟨by omega, by omega⟩
   have hsn : mid c r.n (r.need.take (i + 1)) = upd (mid c r.n (r.need.take i)) r.n r.need[i] := by rw [mid_upd, vJ hi']
   have hmv : Vd (mid c r.n (r.need.take i) r.n) := by
    unfold mid
    rw [if_pos rfl]
    exact foldl_vd (fun s hs => by have := hv.2 s (vB hs); exact this) (hc _ r.lt)
   have hml := hmv.len
   have hr3 := r.lt
   have hput := cells_put (c := mid c r.n (r.need.take i)) (s := r.need[i]) r.lt
   rw [← hsn] at hput
   have hget := cells_get (c := mid c r.n (r.need.take i)) r.lt
   generalize mid c r.n (r.need.take i) = c' at *
   have hmd : ((r.key : Nat) : Int).tmod 3 = (r.n : Int) := by rw [vL (by omega)]; rfl
   have hcl2 : (cells c').length = 3 := rfl
   simp -implicitDefEqProofs only [rX,↓rY,rdK,ofConst,↓reduceIte,Nat.reduceEqDiff,Nat.reduceAdd,reduceCtorEq,enS_len,enS_take,yA,hd,rq_0,rq_1,hr,hmd,yZ,hget]
   refine ⟨hkk, hk', fun _ => ⟨hkk, hk', by omega, hkk, hk', by omega, ⟨by omega, by omega⟩, hkk, hk', hii, hi', ?_⟩⟩
   refine call_is (ok24 (c' r.n) r.need[i] (by omega)) (by simp [lendsOk, lendOk, lends, lend, wkL, wk, wkR, wkB, enS]) rfl trivial ?_
   simp -implicitDefEqProofs only [rX,↓rY,ofConst,cells?,splice,↓reduceIte,Nat.reduceEqDiff,Nat.reduceAdd,reduceCtorEq,leE,leH,leB,leV,leVs,keepP,liveP,wfE,wfB,wfV,wfL,isC,Nat.reduceLeDiff,yC,yA,yZ,hcl2,hput]
   exact ⟨⟨by omega, by omega⟩, by omega, by simp only [lo, Fx.hi]; omega, i + 1, ⟨hi', by omega⟩, by omega, rfl, rfl, rfl⟩
  ·have hd : decide ((i : Int) < (r.need.length : Int)) = false := decide_eq_false (by omega)
   rw [yE (by omega)]
   simp -implicitDefEqProofs only [rX,↓rY,↓reduceIte,Nat.reduceEqDiff,Nat.reduceAdd,reduceCtorEq,yA,hd,rq_1,hr]
   exact ⟨hkk, hk', fun _ => hN _ _ _ rfl rfl rfl rfl rfl rfl⟩
theorem nWait_nat {l : List Mis} : nWait l = ((l.map fun m => m.wt.length).sum : Nat) := by
 unfold nWait
 induction l with
 | nil => rfl
 | cons m l ih => simp [ih]
theorem ok5 (l : List Rq) (order : List Nat) (hk : ∀ r ∈ l, r.key < 256) (ho : ∀ o ∈ order, o < 65536) :
  Ok 5 [rqs l, .ro 1 (order.map encO)] (Is (.b true)) := by
 refine ok_of lw5 (by simp) ?_
 unfold c5
 simp -implicitDefEqProofs only [rX,↓rY,ofConst,cells?,splice,↓reduceIte,Nat.reduceEqDiff,Nat.reduceAdd,reduceCtorEq,freshP,buildP,isC,cxN,yC,yA,args0]
 intro _
 cases h0 : decide ((20 : Int) < (l.length : Int)) with
 | true =>
  simp -implicitDefEqProofs only [↓rY]
  refine call_is ok9 (by simp [lendsOk, lends, wkL]) rfl trivial ?_
  simp -implicitDefEqProofs only [rX,↓reduceIte,resP,tupV,wfV]
 | false =>
  have h0' := of_decide_eq_false h0
  simp -implicitDefEqProofs only [↓rY]
  refine loopP_ghost (.virt 1 2 (by decide) (.nilB 0 [.nil, .nil, .nil] [.sl 2 0 0, .sl 2 0 0, .sl 2 0 0] rfl ⟨rfl, fun i a b h1 h2 => ?_⟩ (.virt 1 3 (by decide) (.nilB 1 [.i 0, .nil] [.i 0, .sl 3 0 0] rfl ⟨rfl, fun i a b h1 h2 => ?_⟩ (.give (fun k => k == 2 || k == 3) (by simp) (.refl _)))))) (fun g : Nat × Jns => ⟨[(8, .i g.1), (7, .ptr 1 0 0), (6, .i (sum3 fun n => tot (aN (l.take g.1) n))), (5, .ptr 0 0 0), (0, rqs l), (1, .ro 1 (order.map encO))], [.var (cells (aN (l.take g.1))), .var g.2.enc], 2⟩)
   (fun g => g.1 ≤ l.length ∧ AskI (l.take g.1) g.2 ∧ ∀ r ∈ l.take g.1, r.ok) (fun g => l.length - g.1) (0, ⟨0, []⟩) ⟨by simp, AskI.start, fun r hr => (by cases hr)⟩ ?_ ?_
  ·match i with
   | 0 => simp at h1 h2; subst h1 h2; exact .inr ⟨rfl, _, rfl⟩
   | 1 => simp at h1 h2; subst h1 h2; exact .inr ⟨rfl, _, rfl⟩
   | 2 => simp at h1 h2; subst h1 h2; exact .inr ⟨rfl, _, rfl⟩
   | i + 3 => simp at h1
  ·match i with
   | 0 => simp at h1 h2; subst h1 h2; exact .inl rfl
   | 1 => simp at h1 h2; subst h1 h2; exact .inr ⟨rfl, _, rfl⟩
   | i + 2 => simp at h1
  ·simp [St.give, gvE, gvV, gvH, gvB, gvL, blk]
   simp -implicitDefEqProofs only [rX,↓reduceIte,Nat.reduceEqDiff,reduceCtorEq,leE,leH,leB,leV,leVs,keepP,liveP,wfE,wfB,wfV,wfL,yA]
   exact ⟨rfl, ⟨rfl, rfl, rfl⟩, rfl⟩
  rintro ⟨k, j⟩ ⟨hk0, hA, hok⟩
  simp only at hk0 hA hok
  rw [c5_eq]
  unfold c5b
  simp only
  rcases yN k l.length with hk' | hk'
  ·have hd : decide ((k : Int) < (l.length : Int)) = true := decide_eq_true (by omega)
   have hkk : (0 : Int) ≤ k ∧ (k : Int) < l.length := ⟨by omega, by omega⟩
   have hsn : l.take (k + 1) = l.take k ++ [l[k]] := vJ hk'
   have hkl : (l.take k).length = k := uW hk0
   have hkey := hk _ (yD hk')
   obtain ⟨r, hr⟩ : ∃ r, l[k] = r := ⟨_, rfl⟩
   rw [hr] at hsn hkey
   simp -implicitDefEqProofs only [rX,↓rY,↓reduceIte,Nat.reduceEqDiff,Nat.reduceAdd,reduceCtorEq,yA,hd,rq_1]
   refine fun _ => ⟨hkk, hk', ?_⟩
   rw [hr]
   refine call_is (ok22 r.need) (by simp [lendsOk, lendOk, lends, lend, wkL, wk, wkR, wkB]) rfl trivial ?_
   cases h1 : vd r.need with
   | false =>
    simp -implicitDefEqProofs only [rX,↓rY,ofConst,↓reduceIte,Nat.reduceEqDiff,Nat.reduceAdd]
    refine call_is ok9 (by simp [lendsOk, lends, wkL]) rfl trivial ?_
    simp -implicitDefEqProofs only [rX,↓reduceIte,resP,tupV,wfV]
   | true =>
    cases h2 : ((r.need.length : Int) == 0) with
    | true =>
     simp -implicitDefEqProofs only [rX,↓rY,rdK,ofConst,cells?,↓reduceIte,Nat.reduceEqDiff,Nat.reduceAdd,reduceCtorEq,freshP,yB,yA,rq_1,hr,h2]
     refine ⟨hkk, hk', fun _ => ?_⟩
     refine call_is ok9 (by simp [lendsOk, lends, wkL]) rfl trivial ?_
     simp -implicitDefEqProofs only [rX,↓reduceIte,resP,tupV,wfV]
    | false =>
     cases h3 : decide ((6 : Int) < (r.need.length : Int)) with
     | true =>
      simp -implicitDefEqProofs only [rX,↓rY,rdK,ofConst,cells?,↓reduceIte,Nat.reduceEqDiff,Nat.reduceAdd,reduceCtorEq,freshP,yB,yA,rq_1,hr,h2,h3]
      refine ⟨hkk, hk', fun _ => ⟨hkk, hk', fun _ => ?_⟩⟩
      refine call_is ok9 (by simp [lendsOk, lends, wkL]) rfl trivial ?_
      simp -implicitDefEqProofs only [rX,↓reduceIte,resP,tupV,wfV]
     | false =>
      simp -implicitDefEqProofs only [rX,↓rY,rdK,ofConst,cells?,↓reduceIte,Nat.reduceEqDiff,Nat.reduceAdd,reduceCtorEq,freshP,yB,yA,rq_1,rq_0,hr,h2,h3]
      refine ⟨hkk, hk', fun _ => ⟨hkk, hk', fun _ => ⟨hkk, hk', hkk, hk', ?_⟩⟩⟩
      have hrok : r.ok := ⟨vs_vd.2 (vd_iff.1 h1), fun e => by rw [e] at h2; simp at h2⟩
      have h3' := of_decide_eq_false h3
      have hkl20 : k < 20 := by omega
      obtain ⟨s1, s2, s3, s4⟩ := hA.step hrok (by rw [hkl]; exact hkl20)
      rw [hkl] at s1 s2 s3 s4
      have hJ := hA.jok
      have hfl : ∀ m ∈ j.l, m.fl.length ≤ 1099511627776 := fun m hm => fl_cap (hJ.m m hm).toMIn
      have h10 := ok10 j (nm r.n) k r.need hJ hfl (by simp [nm]) (by omega)
      have h23 := ok23 r.key hkey
      rw [show r.key % 3 = r.n from rfl] at h23
      generalize askP j (nm r.n) k r.need = a at *
      obtain ⟨⟨J, F⟩, e0⟩ := a
      simp only at s1 s2 s3 s4 h10
      subst s1
      rw [← hsn] at s2 s3
      have hT0 : 0 ≤ sum3 fun n => tot (aN (l.take k) n) := by
       have a0 := (hA.vd (n := 0) (by omega)).tot
       have a1 := (hA.vd (n := 1) (by omega)).tot
       have a2 := (hA.vd (n := 2) (by omega)).tot
       simp only [sum3]; omega
      have hT1 : (sum3 fun n => tot (aN (l.take (k + 1)) n)) ≤ 8796093022208 := by
       have a0 := (s2.vd (n := 0) (by omega)).tot
       have a1 := (s2.vd (n := 1) (by omega)).tot
       have a2 := (s2.vd (n := 2) (by omega)).tot
       simp only [sum3]; omega
      have hrest := fun {e : Env} {N R : St → Prop} {X : Nat → St → Prop} => rest5 l order r k (aN (l.take k)) j J F (sum3 fun n => tot (aN (l.take k) n)) hk' hr hkey (vd_iff.1 h1) (by omega) (fun n hn => hA.vd hn) s4 ⟨hT0, by omega⟩ (e := e) (N := N) (R := R) (X := X)
      rw [mid_aN, ← hsn, ← s3] at hrest
      refine ⟨?_, ?_⟩
      ·refine call_is h23 (by simp [lendsOk, lendOk, lends, lend, wkL, wk, wkR, wkB]) rfl trivial ?_
       simp -implicitDefEqProofs only [rX,↓rY,ofConst,cells?,↓reduceIte,Nat.reduceEqDiff,freshP,yA]
       refine ⟨?_, ?_⟩
       ·refine call_is h10 (by simp [lendsOk, lendOk, lends, lend, wkL, wk, wkR, wkB]) rfl trivial ?_
        simp -implicitDefEqProofs only [rX,↓rY,ofConst,cells?,splice,↓reduceIte,Nat.reduceEqDiff,Nat.reduceAdd,freshP,isC,yC,yA]
        refine hrest rfl rfl rfl rfl rfl rfl rfl rfl rfl ?_
        intro e' b' h' g8 g7 g6 g5 g0 g1
        simp -implicitDefEqProofs only [rX,↓rY,ofConst,↓reduceIte,Nat.reduceEqDiff,reduceCtorEq,leE,leH,leB,leV,leVs,keepP,liveP,wfE,wfB,wfV,wfL,yA,g8]
        exact ⟨by simp only [lo, Fx.hi]; omega, (k + 1, J), ⟨⟨hk', s2, fun q hq => by rw [hsn] at hq; rcases yF.1 hq with hq | hq; exact hok q hq; rw [vU.1 hq]; exact hrok⟩, by show l.length - (k + 1) < _; omega⟩, ⟨by show (k : Int) + 1 = ((k + 1 : Nat) : Int); omega, g7, g6, g5, g0, g1⟩, ⟨rfl, rfl, rfl⟩, rfl, rfl⟩
       ·refine call_is h10 (by simp [lendsOk, lendOk, lends, lend, wkL, wk, wkR, wkB]) rfl trivial ?_
        simp -implicitDefEqProofs only [rX,↓rY,cells?,splice,↓reduceIte,Nat.reduceEqDiff,Nat.reduceAdd,isC,yC,yA]
        refine hrest rfl rfl rfl rfl rfl rfl rfl rfl rfl ?_
        intro e' b' h' g8 g7 g6 g5 g0 g1
        simp -implicitDefEqProofs only [rX,↓rY,ofConst,↓reduceIte,Nat.reduceEqDiff,reduceCtorEq,leE,leH,leB,leV,leVs,keepP,liveP,wfE,wfB,wfV,wfL,yA,g8]
        exact ⟨by simp only [lo, Fx.hi]; omega, (k + 1, J), ⟨⟨hk', s2, fun q hq => by rw [hsn] at hq; rcases yF.1 hq with hq | hq; exact hok q hq; rw [vU.1 hq]; exact hrok⟩, by show l.length - (k + 1) < _; omega⟩, ⟨by show (k : Int) + 1 = ((k + 1 : Nat) : Int); omega, g7, g6, g5, g0, g1⟩, ⟨rfl, rfl, rfl⟩, rfl, rfl⟩
      ·refine call_is h23 (by simp [lendsOk, lendOk, lends, lend, wkL, wk, wkR, wkB]) rfl trivial ?_
       simp -implicitDefEqProofs only [rX,↓reduceIte,Nat.reduceEqDiff]
       refine call_is h10 (by simp [lendsOk, lendOk, lends, lend, wkL, wk, wkR, wkB]) rfl trivial ?_
       simp -implicitDefEqProofs only [rX,↓rY,cells?,splice,↓reduceIte,Nat.reduceEqDiff,Nat.reduceAdd,isC,yC,yA]
       refine hrest rfl rfl rfl rfl rfl rfl rfl rfl rfl ?_
       intro e' b' h' g8 g7 g6 g5 g0 g1
       simp -implicitDefEqProofs only [rX,↓rY,ofConst,↓reduceIte,Nat.reduceEqDiff,reduceCtorEq,leE,leH,leB,leV,leVs,keepP,liveP,wfE,wfB,wfV,wfL,yA,g8]
       exact ⟨by simp only [lo, Fx.hi]; omega, (k + 1, J), ⟨⟨hk', s2, fun q hq => by rw [hsn] at hq; rcases yF.1 hq with hq | hq; exact hok q hq; rw [vU.1 hq]; exact hrok⟩, by show l.length - (k + 1) < _; omega⟩, ⟨by show (k : Int) + 1 = ((k + 1 : Nat) : Int); omega, g7, g6, g5, g0, g1⟩, ⟨rfl, rfl, rfl⟩, rfl, rfl⟩
  ·have hd : decide ((k : Int) < (l.length : Int)) = false := decide_eq_false (by omega)
   have hke : k = l.length := by omega
   subst hke
   rw [vW] at hA hok ⊢
   simp -implicitDefEqProofs only [rX,↓rY,rdK,ofConst,↓reduceIte,Nat.reduceEqDiff,Nat.reduceAdd,reduceCtorEq,yA,hd]
   have hc0 : ∀ c : Nat → List Sp, (cells c)[vE 0 * 1]? = some (spans (c 0)) := fun _ => rfl
   have hc1 : ∀ c : Nat → List Sp, (cells c)[vE 1 * 1]? = some (spans (c 1)) := fun _ => rfl
   have hc2 : ∀ c : Nat → List Sp, (cells c)[vE 2 * 1]? = some (spans (c 2)) := fun _ => rfl
   have v0 := hA.vd (n := 0) (by omega)
   have v1 := hA.vd (n := 1) (by omega)
   have v2 := hA.vd (n := 2) (by omega)
   have t0 := v0.tot
   have t1 := v1.tot
   have t2 := v2.tot
   have hs3 : (sum3 fun n => tot (aN l n)) = tot (aN l 0) + tot (aN l 1) + tot (aN l 2) := rfl
   rw [hs3]
   simp -implicitDefEqProofs only [hc0,hc1,hc2]
   simp -implicitDefEqProofs only [↓rY]
   refine fun _ => ⟨by omega, by omega, by omega, ?_⟩
   refine call_is (ok25 _ v0) (by simp [lendsOk, lendOk, lends, lend, wkL, wk, wkR, wkB]) rfl trivial ?_
   simp -implicitDefEqProofs only [rX,↓reduceIte,Nat.reduceEqDiff]
   refine call_is (ok25 _ v1) (by simp [lendsOk, lendOk, lends, lend, wkL, wk, wkR, wkB]) rfl trivial ?_
   simp -implicitDefEqProofs only [rX,↓rY,↓reduceIte,Nat.reduceEqDiff,yA]
   refine ⟨by simp only [lo, Fx.hi]; omega, ?_⟩
   refine call_is (ok25 _ v2) (by simp [lendsOk, lendOk, lends, lend, wkL, wk, wkR, wkB]) rfl trivial ?_
   simp -implicitDefEqProofs only [rX,↓rY,↓reduceIte,Nat.reduceEqDiff,Nat.reduceAdd,yB,yA,bne_self_eq_false]
   refine ⟨by simp only [lo, Fx.hi]; omega, ?_⟩
   have hlen := kys_len hA.jok hA.kys
   have hw : nWait j.l = l.length := by
    have h1 := rows_sum hA.jok hA.kys (fun m => m.wt.length) fun _ => rfl
    have h2 := hA.cnt
    rw [nWait_nat, h1]
    omega
   refine call_is (ok26 j (by omega) fun m hm => yO (hA.jok.m m hm).n (by omega)) (by simp [lendsOk, lendOk, lends, lend, wkL, wk, wkR, wkB]) rfl trivial ?_
   rw [hw]
   simp -implicitDefEqProofs only [rX,↓rY,↓reduceIte,Nat.reduceEqDiff,Nat.reduceAdd,reduceCtorEq,yA,bne_self_eq_false]
   refine fun _ => ?_
   refine call_is ok9 (by simp [lendsOk, lends, wkL]) rfl trivial ?_
   simp -implicitDefEqProofs only [rX,↓rY,↓reduceIte,Nat.reduceEqDiff,Nat.reduceAdd,reduceCtorEq,yB,yA]
   refine call_is (ok27 l order j (by omega) (fun r hr => ⟨hok r hr, hk r hr⟩) ho (ArrI.start hA hok)) (by simp [lendsOk, lendOk, lends, lend, wkL, wk, wkR, wkB]) rfl trivial ?_
   simp -implicitDefEqProofs only [rX,↓rY,↓reduceIte,Nat.reduceEqDiff,resP,tupV,wfV]
end Go.Fx.J
namespace Go.Fx.J
open Go Go.Fx Go.Proofs Go.Fx.R
abbrev tRq : Fx.T := .st [.int .u8, tSps]
theorem ex_mapQ {α β : Type} {g : α → β} {p : α → Prop} : ∀ {els : List β}, (∀ x ∈ els, ∃ a, x = g a ∧ p a) → ∃ l : List α, els = l.map g ∧ ∀ a ∈ l, p a
 | [], _ => ⟨[], rfl, fun _ h => (by cases h)⟩
 | x :: r, h => by
  obtain ⟨a, rfl, ha⟩ := h x yU
  obtain ⟨l, rfl, hl⟩ := ex_mapQ (els := r) fun y hy => h y (yY _ hy)
  refine ⟨a :: l, rfl, fun b hb => ?_⟩
  rcases yW.1 hb with rfl | hb
  ·exact ha
  ·exact hl b hb
theorem wf_rq {x : List V} (h : WfT tRq x) : ∃ r : Rq, x = r.enc ∧ r.key < 256 := by
 rw [WfT] at h
 obtain ⟨_, _, rfl, q0, h⟩ := wf_cons h
 obtain ⟨_, _, rfl, q1, h⟩ := wf_cons h
 rw [WfTs.eq_1] at h
 subst h
 obtain ⟨n0, rfl, a, b⟩ := wf_int q0
 obtain ⟨s, rfl⟩ := wf_sps q1
 simp only [lo, hi] at a b
 refine ⟨⟨n0.toNat, s⟩, ?_, by show n0.toNat < 256; omega⟩
 have : ((n0.toNat : Nat) : Int) = n0 := by omega
 simp [Rq.enc, this]
theorem wv_rqs {x : V} (h : WfV (.sl 2 tRq) x) : ∃ l : List Rq, x = rqs l ∧ ∀ r ∈ l, r.key < 256 := by
 have h : WfT (.sl 2 tRq) [x] := h
 rw [WfT] at h
 obtain ⟨els, hx, _, he⟩ := h
 obtain ⟨l, rfl, hl⟩ := ex_mapQ (g := Rq.enc) fun x hx => wf_rq (he x hx)
 exact ⟨l, by simpa using hx, hl⟩
theorem wv_ords {x : V} (h : WfV (.sl 1 (.int .u16)) x) : ∃ l : List Nat, x = .ro 1 (l.map encO) ∧ ∀ o ∈ l, o < 65536 := by
 have h : WfT (.sl 1 (.int .u16)) [x] := h
 rw [WfT] at h
 obtain ⟨els, hx, _, he⟩ := h
 obtain ⟨l, rfl, hl⟩ := ex_mapQ (g := encO) (p := fun o : Nat => o < 65536) (els := els) fun x hx => by
  obtain ⟨n, rfl, a, b⟩ := wf_int (he x hx)
  simp only [lo, hi] at a b
  refine ⟨n.toNat, ?_, by omega⟩
  have : ((n.toNat : Nat) : Int) = n := by omega
  simp [encO, this]
 exact ⟨l, by simpa using hx, hl⟩
theorem fn5 : ∀ xs, WfA [.sl 2 tRq, .sl 1 (.int .u16)] xs → Fn Tryz.prog 5 xs [] [] (fun r _ => r = .b true) := by
 intro xs h
 obtain ⟨x1, _, rfl, h1, x2, _, rfl, h2, h⟩ := h
 obtain rfl : _ = [] := h
 obtain ⟨l, rfl, hl⟩ := wv_rqs h1
 obtain ⟨o, rfl, ho⟩ := wv_ords h2
 exact fn_of (ok5 l o hl ho)
end Go.Fx.J
