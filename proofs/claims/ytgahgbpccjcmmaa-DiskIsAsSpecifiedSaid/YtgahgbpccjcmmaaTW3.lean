import Derived.Test.YtgahgbpccjcmmaaT23
import Derived.Test.YtgahgbpccjcmmaaDSan
import Derived.Test.YtgahgbpccjcmmaaFxRunSound
import Derived.Test.YtgahgbpccjcmmaaFxRun
set_option linter.unusedVariables false
set_option linter.unusedSimpArgs false
set_option linter.unusedSectionVars false
open List renaming replicate → yA, range' → yB, mem_range'_1 → yC, length_append → yD, map_append → yE, getElem?_append_right → yF, getD_eq_getElem?_getD → yG, length_replicate → yH, map_cons → yI, append_assoc → yJ, length_nil → yK, getElem?_cons_succ → yL, map_replicate → yO, length_cons → yQ, set_cons_succ → yR, cons_append → yS, take → yT, set_append_right → yU, nil_append → yW, append_nil → yX, mem_append → yY, getElem?_eq_none → vA, map_nil → vB, map_map → vC, map_congr_left → vD, not_mem_nil → vF, getElem?_append_left → vG, getElem?_replicate → vH, mem_map_of_mem → vI, take_append_of_le_length → vJ, filterMap_cons → vK, mem_cons_of_mem → vL, take_of_length_le → vM
open Nat renaming le_succ_of_le → yM, sub_self → yN, le_refl → yP, zero_le → yV, add_assoc → vE
open Bool renaming false_eq_true → yZ
namespace Go.Fx.D
open Go Go.Fx Go.Proofs
set_option maxRecDepth 20000
theorem san8 : Ok 8 [] (Is (.b true)) := san
theorem s8 {cx : Cx} {e : Env} {h : List Blk} {b : Nat} {K : V → St → Prop} : cx.C = C0 Try.prog → cx.fx = [] → K (.b true) ⟨e, h, b⟩ → callP cx 8 [] ⟨e, h, b⟩ K := by
 intro hc hf hk
 exact call_is (by rw [hc]; exact san8) (by simp [lendsOk, lends, wkL]) rfl (by rw [hf]; trivial) hk
structure Op where
 kind : Int
 a : Int
 b : Int
 deriving Inhabited
def Op.enc (x : Op) : List V := [.i x.kind, .i x.a, .i x.b]
theorem opn_len (x : Op) : x.enc.length = 3 := rfl
theorem opn_take (x : Op) : yT 3 x.enc = x.enc := rfl
theorem opn_0 (x : Op) : x.enc[0]? = some (.i x.kind) := rfl
theorem opn_1 (x : Op) : x.enc[1]? = some (.i x.a) := rfl
theorem opn_2 (x : Op) : x.enc[2]? = some (.i x.b) := rfl
theorem opn_isC (x : Op) : x.enc.all isC = true := rfl
theorem opn_kill {x : Op} {K : List Nat} : kills K x.enc = x.enc := rfl
set_option maxRecDepth 20000
theorem gn {T X : List Blk} {n j : Nat} (h : T.length = n) : (T ++ X)[n + j]? = X[j]? := by
 rw [yF (by omega)]; congr 1; omega
theorem gn0 {T X : List Blk} {n : Nat} (h : T.length = n) : (T ++ X)[n]? = X[0]? := gn (j := 0) h
theorem sn {T X : List Blk} {n j : Nat} {B : Blk} (h : T.length = n) : (T ++ X).set (n + j) B = T ++ X.set j B := by
 rw [yU _ _ (by omega)]; congr 2; omega
theorem sn0 {T X : List Blk} {n : Nat} {B : Blk} (h : T.length = n) : (T ++ X).set n B = T ++ X.set 0 B := sn (j := 0) h
def c10F : LCode :=
 (.seq
 (.tree 0
 (.take 0 [35, 36, 37] ⟨(some 127), .mov (.tmp 0), none⟩
 (.take 1 [36, 37] ⟨(some 128), .mov (.tmp 1), none⟩
 (.take 2 [3, 9, 10, 11, 12, 13, 14, 15, 16, 17, 18, 19, 20, 21, 22, 23, 24, 25, 26, 27, 28, 29, 30, 31, 32, 33, 34, 35, 36, 37] ⟨(some 129), .mov (.tmp 0), none⟩
 (.take 4 [5, 6, 7, 8, 9, 10, 11, 12, 13, 14, 15, 16, 17, 18, 19, 20, 21, 22, 23, 24, 25, 26, 27, 28, 29, 30, 31, 32, 33, 34, 35, 36, 37] ⟨(some 131), .mov (.tmp 1), none⟩
 (.take 5 [6, 7, 8, 9, 10, 11, 12, 13, 14, 15, 16, 17, 18, 19, 20, 21, 22, 23, 24, 25, 26, 27, 28, 29, 30, 31, 32, 33, 34, 35, 36, 37] ⟨(some 132), .nilc (.tmp 131), none⟩
 (.take 6 [7, 8, 9, 10, 11, 12, 13, 14, 15, 16, 17, 18, 19, 20, 21, 22, 23, 24, 25, 26, 27, 28, 29, 30, 31, 32, 33, 34, 35, 36, 37] ⟨(some 133), .fld 0 (.tmp 132), none⟩
 (.take 7 [8, 9, 10, 11, 12, 13, 14, 15, 16, 17, 18, 19, 20, 21, 22, 23, 24, 25, 26, 27, 28, 29, 30, 31, 32, 33, 34, 35, 36, 37] ⟨(some 134), .load none (.tmp 133), none⟩
 (.take 8 [9, 10, 11, 12, 13, 14, 15, 16, 17, 18, 19, 20, 21, 22, 23, 24, 25, 26, 27, 28, 29, 30, 31, 32, 33, 34, 35, 36, 37] ⟨(some 135), .len (.tmp 134), none⟩
 (.alt 3 ⟨(some 130), .call 15 [(.tmp 129)], none⟩ true
 (.take 9 [10, 11, 12, 13, 14, 15, 16, 17, 18, 19, 20, 21, 22, 23, 24, 25, 26, 27, 28, 29, 30, 31, 32, 33, 34, 35, 36, 37] ⟨(some 136), .bin .eql false (.tmp 130) (.tmp 135), none⟩
 (.take 10 [11, 12, 13, 14, 15, 16, 17, 18, 19, 20, 21, 22, 23, 24, 25, 26, 27, 28, 29, 30, 31, 32, 33, 34, 35, 36, 37] ⟨(some 137), .mov (.tmp 136), none⟩
 (.take 11 [12, 17, 18, 19, 20, 21, 22, 23, 24, 25, 26, 27, 28, 29, 30, 31, 32, 33, 34, 35, 36, 37] ⟨(some 138), .mov (.tmp 0), (some (137, true))⟩
 (.take 13 [14, 15, 16, 17, 18, 19, 20, 21, 22, 23, 24, 25, 26, 27, 28, 29, 30, 31, 32, 33, 34, 35, 36, 37] ⟨(some 140), .mov (.tmp 1), (some (137, true))⟩
 (.take 14 [15, 16, 17, 18, 19, 20, 21, 22, 23, 24, 25, 26, 27, 28, 29, 30, 31, 32, 33, 34, 35, 36, 37] ⟨(some 141), .nilc (.tmp 140), (some (137, true))⟩
 (.take 15 [16, 17, 18, 19, 20, 21, 22, 23, 24, 25, 26, 27, 28, 29, 30, 31, 32, 33, 34, 35, 36, 37] ⟨(some 142), .fld 1 (.tmp 141), (some (137, true))⟩
 (.take 16 [17, 18, 19, 20, 21, 22, 23, 24, 25, 26, 27, 28, 29, 30, 31, 32, 33, 34, 35, 36, 37] ⟨(some 143), .load none (.tmp 142), (some (137, true))⟩
 (.alt 12 ⟨(some 139), .call 17 [(.tmp 138)], (some (137, true))⟩ true
 (.take 17 [18, 19, 20, 21, 22, 23, 24, 25, 26, 27, 28, 29, 30, 31, 32, 33, 34, 35, 36, 37] ⟨(some 144), .bin .eql false (.tmp 139) (.tmp 143), (some (137, true))⟩
 (.take 18 [19, 20, 21, 22, 23, 24, 25, 26, 27, 28, 29, 30, 31, 32, 33, 34, 35, 36, 37] ⟨(some 145), .pick (.tmp 137) (.tmp 144) (.const (.bool false)), none⟩
 (.take 19 [20, 21, 22, 23, 24, 25, 26, 27, 28, 29, 30, 31, 32, 33, 34, 35, 36, 37] ⟨(some 146), .mov (.tmp 145), none⟩
 (.take 20 [21, 26, 27, 28, 29, 30, 31, 32, 33, 34, 35, 36, 37] ⟨(some 147), .mov (.tmp 0), (some (146, true))⟩
 (.take 22 [23, 24, 25, 26, 27, 28, 29, 30, 31, 32, 33, 34, 35, 36, 37] ⟨(some 149), .mov (.tmp 1), (some (146, true))⟩
 (.take 23 [24, 25, 26, 27, 28, 29, 30, 31, 32, 33, 34, 35, 36, 37] ⟨(some 150), .nilc (.tmp 149), (some (146, true))⟩
 (.take 24 [25, 26, 27, 28, 29, 30, 31, 32, 33, 34, 35, 36, 37] ⟨(some 151), .fld 3 (.tmp 150), (some (146, true))⟩
 (.take 25 [26, 27, 28, 29, 30, 31, 32, 33, 34, 35, 36, 37] ⟨(some 152), .load none (.tmp 151), (some (146, true))⟩
 (.alt 21 ⟨(some 148), .call 16 [(.tmp 147)], (some (146, true))⟩ true
 (.take 26 [27, 28, 29, 30, 31, 32, 33, 34, 35, 36, 37] ⟨(some 153), .eqb false (.tmp 148) (.tmp 152), (some (146, true))⟩
 (.take 27 [28, 29, 30, 31, 32, 33, 34, 35, 36, 37] ⟨(some 154), .pick (.tmp 146) (.tmp 153) (.const (.bool false)), none⟩
 (.take 28 [29, 30, 31, 32, 33, 34, 35, 36, 37] ⟨(some 155), .mov (.tmp 154), none⟩
 (.take 29 [30, 32, 33, 34, 35, 36, 37] ⟨(some 156), .mov (.tmp 0), (some (155, true))⟩
 (.take 31 [32, 33, 34, 35, 36, 37] ⟨(some 158), .mov (.tmp 1), (some (155, true))⟩
 (.alt 30 ⟨(some 157), .call 18 [(.tmp 156)], (some (155, true))⟩ false
 (.alt 32 ⟨(some 159), .call 33 [(.tmp 158)], (some (155, true))⟩ false
 (.alt 33 ⟨(some 160), .call 26 [(.tmp 157), (.tmp 159)], (some (155, true))⟩ false
 (.take 34 [37] ⟨(some 161), .pick (.tmp 155) (.tmp 160) (.const (.bool false)), none⟩
 (.take 35 [36, 37] ⟨(some 6), .mov (.tmp 127), none⟩
 (.take 36 [37] ⟨(some 7), .mov (.tmp 128), none⟩
 (.take 37 [] ⟨(some 8), .mov (.tmp 161), none⟩
 .done))))
 .none)
 .none)
 .none))))))
 .none)))))))))
 .none))))))))
 .none))))))))))
 .ret)
def c10P : LCode :=
 (.seq
 (.reg 1 [
 ⟨(some 5), .box 0 (.tmp 2), none⟩,
 ⟨(some 6), .mov (.const (.pointer none)), none⟩,
 ⟨(some 7), .mov (.const (.pointer none)), none⟩,
 ⟨(some 8), .mov (.const (.bool false)), none⟩])
 (.seq
 (.seq
 (.reg 0 [
 ⟨(some 12), .fld 0 (.tmp 5), none⟩,
 ⟨(some 13), .load none (.tmp 12), none⟩])
 (.block 0
 (.seq
 (.reg 0 [
 ⟨(some 15), .bin .eql false (.tmp 13) (.const (.int .i64 0)), none⟩,
 ⟨(some 14), .mov (.tmp 15), none⟩])
 (.cond (.tmp 14)
 (.seq
 (.tree 0
 (.take 0 [17, 18, 19] ⟨(some 16), .mov (.tmp 0), none⟩
 (.take 1 [18, 19] ⟨(some 17), .mov (.tmp 1), none⟩
 (.take 2 [8, 14, 15, 16, 17, 18, 19] ⟨(some 18), .mov (.tmp 0), none⟩
 (.take 3 [4, 8, 14, 15, 16, 17, 18, 19] ⟨(some 19), .fld 1 (.tmp 5), none⟩
 (.take 4 [8, 14, 15, 16, 17, 18, 19] ⟨(some 20), .load none (.tmp 19), none⟩
 (.take 5 [6, 7, 8, 14, 15, 16, 17, 18, 19] ⟨(some 21), .fld 2 (.tmp 5), none⟩
 (.take 6 [7, 8, 14, 15, 16, 17, 18, 19] ⟨(some 22), .load none (.tmp 21), none⟩
 (.take 9 [15, 16, 17, 18, 19] ⟨(some 25), .mov (.tmp 1), none⟩
 (.take 10 [11, 15, 16, 17, 18, 19] ⟨(some 26), .fld 1 (.tmp 5), none⟩
 (.take 11 [15, 16, 17, 18, 19] ⟨(some 27), .load none (.tmp 26), none⟩
 (.take 12 [13, 14, 15, 16, 17, 18, 19] ⟨(some 28), .fld 2 (.tmp 5), none⟩
 (.take 13 [14, 15, 16, 17, 18, 19] ⟨(some 29), .load none (.tmp 28), none⟩
 (.alt 7 ⟨(some 23), .call 23 [(.tmp 22)], none⟩ true
 (.alt 8 ⟨(some 24), .call 22 [(.tmp 18), (.tmp 20), (.tmp 23)], none⟩ true
 (.alt 14 ⟨(some 30), .call 23 [(.tmp 29)], none⟩ true
 (.alt 15 ⟨(some 31), .call 27 [(.tmp 25), (.tmp 27), (.tmp 30)], none⟩ false
 (.take 16 [19] ⟨(some 32), .bin .eql false (.tmp 24) (.tmp 31), none⟩
 (.take 17 [18, 19] ⟨(some 6), .mov (.tmp 16), none⟩
 (.take 18 [19] ⟨(some 7), .mov (.tmp 17), none⟩
 (.take 19 [] ⟨(some 8), .mov (.tmp 32), none⟩
 .done))))
 .none)
 .none)
 .none)
 .none))))))))))))))
 .ret)
 (.seq
 (.reg 0 [
 ⟨(some 34), .bin .eql false (.tmp 13) (.const (.int .i64 1)), none⟩,
 ⟨(some 33), .mov (.tmp 34), none⟩])
 (.cond (.tmp 33)
 (.seq
 (.reg 0 [
 ⟨(some 35), .mov (.tmp 0), none⟩,
 ⟨(some 36), .mov (.tmp 1), none⟩,
 ⟨(some 37), .mov (.tmp 0), none⟩,
 ⟨(some 38), .call 21 [(.tmp 37)], none⟩,
 ⟨(some 39), .mov (.tmp 1), none⟩,
 ⟨(some 40), .call 28 [(.tmp 39)], none⟩,
 ⟨(some 41), .bin .eql false (.tmp 38) (.tmp 40), none⟩,
 ⟨(some 6), .mov (.tmp 35), none⟩,
 ⟨(some 7), .mov (.tmp 36), none⟩,
 ⟨(some 8), .mov (.tmp 41), none⟩])
 .ret)
 (.seq
 (.reg 0 [
 ⟨(some 43), .bin .eql false (.tmp 13) (.const (.int .i64 2)), none⟩,
 ⟨(some 42), .mov (.tmp 43), none⟩])
 (.cond (.tmp 42)
 (.seq
 (.reg 1 [
 ⟨(some 45), .mov (.tmp 0), none⟩,
 ⟨(some 46), .fld 1 (.tmp 5), none⟩,
 ⟨(some 47), .load none (.tmp 46), none⟩,
 ⟨(some 48), .call 11 [(.tmp 45), (.tmp 47)], none⟩,
 ⟨(some 44), .mov (.tmp 48), none⟩,
 ⟨(some 49), .ext (.tmp 44) 0, none⟩,
 ⟨(some 50), .ext (.tmp 44) 1, none⟩,
 ⟨(some 9), .alloc 0 (.agg (Array.replicate 64 (.int .u8 0))), none⟩,
 ⟨none, .store 64 (.tmp 9) (.tmp 49), none⟩,
 ⟨(some 10), .mov (.tmp 50), none⟩])
 (.seq
 (.reg 1 [
 ⟨(some 51), .mov (.tmp 1), none⟩,
 ⟨(some 52), .fld 1 (.tmp 5), none⟩,
 ⟨(some 53), .load none (.tmp 52), none⟩,
 ⟨(some 54), .call 12 [(.tmp 51), (.tmp 53)], none⟩,
 ⟨(some 11), .alloc 0 (.agg (Array.replicate 64 (.int .u8 0) ++ #[.int .i64 0])), none⟩,
 ⟨none, .store 65 (.tmp 11) (.tmp 54), none⟩])
 (.seq
 (.qui 0 [
 ⟨(some 55), .mov (.tmp 0), none⟩,
 ⟨(some 56), .mov (.tmp 1), none⟩,
 ⟨(some 57), .load (some 64) (.tmp 9), none⟩,
 ⟨(some 58), .fld 0 (.tmp 11), none⟩,
 ⟨(some 59), .load (some 64) (.tmp 58), none⟩,
 ⟨(some 60), .prim (.aeq false ((yB 0 64).map fun i => (i, (.int .u8)))) [(.tmp 57), (.tmp 59)], none⟩,
 ⟨(some 61), .mov (.tmp 60), none⟩,
 ⟨(some 62), .mov (.tmp 10), (some (61, true))⟩,
 ⟨(some 63), .fld 64 (.tmp 11), (some (61, true))⟩,
 ⟨(some 64), .load none (.tmp 63), (some (61, true))⟩,
 ⟨(some 65), .bin .eql false (.tmp 62) (.tmp 64), (some (61, true))⟩,
 ⟨(some 66), .pick (.tmp 61) (.tmp 65) (.const (.bool false)), none⟩,
 ⟨(some 6), .mov (.tmp 55), none⟩,
 ⟨(some 7), .mov (.tmp 56), none⟩,
 ⟨(some 8), .mov (.tmp 66), none⟩])
 .ret)))
 (.seq
 (.reg 0 [
 ⟨(some 68), .bin .eql false (.tmp 13) (.const (.int .i64 3)), none⟩,
 ⟨(some 67), .mov (.tmp 68), none⟩])
 (.cond (.tmp 67)
 (.seq
 (.reg 0 [
 ⟨(some 69), .mov (.tmp 0), none⟩,
 ⟨(some 70), .fld 2 (.tmp 5), none⟩,
 ⟨(some 71), .load none (.tmp 70), none⟩,
 ⟨(some 72), .call 20 [(.tmp 69), (.tmp 71)], none⟩])
 (.reg 0 [
 ⟨(some 73), .mov (.tmp 1), none⟩,
 ⟨(some 74), .fld 2 (.tmp 5), none⟩,
 ⟨(some 75), .load none (.tmp 74), none⟩,
 ⟨(some 76), .call 29 [(.tmp 73), (.tmp 75)], none⟩]))
 (.seq
 (.reg 0 [
 ⟨(some 78), .bin .eql false (.tmp 13) (.const (.int .i64 4)), none⟩,
 ⟨(some 77), .mov (.tmp 78), none⟩])
 (.cond (.tmp 77)
 (.seq
 (.tree 2
 (.take 0 [6, 13, 14, 15] ⟨(some 79), .mov (.tmp 0), none⟩
 (.take 1 [2, 5, 6, 13, 14, 15] ⟨(some 80), .fld 1 (.tmp 5), none⟩
 (.take 2 [5, 6, 13, 14, 15] ⟨(some 81), .load none (.tmp 80), none⟩
 (.take 3 [4, 5, 6, 13, 14, 15] ⟨(some 82), .fld 2 (.tmp 5), none⟩
 (.take 4 [5, 6, 13, 14, 15] ⟨(some 83), .load none (.tmp 82), none⟩
 (.take 7 [13, 14, 15] ⟨(some 86), .mov (.tmp 1), none⟩
 (.take 8 [9, 12, 13, 14, 15] ⟨(some 87), .fld 1 (.tmp 5), none⟩
 (.take 9 [12, 13, 14, 15] ⟨(some 88), .load none (.tmp 87), none⟩
 (.take 10 [11, 12, 13, 14, 15] ⟨(some 89), .fld 2 (.tmp 5), none⟩
 (.take 11 [12, 13, 14, 15] ⟨(some 90), .load none (.tmp 89), none⟩
 (.alt 5 ⟨(some 84), .lits 0 1 2 [.int .i64 0] [(0, (.tmp 81)), (1, (.tmp 83))], none⟩ true
 (.alt 6 ⟨(some 85), .call 14 [(.tmp 79), (.tmp 84)], none⟩ true
 (.alt 12 ⟨(some 91), .lits 1 1 2 [.int .i64 0] [(0, (.tmp 88)), (1, (.tmp 90))], none⟩ true
 (.alt 13 ⟨(some 92), .call 30 [(.tmp 86), (.tmp 91)], none⟩ false
 (.take 14 [15] ⟨(some 0), .mov (.tmp 85), none⟩
 (.take 15 [] ⟨(some 1), .mov (.tmp 92), none⟩
 .done))
 .none)
 .none)
 (.alt 12 ⟨(some 91), .lits 1 1 2 [.int .i64 0] [(0, (.tmp 88)), (1, (.tmp 90))], none⟩ true
 (.alt 6 ⟨(some 85), .call 14 [(.tmp 79), (.tmp 84)], none⟩ true
 (.alt 13 ⟨(some 92), .call 30 [(.tmp 86), (.tmp 91)], none⟩ false
 (.take 14 [15] ⟨(some 0), .mov (.tmp 85), none⟩
 (.take 15 [] ⟨(some 1), .mov (.tmp 92), none⟩
 .done))
 .none)
 .none)
 .none))
 (.alt 12 ⟨(some 91), .lits 1 1 2 [.int .i64 0] [(0, (.tmp 88)), (1, (.tmp 90))], none⟩ true
 (.alt 5 ⟨(some 84), .lits 0 1 2 [.int .i64 0] [(0, (.tmp 81)), (1, (.tmp 83))], none⟩ true
 (.alt 6 ⟨(some 85), .call 14 [(.tmp 79), (.tmp 84)], none⟩ true
 (.alt 13 ⟨(some 92), .call 30 [(.tmp 86), (.tmp 91)], none⟩ false
 (.take 14 [15] ⟨(some 0), .mov (.tmp 85), none⟩
 (.take 15 [] ⟨(some 1), .mov (.tmp 92), none⟩
 .done))
 .none)
 .none)
 .none)
 .none)))))))))))))
 (.seq
 (.reg 0 [
 ⟨(some 93), .mov (.tmp 0), none⟩,
 ⟨(some 94), .prim (.peq false) [(.tmp 93), (.const (.pointer none))], none⟩])
 (.cond (.tmp 94)
 (.seq
 (.reg 0 [
 ⟨(some 95), .mov (.tmp 0), none⟩,
 ⟨(some 96), .mov (.tmp 1), none⟩,
 ⟨(some 6), .mov (.tmp 95), none⟩,
 ⟨(some 7), .mov (.tmp 96), none⟩,
 ⟨(some 8), .mov (.const (.bool false)), none⟩])
 .ret)
 .skip)))
 (.seq
 (.reg 0 [
 ⟨(some 98), .bin .eql false (.tmp 13) (.const (.int .i64 5)), none⟩,
 ⟨(some 97), .mov (.tmp 98), none⟩])
 (.cond (.tmp 97)
 (.seq
 (.tree 0
 (.take 0 [15, 16, 17] ⟨(some 99), .mov (.tmp 0), none⟩
 (.take 1 [16, 17] ⟨(some 100), .mov (.tmp 1), none⟩
 (.take 2 [7, 13, 14, 15, 16, 17] ⟨(some 101), .mov (.tmp 0), none⟩
 (.take 3 [4, 7, 13, 14, 15, 16, 17] ⟨(some 102), .fld 1 (.tmp 5), none⟩
 (.take 4 [7, 13, 14, 15, 16, 17] ⟨(some 103), .load none (.tmp 102), none⟩
 (.take 5 [6, 7, 13, 14, 15, 16, 17] ⟨(some 104), .fld 2 (.tmp 5), none⟩
 (.take 6 [7, 13, 14, 15, 16, 17] ⟨(some 105), .load none (.tmp 104), none⟩
 (.take 8 [13, 14, 15, 16, 17] ⟨(some 107), .mov (.tmp 1), none⟩
 (.take 9 [10, 13, 14, 15, 16, 17] ⟨(some 108), .fld 1 (.tmp 5), none⟩
 (.take 10 [13, 14, 15, 16, 17] ⟨(some 109), .load none (.tmp 108), none⟩
 (.take 11 [12, 13, 14, 15, 16, 17] ⟨(some 110), .fld 2 (.tmp 5), none⟩
 (.take 12 [13, 14, 15, 16, 17] ⟨(some 111), .load none (.tmp 110), none⟩
 (.alt 7 ⟨(some 106), .call 24 [(.tmp 101), (.tmp 103), (.tmp 105)], none⟩ true
 (.alt 13 ⟨(some 112), .call 31 [(.tmp 107), (.tmp 109), (.tmp 111)], none⟩ false
 (.take 14 [17] ⟨(some 113), .bin .eql false (.tmp 106) (.tmp 112), none⟩
 (.take 15 [16, 17] ⟨(some 6), .mov (.tmp 99), none⟩
 (.take 16 [17] ⟨(some 7), .mov (.tmp 100), none⟩
 (.take 17 [] ⟨(some 8), .mov (.tmp 113), none⟩
 .done))))
 .none)
 .none))))))))))))))
 .ret)
 (.seq
 (.reg 0 [
 ⟨(some 115), .bin .eql false (.tmp 13) (.const (.int .i64 6)), none⟩,
 ⟨(some 114), .mov (.tmp 115), none⟩])
 (.cond (.tmp 114)
 (.seq
 (.tree 0
 (.take 0 [11, 12, 13] ⟨(some 116), .mov (.tmp 0), none⟩
 (.take 1 [12, 13] ⟨(some 117), .mov (.tmp 1), none⟩
 (.take 2 [5, 9, 10, 11, 12, 13] ⟨(some 118), .mov (.tmp 0), none⟩
 (.take 3 [4, 5, 9, 10, 11, 12, 13] ⟨(some 119), .fld 1 (.tmp 5), none⟩
 (.take 4 [5, 9, 10, 11, 12, 13] ⟨(some 120), .load none (.tmp 119), none⟩
 (.take 6 [9, 10, 11, 12, 13] ⟨(some 122), .mov (.tmp 1), none⟩
 (.take 7 [8, 9, 10, 11, 12, 13] ⟨(some 123), .fld 1 (.tmp 5), none⟩
 (.take 8 [9, 10, 11, 12, 13] ⟨(some 124), .load none (.tmp 123), none⟩
 (.alt 5 ⟨(some 121), .call 25 [(.tmp 118), (.tmp 120)], none⟩ true
 (.alt 9 ⟨(some 125), .call 32 [(.tmp 122), (.tmp 124)], none⟩ false
 (.take 10 [13] ⟨(some 126), .bin .eql false (.tmp 121) (.tmp 125), none⟩
 (.take 11 [12, 13] ⟨(some 6), .mov (.tmp 116), none⟩
 (.take 12 [13] ⟨(some 7), .mov (.tmp 117), none⟩
 (.take 13 [] ⟨(some 8), .mov (.tmp 126), none⟩
 .done))))
 .none)
 .none))))))))))
 .ret)
 .skip))))))))))))))))
 c10F))
theorem c10_eq : c10 = c10P := rfl
theorem fin10 {fx : List Nat} {e : Env} {b p q n : Nat} {H : List Blk} {S : MS} {A1 B1 A2 B2 : List Blk} {N R : St → Prop} {X : Nat → St → Prop} (hn : S.n = n)
  (hH1 : H = A1 ++ (S.bs p ++ B1)) (hp : A1.length = p) (hH2 : H = A2 ++ (fs q S.D ++ B2)) (hq : A2.length = q) (hqp : p + 3 + n ≤ q)
  (hA1 : A1.map (killB (yB (p + 3) n)) = A1) (hB1 : B1.map (killB (yB (p + 3) n)) = B1) (hfx1 : ∀ k ∈ fx, k < p + 3 ∨ p + 3 + n ≤ k) (hfx2 : keepP fx H)
  (h0 : get e 0 = .ptr p 0 0) (h1 : get e 1 = .ptr q 0 0) (he : killE (yB (p + 3) n) e = e)
  (hn6 : 1 ≤ n ∧ n ≤ 65536) (hln : ∀ k, (S.D.op k).length ≤ 1000)
  (hR : ∀ e b, get e 6 = .ptr p 0 0 → get e 7 = .ptr q 0 0 → get e 8 = .b true → R ⟨e, H, b⟩) : aw (cxN Try.prog fx) c10F N X R ⟨e, H, b⟩ := by
 have hbq : H[q]? = some (fV q S.D) := by
  rw [hH2, yF (by omega), hq, yN]; rfl
 have hpq : (p + 3 ≤ q ∧ q < p + 3 + n) = False := eq_false (by omega)
 have hpq1 : (p + 3 ≤ q + 1 ∧ q + 1 < p + 3 + n) = False := eq_false (by omega)
 have hpp : (p + 3 ≤ p ∧ p < p + 3 + n) = False := eq_false (by omega)
 have callA : ∀ {f : FuncId} {xs args : List V} {v : V} {e : Env} {b : Nat} {bn : List Nat} {K : V → St → Prop}, OkD f (.ptr 0 0 0 :: xs) S (fun r S' => S' = S ∧ r = v) → (∀ (H : List Blk) (g : Nat → Option Nat), lendsOk H g args ∧ wkL xs (lends H g args)) → (∀ k ∈ bn, k < p ∨ p + (3 + n) ≤ k) → (∀ g, ren g v = v) → killE (yB (p + 3) n) e = e → K v ⟨e, H, b⟩ → callP { cxN Try.prog fx with bn := bn } f (.ptr p 0 0 :: args) ⟨e, H, b⟩ K := by
  intro f xs args v e b bn K hC ha hbn hv he hK
  subst hp hn
  rw [hH1] at hK hfx2 ⊢
  refine call_dk A1 B1 S args xs _ hC (ha _ _) hbn hfx1 hA1 hB1 he ?_
  rintro r S' _ ⟨rfl, rfl⟩
  exact ⟨hv, hfx2, hK⟩
 have callB : ∀ {f : FuncId} {xs args : List V} {v : V} {e : Env} {b : Nat} {bn : List Nat} {K : V → St → Prop}, OkF f (.ptr 0 0 0 :: xs) S.D (fun r D' => D' = S.D ∧ r = v) → (∀ (H : List Blk) (g : Nat → Option Nat), lendsOk H g args ∧ wkL xs (lends H g args)) → (∀ k ∈ bn, k ≠ q ∧ k ≠ q + 1) → (∀ g, ren g v = v) → K v ⟨e, H, b⟩ → callP { cxN Try.prog fx with bn := bn } f (.ptr q 0 0 :: args) ⟨e, H, b⟩ K := by
  intro f xs args v e b bn K hC ha hbn hv hK
  rw [hH2] at hK hfx2 ⊢
  refine call_f' q A2 B2 hq hbn hC ha ?_ ?_
  ·rintro r D' ⟨rfl, _⟩; exact hfx2
  rintro r D' _ ⟨rfl, rfl⟩
  exact ⟨hv, hK⟩
 have hkp : kill (yB (p + 3) n) (.ptr p 0 0) = .ptr p 0 0 := by
  simp only [kill, yC, hpp, if_false]
 have hkq : kill (yB (p + 3) n) (.ptr q 0 0) = .ptr q 0 0 := by
  simp only [kill, yC, hpq, if_false]
 have hkq1 : ∀ m, kill (yB (p + 3) n) (.sl (q + 1) 0 m) = .sl (q + 1) 0 m := fun m => by
  simp only [kill, yC, hpq1, if_false]
 have hkv : ∀ v, kill (yB (p + 3) n) (.v v) = .v v := fun v => rfl
 have hkr : ∀ s v, kill (yB (p + 3) n) (.ro s v) = .ro s v := fun s v => rfl
 have hkf : ∀ j f, kill (yB (p + 3) n) (.ptr q j f) = .ptr q j f := fun j f => by
  simp only [kill, yC, hpq, if_false]
 have hSn : S.D.n = n := hn
 have hbe : ∀ x : Int, (x == x) = true := fun x => by simp
 have hbb : ∀ x : Bool, (x == x) = true := fun x => by simp
 unfold c10F
 simp -implicitDefEqProofs only [rX,↓rY,rdK,↓reduceIte,Nat.reduceEqDiff,reduceCtorEq,cxN,h0,h1,hbq,fV]
 intro _
 refine callA (bn := [q]) (ok15 S) (fun _ _ => ⟨trivial, trivial⟩) ?_ (fun _ => rfl) ?_ ?_
 ·intro k hk
  simp at hk
  omega
 ·simp only [killE, he, hkp, hkq, hkq1, hkv, hkf]
 simp -implicitDefEqProofs only [rX,↓rY,rdK,↓reduceIte,Nat.reduceEqDiff,reduceCtorEq,h0,h1,hbq,fV,hSn,hbe]
 refine callA (bn := [q, q]) (ok17 S) (fun _ _ => ⟨trivial, trivial⟩) ?_ (fun _ => rfl) ?_ ?_
 ·intro k hk
  simp at hk
  omega
 ·simp only [killE, he, hkp, hkq, hkq1, hkv, hkf]
 simp -implicitDefEqProofs only [rX,↓rY,rdK,↓reduceIte,Nat.reduceEqDiff,reduceCtorEq,h0,h1,hbq,fV,hSn,hbe]
 refine callA (bn := [q, q, q]) (ok16 S) (fun _ _ => ⟨trivial, trivial⟩) ?_ (fun _ => rfl) ?_ ?_
 ·intro k hk
  simp at hk
  omega
 ·simp only [killE, he, hkp, hkq, hkq1, hkv, hkf]
 simp -implicitDefEqProofs only [rX,↓rY,↓reduceIte,Nat.reduceEqDiff,reduceCtorEq,h0,h1,hbb]
 have hsn : S.n ≤ 65536 := by omega
 refine callA (bn := []) (ok18 S hsn hln) (fun _ _ => ⟨trivial, trivial⟩) (by simp) (fun _ => rfl) ?_ ?_
 ·simp only [killE, he, hkp, hkq, hkq1, hkv, hkf]
 simp -implicitDefEqProofs only [rX,↓rY,↓reduceIte,Nat.reduceEqDiff]
 refine callB (bn := []) (ok33 S.D hln hsn) (fun _ _ => ⟨trivial, trivial⟩) (by simp) (fun _ => rfl) ?_
 simp -implicitDefEqProofs only [rX,↓rY,↓reduceIte,Nat.reduceEqDiff]
 refine call_is (ok26 S.D.opens ?_) ?_ rfl hfx2 ?_
 ·have h1 := opensL_len (D := S.D) (l := S.D.secs) hln
  have h2 := secs_len S.D
  have h3 : S.D.secs.length ≤ 65536 := Nat.le_trans h2 hsn
  show (opensL S.D S.D.secs).length < _
  omega
 ·simp [lendsOk, lendOk, lends, lend, wkL, wk, wkR, lnat]
 simp -implicitDefEqProofs only [rX,↓rY,↓reduceIte,Nat.reduceEqDiff]
 exact hR _ _ rfl rfl rfl
def h10 (S : MS) (n : Nat) (D : Dk) (X : List Blk) : List Blk := dkV 0 S.D :: dkC S.D :: .map (ents 0 S.D S.L) S.c :: (dkT S.D ++ fV (n + 3) D :: fC D :: X)
structure G10 (S : MS) (m : Nat) : Prop where
 n1 : 1 ≤ S.n ∧ S.n ≤ 65536
 st : S.D.steps ≤ m
 af : -1 ≤ S.D.after ∧ S.D.after ≤ 9223372036854775807
 ln : ∀ k, (S.D.op k).length ≤ m
 bz : BadZ S.D
theorem G10.wr {S S' : MS} {m : Nat} (h : G10 S m) {i : Int} {s : Sec} (hn : S'.n = S.n) (hD : S'.D = S.D.wrD i s) : G10 S' (m + 1) := by
 have hc : S'.D.cells = S.D.cells := by rw [hD]; unfold Dk.wrD Dk.stepD; split <;> (try split) <;> (try split) <;> rfl
 have hst : S'.D.steps ≤ S.D.steps + 1 := by rw [hD]; unfold Dk.wrD Dk.stepD; split <;> (try split) <;> (try split) <;> simp [Dk.addD]
 have haf : S'.D.after = S.D.after ∨ (0 < S.D.after ∧ S'.D.after = S.D.after - 1) := by
  rw [hD]; unfold Dk.wrD Dk.stepD
  split
  ·exact .inl rfl
  ·split
   ·split
    ·exact .inl rfl
    ·by_cases h : 0 < S.D.after
     ·exact .inr ⟨h, by simp [h]⟩
     ·exact .inl (by simp [h])
   ·split
    ·exact .inl rfl
    ·by_cases h : 0 < S.D.after
     ·exact .inr ⟨h, by simp [Dk.addD, h]⟩
     ·exact .inl (by simp [Dk.addD, h])
 have hop : ∀ k, (S'.D.op k).length ≤ (S.D.op k).length + 1 := by
  intro k
  have hs : S.D.stepD.op k = S.D.op k ∧ S.D.stepD.opn = S.D.opn := by unfold Dk.stepD; split <;> exact ⟨rfl, rfl⟩
  rw [hD]
  unfold Dk.wrD
  split
  ·omega
  ·split
   ·rw [hs.1]; omega
   ·show ((S.D.stepD.opn.set i.toNat (S.D.stepD.op i.toNat ++ [s])).getD k []).length ≤ _
    rw [yG, List.getElem?_set]
    split
    ·rename_i e
     subst e
     split
     ·have : S.D.stepD.op i.toNat = S.D.op i.toNat := by unfold Dk.stepD; split <;> rfl
      simp [this]
     ·simp
    ·rw [hs.2, ← yG]; exact Nat.le_succ _
 have h1 := h.st
 have h2 := h.af
 refine ⟨by rw [hn]; exact h.n1, by omega, by rcases haf with e | e <;> omega, fun k => by have := hop k; have := h.ln k; omega, ⟨fun k => ?_⟩⟩
 have : S'.D.cl k = S.D.cl k := by unfold Dk.cl; rw [hc]
 rw [this]; exact h.bz.z k
theorem G10.sy {S S' : MS} {m : Nat} (h : G10 S m) (hn : S'.n = S.n) (hD : S'.D = S.D.syD) : G10 S' (m + 1) := by
 have hst : S'.D.steps ≤ S.D.steps + 1 := by rw [hD]; unfold Dk.syD Dk.stepD; split <;> (try split) <;> (try split) <;> simp [Dk.allD]
 have haf : S'.D.after = S.D.after ∨ (0 < S.D.after ∧ S'.D.after = S.D.after - 1) := by
  rw [hD]; unfold Dk.syD Dk.stepD
  split
  ·exact .inl rfl
  ·split
   ·split
    ·exact .inl rfl
    ·by_cases h : 0 < S.D.after
     ·exact .inr ⟨h, by simp [h]⟩
     ·exact .inl (by simp [h])
   ·split
    ·exact .inl rfl
    ·by_cases h : 0 < S.D.after
     ·exact .inr ⟨h, by simp [Dk.allD, h]⟩
     ·exact .inl (by simp [Dk.allD, h])
 have hs : ∀ k, S.D.stepD.op k = S.D.op k ∧ S.D.stepD.cl k = S.D.cl k := fun k => by unfold Dk.stepD; split <;> exact ⟨rfl, rfl⟩
 have hop : ∀ k, (S'.D.op k).length ≤ (S.D.op k).length := by
  intro k
  rw [hD]
  unfold Dk.syD
  split
  ·exact yP _
  ·split
   ·rw [(hs k).1]; exact yP _
   ·show ((yA S.D.stepD.cells.length ([] : List Sec)).getD k []).length ≤ _
    rw [yG, vH]
    split <;> exact yV _
 have h1 := h.st
 have h2 := h.af
 refine ⟨by rw [hn]; exact h.n1, by omega, by rcases haf with e | e <;> omega, fun k => by have := hop k; have := h.ln k; omega, ⟨fun k => ?_⟩⟩
 rw [hD]
 unfold Dk.syD
 split
 ·exact h.bz.z k
 ·split
  ·rw [(hs k).2]; exact h.bz.z k
  ·show (((List.range S.D.stepD.cells.length).map fun i => if S.D.stepD.op i = [] then S.D.stepD.cells.getD i zC else ⟨lastS (S.D.stepD.op i), false⟩).getD k zC).bad = true → ((List.range S.D.stepD.cells.length).map fun i => if S.D.stepD.op i = [] then S.D.stepD.cells.getD i zC else ⟨lastS (S.D.stepD.op i), false⟩).getD k zC = badC
   rw [yG, List.getElem?_map]
   by_cases hk : k < S.D.stepD.cells.length
   ·rw [List.getElem?_range hk]
    show (if S.D.stepD.op k = [] then S.D.stepD.cl k else ⟨lastS (S.D.stepD.op k), false⟩ : Cl).bad = true → (if S.D.stepD.op k = [] then S.D.stepD.cl k else ⟨lastS (S.D.stepD.op k), false⟩ : Cl) = badC
    split
    ·rw [(hs k).2]; exact h.bz.z k
    ·intro hb; cases hb
   ·rw [vA (by simp; omega)]
    intro hb; cases hb
theorem G10.arm {S : MS} {m : Nat} (h : G10 S m) {n : Int} (hb : n ≤ 9223372036854775807) : G10 (S.set S.D.steps (max n (-1)) S.D.dead) (m + 1) :=
 ⟨h.n1, yM h.st, by show -1 ≤ max n (-1) ∧ max n (-1) ≤ _; omega, fun k => yM (h.ln k), ⟨fun k => h.bz.z k⟩⟩
theorem setC_z {D : Dk} (h : BadZ D) {k : Nat} {c : Cl} (hc : c.bad = true → c = badC) : BadZ (D.setC k c) := by
 refine ⟨fun j => ?_⟩
 show ((D.cells.set k c).getD j zC).bad = true → (D.cells.set k c).getD j zC = badC
 rw [yG, List.getElem?_set]
 split
 ·split
  ·exact hc
  ·intro hb; cases hb
 ·rw [← yG]; exact h.z j
theorem flip_D {S : MS} {i bit : Int} : (S.flip i bit).D = S.D.flipD i bit := by
 unfold MS.flip Dk.flipD
 split <;> rfl
theorem rot_D {S : MS} {i : Int} : (S.rot i).D = S.D.rotD i := by
 unfold MS.rot Dk.rotD
 split <;> rfl
theorem G10.flip {S : MS} {m : Nat} (h : G10 S m) {i bit : Int} : G10 (S.flip i bit) (m + 1) := by
 have hn : (S.flip i bit).n = S.n := by unfold MS.flip; split <;> simp [put_n]
 have hD := flip_D (S := S) (i := i) (bit := bit)
 refine ⟨by rw [hn]; exact h.n1, ?_, ?_, fun k => ?_, ?_⟩
 ·rw [hD]; unfold Dk.flipD; split <;> exact yM h.st
 ·rw [hD]; unfold Dk.flipD; split <;> exact h.af
 ·rw [hD]; unfold Dk.flipD; split <;> exact yM (h.ln k)
 ·rw [hD]
  unfold Dk.flipD
  split
  ·refine setC_z h.bz fun hb => ?_
   unfold flipC at hb ⊢
   split
   ·assumption
   ·rename_i hne
    rw [if_neg hne] at hb
    exact absurd (h.bz.z _ hb) hne
  ·exact h.bz
theorem G10.rot {S : MS} {m : Nat} (h : G10 S m) {i : Int} : G10 (S.rot i) (m + 1) := by
 have hn : (S.rot i).n = S.n := by unfold MS.rot; split <;> simp [put_n]
 have hD := rot_D (S := S) (i := i)
 refine ⟨by rw [hn]; exact h.n1, ?_, ?_, fun k => ?_, ?_⟩
 ·rw [hD]; unfold Dk.rotD; split <;> exact yM h.st
 ·rw [hD]; unfold Dk.rotD; split <;> exact h.af
 ·rw [hD]; unfold Dk.rotD; split <;> exact yM (h.ln k)
 ·rw [hD]
  unfold Dk.rotD
  split
  ·exact setC_z h.bz fun _ => rfl
  ·exact h.bz
theorem found_z {c : Cl} {l : List Sec} {x : Int} (h : c.bad = true → c = badC) : (foundC c l x).bad = true → foundC c l x = badC := by
 unfold foundC
 simp only
 split
 ·exact h
 ·split
  ·intro hb; cases hb
  ·split
   ·exact fun _ => rfl
   ·intro hb; cases hb
theorem G10.crash {S : MS} {m : Nat} (h : G10 S m) {keep : List Int} : G10 (crE S keep) (m + 1) := by
 refine ⟨by rw [crE_n]; exact h.n1, yV _, by show (-1 : Int) ≤ -1 ∧ (-1 : Int) ≤ _; omega, fun k => by rw [crE_op]; exact yV _, ⟨fun k => ?_⟩⟩
 by_cases hk : k < S.D.cells.length
 ·have := crD_cl (D := S.D) (keep := keep) hk
  show ((crD S.D keep).cl k).bad = true → (crD S.D keep).cl k = badC
  rw [this]
  split
  ·exact h.bz.z k
  ·exact found_z (h.bz.z k)
 ·have : (crE S keep).D.cl k = zC := by
   show (crD S.D keep).cells.getD k zC = zC
   rw [yG, vA (by rw [crD_n]; omega)]; rfl
  rw [this]
  intro hb; cases hb
theorem G10.mono {S : MS} {m : Nat} (h : G10 S m) : G10 S (m + 1) := ⟨h.n1, yM h.st, h.af, fun k => yM (h.ln k), h.bz⟩
theorem sy_eq {S : MS} (h : 1 ≤ S.n) : S.D.sySD = S.D.syD ∧ S.D.sySE = S.D.syE := by
 have hc : S.D.chk 0 = if S.D.dead then 130 else 0 := by
  unfold Dk.chk
  by_cases hd : S.D.dead = true
  ·rw [if_pos hd, if_pos hd]
  ·rw [if_neg hd, if_neg hd, if_neg (by show ¬ ((0 : Int) < 0 ∨ (S.n : Int) ≤ 0); omega)]
 unfold Dk.sySD Dk.sySE Dk.syD Dk.syE
 rw [hc]
 by_cases hd : S.D.dead = true
 ·have h1 : (130 : Int) ≠ 0 := by decide
  rw [if_pos hd, if_pos hd, if_pos hd, if_pos h1, if_pos h1]
  exact ⟨rfl, rfl⟩
 ·have h1 : ¬ (0 : Int) ≠ 0 := by decide
  rw [if_neg hd, if_neg hd, if_neg hd, if_neg h1, if_neg h1]
  exact ⟨rfl, rfl⟩
theorem keep10 {S : MS} {n : Nat} {D : Dk} {X : List Blk} (hn : S.n = n) : keepP [0, 1, 2, n + 3, n + 4] (h10 S n D X) := by
 have hT : (dkT S.D).length = n := S.T_len.trans hn
 refine ⟨trivial, trivial, trivial, ?_, ?_, trivial⟩
 ·show liveP (_ :: _ :: _ :: (dkT S.D ++ _)) (n + 3)
  unfold liveP
  have : (dkV 0 S.D :: dkC S.D :: Blk.map (ents 0 S.D S.L) S.c :: (dkT S.D ++ fV (n + 3) D :: fC D :: X))[n + 3]? = some (fV (n + 3) D) := gn0 hT
  rw [this]; trivial
 ·show liveP (_ :: _ :: _ :: (dkT S.D ++ _)) (n + 4)
  unfold liveP
  have : (dkV 0 S.D :: dkC S.D :: Blk.map (ents 0 S.D S.L) S.c :: (dkT S.D ++ fV (n + 3) D :: fC D :: X))[n + 4]? = some (fC D) := gn (j := 1) hT
  rw [this]; trivial
section
variable {cx : Cx} {f : FuncId} {e : Env} {b n : Nat} {K : V → St → Prop} {S : MS} {D : Dk} {X : List Blk} {args xs : List V}
theorem call_ha {Q : V → MS → Prop} (hn : S.n = n) (hC : cx.C f (.ptr 0 0 0 :: xs) (S.bs 0) (yB 3 S.n) (QD S.n Q)) (hfx : cx.fx = [0, 1, 2, n + 3, n + 4]) (hbn : ∀ k ∈ cx.bn, n + 5 ≤ k)
  (ha : ∀ (H : List Blk) (g : Nat → Option Nat), lendsOk H g args ∧ wkL xs (lends H g args)) (hX : X.map (killB (yB 3 n)) = X) (hE : killE (yB 3 n) e = e)
  (h3 : ∀ (r : V) (S' : MS), S'.n = n → Q r S' → (∀ g, ren g r = r) ∧ K r ⟨e, h10 S' n D X, b⟩) : callP cx f (.ptr 0 0 0 :: args) ⟨e, h10 S n D X, b⟩ K := by
 subst hn
 refine call_dk [] (fV (S.n + 3) D :: fC D :: X) S args xs Q hC (ha _ _) (fun k hk => .inr ?_) (fun k hk => ?_) rfl ?_ hE fun r S' h1 h2 => ?_
 ·have := hbn k hk
  simp only [yK]; omega
 ·rw [hfx] at hk
  simp at hk
  simp only [yK]; omega
 ·show List.map (killB (yB 3 S.n)) (fs (S.n + 3) D ++ X) = fs (S.n + 3) D ++ X
  rw [yE, hX, fs_kill (by rw [yC]; omega)]
 ·obtain ⟨g1, g2⟩ := h3 r S' h1 h2
  exact ⟨g1, by rw [hfx]; exact keep10 h1, g2⟩
theorem call_hb {Q : V → Dk → Prop} (hn : S.n = n) (hC : cx.C f (.ptr 0 0 0 :: xs) (fs 0 D) [] (QF D.cells.length Q)) (hfx : cx.fx = [0, 1, 2, n + 3, n + 4]) (hbn : ∀ k ∈ cx.bn, n + 5 ≤ k)
  (ha : ∀ (H : List Blk) (g : Nat → Option Nat), lendsOk H g args ∧ wkL xs (lends H g args))
  (h3 : ∀ (r : V) (D' : Dk), D'.cells.length = D.cells.length → Q r D' → (∀ g, ren g r = r) ∧ K r ⟨e, h10 S n D' X, b⟩) : callP cx f (.ptr (n + 3) 0 0 :: args) ⟨e, h10 S n D X, b⟩ K := by
 have hH : ∀ D, h10 S n D X = S.bs 0 ++ (fs (n + 3) D ++ X) := fun D => by
  unfold h10
  rw [bs_eq]; rfl
 rw [hH]
 refine call_f' (n + 3) (S.bs 0) X (by rw [S.len, hn]; omega) (fun k hk => ?_) hC ha (fun r D' _ => ?_) fun r D' h1 h2 => ?_
 ·have := hbn k hk
  omega
 ·rw [hfx, ← hH]; exact keep10 hn
 ·have := h3 r D' h1 h2
  rwa [hH] at this
end
def r10 (S : MS) (m n : Nat) : V → List Blk → Prop := fun r h => ∃ S' : MS, (S'.n = n ∧ G10 S' (m + 1)) ∧ ((r = .tup [.ptr 0 0 0, .ptr (n + 3) 0 0, .b true] ∧ h = S'.bs 0 ++ fs (n + 3) S'.D) ∨
 (r = .tup [.ptr (n + 11) 0 0, .ptr (n + n + 15) 0 0, .b true] ∧ h = S.bs 0 ++ (fs (n + 3) S.D ++ (yA 6 .dead ++ (S'.bs (n + 11) ++ .dead :: fs (n + n + 15) S'.D)))))
section
variable {cx : Cx} {e : Env} {b n : Nat} {K : V → St → Prop} {S : MS} {D : Dk} {X : List Blk}
theorem h10_eq {S : MS} {n : Nat} {D : Dk} {X : List Blk} : h10 S n D X = S.bs 0 ++ (fs (n + 3) D ++ X) := by
 unfold h10
 rw [bs_eq]; rfl
theorem h10_len {S : MS} {n : Nat} {D : Dk} {X : List Blk} (hn : S.n = n) : (h10 S n D X).length = n + 5 + X.length := by
 rw [h10_eq]
 simp only [yD, S.len, hn, fs_len]; omega
theorem call_hc {k : Nat} {a c : Int} (hn : S.n = n) (hn1 : 1 ≤ n ∧ n ≤ 65536) (hl : ∀ k, (S.D.op k).length ≤ 1000) (hX : X.length = 3) (hC : cx.C = C0 Try.prog) (hfx : cx.fx = [0, 1, 2, n + 3, n + 4]) (hbn : ∀ k ∈ cx.bn, n + 5 ≤ k)
  (hk : (h10 S n D X)[k]? = some (.arr 1 [[.i a], [.i c]])) (hk5 : n + 5 ≤ k) (hXk : X.map (killB (yB 3 n)) = X) (hE : killE (yB 3 n) e = e)
  (h3 : K (.ptr (n + 11) 0 0) ⟨e, h10 S n D (X ++ .dead :: .dead :: .dead :: (crE S [a, c]).bs (n + 11)), b⟩) : callP cx 14 [.ptr 0 0 0, .sl k 0 2] ⟨e, h10 S n D X, b⟩ K := by
 have hN : (([] : List Blk) ++ (S.bs ([] : List Blk).length ++ (fs (n + 3) D ++ X))).length + 3 = n + 11 := by
  show (([] : List Blk) ++ (S.bs 0 ++ (fs (n + 3) D ++ X))).length + 3 = n + 11
  rw [yW, ← h10_eq, h10_len hn, hX]
 subst hn
 rw [h10_eq] at hk h3 ⊢
 have hbk : blk (S.bs 0 ++ (fs (S.n + 3) D ++ X)) k = .arr 1 [[.i a], [.i c]] := by
  rw [blk, yG, hk]; rfl
 -- the list is lent
 have key : callP cx 14 [.ptr ([] : List Blk).length 0 0, .sl k 0 2] ⟨e, [] ++ (S.bs ([] : List Blk).length ++ (fs (S.n + 3) D ++ X)), b⟩ K := by
  refine call_14' [] (fs (S.n + 3) D ++ X) S [a, c] (.sl k 0 2) hn1 hl hC ⟨?_, ?_⟩ (fun j hj => .inr ?_) (fun j hj => ?_) rfl ?_ hE ?_
  ·show lendOk (S.bs 0 ++ (fs (S.n + 3) D ++ X)) _ _
   simp only [lendOk, pos_range, hbk]
   rw [if_neg (by simp only [yK]; omega)]
   simp
  ·show wk _ (lend (S.bs 0 ++ (fs (S.n + 3) D ++ X)) _ _)
   simp only [lend, pos_range, hbk]
   rw [if_neg (by simp only [yK]; omega)]
   simp [wk, wkB, encI]
  ·have := hbn j hj
   simp only [yK]; omega
  ·rw [hfx] at hj
   simp at hj
   simp only [yK]; omega
  ·show List.map (killB (yB 3 S.n)) (fs (S.n + 3) D ++ X) = _
   rw [yE, hXk, fs_kill (by rw [yC]; omega)]
  ·rw [hN, hfx]
   have e1 : ([] : List Blk) ++ (S.bs ([] : List Blk).length ++ (fs (S.n + 3) D ++ X ++ .dead :: .dead :: .dead :: (crE S [a, c]).bs (S.n + 11))) = S.bs 0 ++ (fs (S.n + 3) D ++ (X ++ .dead :: .dead :: .dead :: (crE S [a, c]).bs (S.n + 11))) := by
    rw [yW, yJ]; rfl
   rw [e1]
   refine ⟨?_, h3⟩
   rw [← h10_eq]; exact keep10 rfl
 exact key
theorem call_hd {k : Nat} {a c : Int} (hn : S.n = n) (hn1 : 1 ≤ D.cells.length ∧ D.cells.length ≤ 65536) (hl : ∀ k, (D.op k).length ≤ 1000) (hz : BadZ D) (hC : cx.C = C0 Try.prog) (hfx : cx.fx = [0, 1, 2, n + 3, n + 4]) (hbn : ∀ k ∈ cx.bn, n + 5 ≤ k)
  (hk : (h10 S n D X)[k]? = some (.arr 1 [[.i a], [.i c]])) (hk5 : n + 5 ≤ k)
  (h3 : K (.ptr (n + 5 + X.length + 1) 0 0) ⟨e, h10 S n D (X ++ .dead :: fs (n + 5 + X.length + 1) (crD D [a, c])), b⟩) : callP cx 30 [.ptr (n + 3) 0 0, .sl k 0 2] ⟨e, h10 S n D X, b⟩ K := by
 have hbk : blk (h10 S n D X) k = .arr 1 [[.i a], [.i c]] := by
  rw [blk, yG, hk]; rfl
 have hlen := h10_len (D := D) (X := X) hn
 have hg : ∀ j, pos [n + 3, n + 4] j = if j = n + 3 then some 0 else if j = n + 4 then some 1 else none := fun j => by
  simp only [pos]
  by_cases h1 : j = n + 3
  ·rw [if_pos h1, if_pos h1]
  ·rw [if_neg h1, if_neg h1]
   by_cases h2 : j = n + 4
   ·rw [if_pos h2, if_pos h2]; rfl
   ·rw [if_neg h2, if_neg h2]; rfl
 refine ⟨[n + 3, n + 4], [.ptr 0 0 0, .bro 1 (([a, c] : List Int).map encI)], [], fun r h => r = .ptr 3 0 0 ∧ h = fs 0 D ++ .dead :: fs 3 (crD D [a, c]), ⟨⟨by simp, fun j hj => ?_⟩, by simp⟩, ⟨?_, ?_, trivial⟩, ⟨?_, ?_, trivial⟩, ?_, ?_⟩
 ·simp at hj
  refine ⟨?_, fun hb => ?_⟩
  ·show j < (h10 S n D X).length
   rw [hlen]; omega
  ·have := hbn j hb
   omega
 ·simp [lendOk, hg]
 ·show lendOk (h10 S n D X) _ _
  simp only [lendOk, hg, hbk]
  rw [if_neg (by omega), if_neg (by omega)]
  simp
 ·simp [lend, hg, wk]
 ·show wk _ (lend (h10 S n D X) _ _)
  simp only [lend, hg, hbk]
  rw [if_neg (by omega), if_neg (by omega)]
  simp [wk, wkB, encI]
 ·have e1 : [n + 3, n + 4].map (fun k => renB (pos [n + 3, n + 4]) (blk (h10 S n D X) k)) = fs 0 D := by
   rw [← fs_ren (p := n + 3) (q := 0) (D := D) (g := pos [n + 3, n + 4]) (by rw [hg, if_neg (by omega), if_pos rfl])]
   have b0 : blk (h10 S n D X) (n + 3) = fV (n + 3) D := by
    rw [h10_eq, blk, yG, yF (by rw [S.len, hn]; omega), S.len, hn, show n + 3 - (3 + n) = 0 by omega]; rfl
   have b1 : blk (h10 S n D X) (n + 4) = fC D := by
    rw [h10_eq, blk, yG, yF (by rw [S.len, hn]; omega), S.len, hn, show n + 4 - (3 + n) = 1 by omega]; rfl
   rw [yI, yI, vB, b0, b1]; rfl
  rw [e1, hC]; exact ok30 D [a, c] hz hn1 hl
 ·rintro r h' ⟨rfl, rfl⟩ _
  have hkb : ∀ l : List Blk, l.map (killB []) = l := killB_nil
  have hlen' : (St.h ⟨e, h10 S n D X, b⟩).length = n + 5 + X.length := hlen
  have hbq : ∀ j, back [n + 3, n + 4] (n + 5 + X.length) (j + 2) = some (n + 5 + X.length + j) := fun j => by simp [back]
  have e2 : (fs 0 D).map (renB (back [n + 3, n + 4] (n + 5 + X.length))) = fs (n + 3) D := fs_ren (by simp [back])
  have e4 : (fs 3 (crD D [a, c])).map (renB (back [n + 3, n + 4] (n + 5 + X.length))) = fs (n + 5 + X.length + 1) (crD D [a, c]) := fs_ren (by
   have := hbq 2
   rw [show 3 + 1 = 2 + 2 from rfl, this])
  have e5 : setAll [n + 3, n + 4] (fs (n + 3) D ++ .dead :: fs (n + 5 + X.length + 1) (crD D [a, c])) (h10 S n D X) = h10 S n D (X ++ .dead :: fs (n + 5 + X.length + 1) (crD D [a, c])) := by
   have := setAll_range2 (A := S.bs 0) (X := fs (n + 3) D) (Y := fs (n + 3) D) (B := X) (Z := .dead :: fs (n + 5 + X.length + 1) (crD D [a, c])) rfl
   rw [S.len, hn, fs_len] at this
   have hr : yB (3 + n) 2 = [n + 3, n + 4] := by
    rw [show 3 + n = n + 3 by omega]; rfl
   rw [hr, ← h10_eq, ← h10_eq] at this
   exact this
  have e6 : ren (back [n + 3, n + 4] (n + 5 + X.length)) (.ptr 3 0 0) = .ptr (n + 5 + X.length + 1) 0 0 := by
   simp only [ren]
   have := hbq 1
   rw [show 3 = 1 + 2 from rfl, this]
  simp only [List.filterMap_nil, hkb, killE_nil, hlen', yE, yI, e2, e4, e6]
  rw [show renB (back [n + 3, n + 4] (n + 5 + X.length)) Blk.dead = .dead from rfl, e5, hfx]
  exact ⟨keep10 hn, h3⟩
end
set_option maxRecDepth 20000
theorem kills_map {l : List V} {M : List Nat} : kills M l = l.map (kill M) := by
 induction l with
 | nil => rfl
 | cons x r ih => simp only [kills, yI, ih]
theorem ents_killp {p : Nat} {D : Dk} {L : List (Nat × Nat)} {M : List Nat} (hM : ∀ e ∈ L, p + 3 + e.1 ∉ M) : (ents p D L).map (fun e => (e.1, kill M e.2.1, e.2.2)) = ents p D L := by
 unfold ents
 rw [vC]
 refine vD fun e he => ?_
 simp only [Function.comp, kill, if_neg (hM e he)]
set_option maxRecDepth 20000
set_option maxRecDepth 20000
theorem leH_pre {X Y : List Blk} (h : leH X Y) : ∀ {T : List Blk}, leH (T ++ X) (T ++ Y)
 | [] => h
 | x :: T => ⟨leB_refl x, leH_pre h⟩
set_option maxRecDepth 20000
set_option maxRecDepth 20000
theorem dk_killM {S : MS} {p : Nat} {M : List Nat} (hM : ∀ j, j < 3 + S.n → p + j ∉ M) : (S.bs p).map (killB M) = S.bs p := by
 have h1 := hM 1 (by omega)
 have h2 := hM 2 (by omega)
 show killB M (dkV p S.D) :: killB M (dkC S.D) :: killB M (.map (ents p S.D S.L) S.c) :: (dkT S.D).map (killB M) = _
 rw [dkT_kill]
 have e1 : killB M (dkV p S.D) = dkV p S.D := by
  simp only [dkV, killB, kills, kill, if_neg h1, if_neg h2]
 have e2 : killB M (.map (ents p S.D S.L) S.c) = .map (ents p S.D S.L) S.c := by
  rw [killB, ents_killp fun e he => ?_]
  have := ((S.ok.key e.1).1 (vI he)).1
  have h3 := hM (3 + e.1) (by show _ < 3 + S.D.n; omega)
  rwa [← vE] at h3
 rw [e1, e2]; rfl
section
end
set_option maxRecDepth 20000
theorem h10_bs {S : MS} {n : Nat} {D : Dk} {X : List Blk} : h10 S n D X = S.bs 0 ++ (fs (n + 3) D ++ X) := by
 unfold h10
 rw [bs_eq]; rfl
theorem h10_wf {S : MS} {n : Nat} {D : Dk} {X : List Blk} (hn : S.n = n) (hX : wfB (h10 S n D X) X) : wfB (h10 S n D X) (h10 S n D X) := by
 rw [h10_bs] at hX ⊢
 have h1 : wfB (S.bs 0 ++ (fs (n + 3) D ++ X)) (fs (n + 3) D ++ X) := fs_wf (A := S.bs 0) (B := X) (by rw [S.len, hn]; omega) hX
 have := S.wf (p := 0) [] (fs (n + 3) D ++ X) rfl (C := fs (n + 3) D ++ X) h1
 exact this
theorem ret10 {S S' : MS} {m n : Nat} {e : Env} {b : Nat} {X : List Blk} (hn : S'.n = n) (hG : G10 S' (m + 1)) (h6 : get e 6 = .ptr 0 0 0) (h7 : get e 7 = .ptr (n + 3) 0 0) (h8 : get e 8 = .b true) : retP [0, 1, 2, n + 3, n + 4] (n + 5) [LRes.tmp 6, LRes.tmp 7, LRes.tmp 8] (r10 S m n) ⟨e, h10 S' n S'.D X, b⟩ := by
 rw [retP_eq]
 simp only [resP, List.reverse_cons, List.reverse_nil, yW, yS, tupV, h6, h7, h8]
 refine ⟨h10 S' n S'.D [], ⟨?_, keep10 hn, ?_, ?_, h10_wf hn trivial⟩, S', ⟨hn, hG⟩, .inl ⟨rfl, ?_⟩⟩
 ·rw [h10_bs, h10_bs, yX, ← yJ]
  exact leH_app
 ·rw [h10_bs]
  simp only [yD, S'.len, hn, fs_len, yK]; omega
 ·have := keep10 (S := S') (n := n) (D := S'.D) (X := []) hn
  exact ⟨this.1, this.2.2.2.1, trivial, trivial⟩
 ·rw [h10_bs, yX]
theorem finS {S S' : MS} {m n : Nat} {e : Env} {b : Nat} {x : Op} {N : St → Prop} {Y : Nat → St → Prop} (hn : S'.n = n) (hG : G10 S' (m + 1)) (h0 : get e 0 = .ptr 0 0 0) (h1 : get e 1 = .ptr (n + 3) 0 0) (hE : killE (yB 3 n) e = e) (hm : m ≤ 900 := by omega) :
  aw (cxN Try.prog [0, 1, 2, n + 3, n + 4]) c10F N Y (retP [0, 1, 2, n + 3, n + 4] (n + 5) [LRes.tmp 6, LRes.tmp 7, LRes.tmp 8] (r10 S m n)) ⟨e, h10 S' n S'.D [.var x.enc], b⟩ := by
 have hn1 := hG.n1
 rw [hn] at hn1
 refine fin10 (p := 0) (q := n + 3) (n := n) (S := S') (A1 := []) (B1 := fs (n + 3) S'.D ++ [.var x.enc]) (A2 := S'.bs 0) (B2 := [.var x.enc]) hn ?_ rfl ?_ ?_ (by omega) rfl ?_ ?_ (keep10 hn) h0 h1 (by simpa using hE) hn1 (fun k => by have := hG.ln k; omega) fun e b h6 h7 h8 => ret10 hn hG h6 h7 h8
 ·rw [h10_eq]; rfl
 ·rw [h10_eq]
 ·rw [S'.len, hn]; omega
 ·rw [yE, fs_kill (by rw [yC]; omega)]; rfl
 ·intro k hk
  simp at hk
  omega
theorem h10_get {S : MS} {n : Nat} {D : Dk} {X : List Blk} (hn : S.n = n) {j : Nat} : (h10 S n D X)[n + (j + 5)]? = X[j]? := by
 rw [h10_eq, ← yJ, yF (by simp only [yD, S.len, hn, fs_len]; omega)]
 congr 1
 simp only [yD, S.len, hn, fs_len]; omega
theorem h10_set {S : MS} {n : Nat} {D : Dk} {X : List Blk} {B : Blk} (hn : S.n = n) {j : Nat} : (h10 S n D X).set (n + (j + 5)) B = h10 S n D (X.set j B) := by
 rw [h10_eq, ← yJ, yU _ _ (by simp only [yD, S.len, hn, fs_len]; omega), yJ, h10_eq]
 congr 3
 simp only [yD, S.len, hn, fs_len]; omega
def xC (Y : List Blk) (n : Nat) (S2 : MS) : List Blk := Y ++ (.dead :: .dead :: .dead :: (S2.bs (n + 11) ++ .dead :: fs (n + n + 15) S2.D))
theorem h10_xC {S S2 : MS} {n : Nat} {y1 y2 y3 : Blk} : h10 S n S.D (xC [y1, y2, y3] n S2) = (S.bs 0 ++ (fs (n + 3) S.D ++ [y1, y2, y3, .dead, .dead, .dead])) ++ (S2.bs (n + 11) ++ .dead :: fs (n + n + 15) S2.D) := by
 rw [h10_eq]
 simp [xC]
theorem rawC_wf {S S2 : MS} {n : Nat} (hn : S.n = n) (hn2 : S2.n = n) : wfB ((S.bs 0 ++ (fs (n + 3) S.D ++ yA 6 Blk.dead)) ++ (S2.bs (n + 11) ++ Blk.dead :: fs (n + n + 15) S2.D)) ((S.bs 0 ++ (fs (n + 3) S.D ++ yA 6 Blk.dead)) ++ (S2.bs (n + 11) ++ Blk.dead :: fs (n + n + 15) S2.D)) := by
 generalize hH : (S.bs 0 ++ (fs (n + 3) S.D ++ yA 6 Blk.dead)) ++ (S2.bs (n + 11) ++ Blk.dead :: fs (n + n + 15) S2.D) = H
 have hA : (S.bs 0 ++ (fs (n + 3) S.D ++ yA 6 Blk.dead)).length = n + 11 := by
  simp only [yD, S.len, hn, fs_len, yH]; omega
 have hA2 : (S.bs 0 ++ (fs (n + 3) S.D ++ yA 6 Blk.dead) ++ (S2.bs (n + 11) ++ [Blk.dead])).length = n + n + 15 := by
  rw [yD, hA]
  simp only [yD, S2.len, hn2, yQ, yK]; omega
 have w1 : wfB H (fs (n + n + 15) S2.D) := by
  have := fs_wf (A := S.bs 0 ++ (fs (n + 3) S.D ++ yA 6 Blk.dead) ++ (S2.bs (n + 11) ++ [Blk.dead])) (B := []) (C := []) (D := S2.D) (p := n + n + 15) hA2.symm trivial
  have e : S.bs 0 ++ (fs (n + 3) S.D ++ yA 6 Blk.dead) ++ (S2.bs (n + 11) ++ [Blk.dead]) ++ (fs (n + n + 15) S2.D ++ []) = H := by
   rw [← hH]; simp
  rw [e] at this
  simpa using this
 have w2 : wfB H (S2.bs (n + 11) ++ Blk.dead :: fs (n + n + 15) S2.D) := by
  have := S2.wf (p := n + 11) (S.bs 0 ++ (fs (n + 3) S.D ++ yA 6 Blk.dead)) (Blk.dead :: fs (n + n + 15) S2.D) hA.symm (C := .dead :: fs (n + n + 15) S2.D) (by rw [hH]; exact w1)
  rwa [hH] at this
 have w3 : wfB H (yA 6 Blk.dead ++ (S2.bs (n + 11) ++ Blk.dead :: fs (n + n + 15) S2.D)) := w2
 have w4 : wfB H (fs (n + 3) S.D ++ (yA 6 Blk.dead ++ (S2.bs (n + 11) ++ Blk.dead :: fs (n + n + 15) S2.D))) := by
  have := fs_wf (A := S.bs 0) (B := yA 6 Blk.dead ++ (S2.bs (n + 11) ++ Blk.dead :: fs (n + n + 15) S2.D)) (C := yA 6 Blk.dead ++ (S2.bs (n + 11) ++ Blk.dead :: fs (n + n + 15) S2.D)) (D := S.D) (p := n + 3) (by rw [S.len, hn]; omega) (by
   have e : S.bs 0 ++ (fs (n + 3) S.D ++ (yA 6 Blk.dead ++ (S2.bs (n + 11) ++ Blk.dead :: fs (n + n + 15) S2.D))) = H := by rw [← hH]; simp
   rw [e]; exact w3)
  have e : S.bs 0 ++ (fs (n + 3) S.D ++ (yA 6 Blk.dead ++ (S2.bs (n + 11) ++ Blk.dead :: fs (n + n + 15) S2.D))) = H := by rw [← hH]; simp
  rwa [e] at this
 have w5 := S.wf (p := 0) [] (fs (n + 3) S.D ++ (yA 6 Blk.dead ++ (S2.bs (n + 11) ++ Blk.dead :: fs (n + n + 15) S2.D))) rfl (C := fs (n + 3) S.D ++ (yA 6 Blk.dead ++ (S2.bs (n + 11) ++ Blk.dead :: fs (n + n + 15) S2.D))) (by
  have e : [] ++ (S.bs 0 ++ (fs (n + 3) S.D ++ (yA 6 Blk.dead ++ (S2.bs (n + 11) ++ Blk.dead :: fs (n + n + 15) S2.D)))) = H := by rw [← hH]; simp
  rw [e]; exact w4)
 have e : [] ++ (S.bs 0 ++ (fs (n + 3) S.D ++ (yA 6 Blk.dead ++ (S2.bs (n + 11) ++ Blk.dead :: fs (n + n + 15) S2.D)))) = H := by rw [← hH]; simp
 rw [e] at w5
 have e2 : S.bs 0 ++ (fs (n + 3) S.D ++ (yA 6 Blk.dead ++ (S2.bs (n + 11) ++ Blk.dead :: fs (n + n + 15) S2.D))) = H := by rw [← hH]; simp
 rwa [e2] at w5
theorem finC {S S2 : MS} {m n : Nat} {e : Env} {b : Nat} {y1 y2 y3 : Blk} {N : St → Prop} {Y : Nat → St → Prop} (hn : S.n = n) (hn2 : S2.n = n) (hG : G10 S2 (m + 1)) (hy : ∀ M : List Nat, [y1, y2, y3].map (killB M) = [y1, y2, y3]) (h0 : get e 0 = .ptr (n + 11) 0 0) (h1 : get e 1 = .ptr (n + n + 15) 0 0) (hE : killE (yB (n + 11 + 3) n) e = e) (hm : m ≤ 900) :
  aw (cxN Try.prog [0, 1, 2, n + 3, n + 4]) c10F N Y (retP [0, 1, 2, n + 3, n + 4] (n + 5) [LRes.tmp 6, LRes.tmp 7, LRes.tmp 8] (r10 S m n)) ⟨e, h10 S n S.D (xC [y1, y2, y3] n S2), b⟩ := by
 have hn1 := hG.n1
 rw [hn2] at hn1
 have hA : (S.bs 0 ++ (fs (n + 3) S.D ++ [y1, y2, y3, .dead, .dead, .dead])).length = n + 11 := by
  simp only [yD, S.len, hn, fs_len, yQ, yK]; omega
 have hL : ∀ X : List Blk, leH (S.bs 0 ++ (fs (n + 3) S.D ++ [y1, y2, y3, .dead, .dead, .dead]) ++ X) (S.bs 0 ++ (fs (n + 3) S.D ++ yA 6 Blk.dead) ++ X) := fun X => by
  rw [yJ, yJ, yJ, yJ]
  refine leH_pre (T := S.bs 0) (leH_pre (T := fs (n + 3) S.D) ?_)
  exact ⟨trivial, trivial, trivial, trivial, trivial, trivial, leH_refl _⟩
 refine fin10 (p := n + 11) (q := n + n + 15) (n := n) (S := S2) (A1 := S.bs 0 ++ (fs (n + 3) S.D ++ [y1, y2, y3, .dead, .dead, .dead])) (B1 := .dead :: fs (n + n + 15) S2.D) (A2 := (S.bs 0 ++ (fs (n + 3) S.D ++ [y1, y2, y3, .dead, .dead, .dead])) ++ (S2.bs (n + 11) ++ [Blk.dead])) (B2 := []) hn2 ?_ hA ?_ ?_ (by omega) ?_ ?_ ?_ ?_ h0 h1 hE hn1 (fun k => by have := hG.ln k; omega) fun e b h6 h7 h8 => ?_
 ·exact h10_xC
 ·rw [h10_xC]; simp
 ·rw [yD, hA]
  simp only [yD, S2.len, hn2, yQ, yK]; omega
 ·have h2 := dk_killM (S := S) (p := 0) (M := yB (n + 11 + 3) n) fun j hj => by rw [yC]; omega
  have h3 := hy (yB (n + 11 + 3) n)
  rw [yE, yE, h2, fs_kill (by rw [yC]; omega)]
  have h4 : [y1, y2, y3, .dead, .dead, .dead].map (killB (yB (n + 11 + 3) n)) = [y1, y2, y3, .dead, .dead, .dead] := by
   show List.map _ ([y1, y2, y3] ++ [.dead, .dead, .dead]) = _
   rw [yE, h3]; rfl
  rw [h4]
 ·rw [yI, fs_kill (by rw [yC]; omega)]; rfl
 ·intro k hk
  simp at hk
  omega
 ·exact keep10 hn
 ·rw [retP_eq]
  simp only [resP, List.reverse_cons, List.reverse_nil, yW, yS, tupV, h6, h7, h8]
  refine ⟨(S.bs 0 ++ (fs (n + 3) S.D ++ yA 6 Blk.dead)) ++ (S2.bs (n + 11) ++ .dead :: fs (n + n + 15) S2.D), ⟨?_, ?_, ?_, ?_, rawC_wf hn hn2⟩, S2, ⟨hn2, hG⟩, .inr ⟨rfl, ?_⟩⟩
  ·rw [h10_xC]; exact hL _
  ·have h2 := keep10 (S := S) (n := n) (D := S.D) (X := yA 6 Blk.dead ++ (S2.bs (n + 11) ++ .dead :: fs (n + n + 15) S2.D)) hn
   rw [h10_eq] at h2
   have e : S.bs 0 ++ (fs (n + 3) S.D ++ (yA 6 Blk.dead ++ (S2.bs (n + 11) ++ .dead :: fs (n + n + 15) S2.D))) = (S.bs 0 ++ (fs (n + 3) S.D ++ yA 6 Blk.dead)) ++ (S2.bs (n + 11) ++ .dead :: fs (n + n + 15) S2.D) := by simp
   rwa [e] at h2
  ·simp only [yD, S.len, hn, fs_len]; omega
  ·have l1 : liveP ((S.bs 0 ++ (fs (n + 3) S.D ++ yA 6 Blk.dead)) ++ (S2.bs (n + 11) ++ .dead :: fs (n + n + 15) S2.D)) (n + 11) := by
    have h2 : ((S.bs 0 ++ (fs (n + 3) S.D ++ yA 6 Blk.dead)) ++ (S2.bs (n + 11) ++ .dead :: fs (n + n + 15) S2.D))[n + 11]? = some (dkV (n + 11) S2.D) := by
     rw [yF (by simp only [yD, S.len, hn, fs_len, yH]; omega)]
     have : n + 11 - (S.bs 0 ++ (fs (n + 3) S.D ++ yA 6 Blk.dead)).length = 0 := by
      simp only [yD, S.len, hn, fs_len, yH]; omega
     rw [this]; rfl
    unfold liveP
    rw [h2]; trivial
   have l2 : liveP ((S.bs 0 ++ (fs (n + 3) S.D ++ yA 6 Blk.dead)) ++ (S2.bs (n + 11) ++ .dead :: fs (n + n + 15) S2.D)) (n + n + 15) := by
    have h2 : ((S.bs 0 ++ (fs (n + 3) S.D ++ yA 6 Blk.dead)) ++ (S2.bs (n + 11) ++ .dead :: fs (n + n + 15) S2.D))[n + n + 15]? = some (fV (n + n + 15) S2.D) := by
     rw [yF (by simp only [yD, S.len, hn, fs_len, yH]; omega)]
     have : n + n + 15 - (S.bs 0 ++ (fs (n + 3) S.D ++ yA 6 Blk.dead)).length = n + 4 := by
      simp only [yD, S.len, hn, fs_len, yH]; omega
     rw [this, yF (by rw [S2.len, hn2]; omega), S2.len, hn2, show n + 4 - (3 + n) = 1 by omega]; rfl
    unfold liveP
    rw [h2]; trivial
   exact ⟨l1, l2, trivial, trivial⟩
  ·simp
theorem e15 {S : MS} {n : Nat} (hn : S.n = n) {keep : List Int} {y1 y2 y3 : Blk} : n + 5 + (y1 :: y2 :: y3 :: .dead :: .dead :: .dead :: (crE S keep).bs (n + 11)).length + 1 = n + n + 15 := by
 simp only [yQ, (crE S keep).len, crE_n, hn]; omega
theorem plain_ren' {l : List V} (h : ∀ x ∈ l, ∃ u, x = .v u) {g : Nat → Option Nat} : rens g l = l := (plain_len h (H := []) (g := fun _ => none)).2.2 g
theorem ok10 (S : MS) (x : Op) (m n : Nat) (hn : S.n = n) (hG : G10 S m) (hm : m ≤ 900) (hb : x.b ≤ 9223372036854775807) : OkN Try.prog 10 [.ptr 0 0 0, .ptr (n + 3) 0 0, .agg x.enc] (S.bs 0 ++ fs (n + 3) S.D) (yB 3 n) (r10 S m n) := by
 have hlen : (S.bs 0 ++ fs (n + 3) S.D).length = n + 5 := by rw [yD, S.len, hn, fs_len]; omega
 have hkp := keep10 (S := S) (n := n) (D := S.D) (X := []) hn
 have h0 : S.bs 0 ++ fs (n + 3) S.D = h10 S n S.D [] := by rw [h10_bs, yX]
 refine okN_of pol [0, 1, 2, n + 3, n + 4] lw10 (by simp) (by rw [h0]; exact hkp) (fun k hk hmv => ?_) ?_
 ·rw [hlen] at hk
  have : ¬ (3 ≤ k ∧ k < 3 + n) := fun h2 => hmv (yC.2 h2)
  have h3 : k = 0 ∨ k = 1 ∨ k = 2 ∨ k = n + 3 ∨ k = n + 4 := by omega
  simp [h3]
 rw [hlen, h0]
 have hT : (dkT S.D).length = n := S.T_len.trans hn
 have hn1 : 1 ≤ n ∧ n ≤ 65536 := by rw [← hn]; exact hG.n1
 have hst : S.D.steps ≤ 100000 := by have := hG.st; omega
 have hln : ∀ k, (S.D.op k).length ≤ 1000 := fun k => by have := hG.ln k; omega
 have hsn : S.D.cells.length = n := hn
 have hsec : ∀ (a b : Int) (H : List Blk) (g : Nat → Option Nat), lendsOk H g [.i a, .agg (filledS b).enc] ∧ wkL [.i a, .agg (filledS b).enc] (lends H g [.i a, .agg (filledS b).enc]) := fun a b H g => by
  obtain ⟨p1, p2, _⟩ := plain_len (sec_plain (s := filledS b)) (H := H) (g := g)
  exact ⟨⟨trivial, p1, trivial⟩, rfl, p2, trivial⟩
 have hsr : ∀ b g, ren g (.agg (filledS b).enc) = .agg (filledS b).enc := fun b g => congrArg V.agg ((plain_len (sec_plain (s := filledS b)) (H := []) (g := fun _ => none)).2.2 _)
 have hxk : [Blk.var x.enc].map (killB (yB 3 n)) = [Blk.var x.enc] := rfl
 have k5 : (3 ≤ n + 5 ∧ n + 5 < 3 + n) = False := eq_false (by omega)
 have k3 : (3 ≤ n + 3 ∧ n + 3 < 3 + n) = False := eq_false (by omega)
 have k00 : (3 ≤ 0 ∧ 0 < 3 + n) = False := eq_false (by omega)
 have hkx : kills (yB 3 n) x.enc = x.enc := rfl
 have hbe : ∀ y : Int, (y == y) = true := fun y => by simp
 rw [c10_eq] at *
 unfold c10P h10
 simp -implicitDefEqProofs only [rX,↓rY,rdK,ofConst,cells?,↓reduceIte,Nat.reduceEqDiff,Nat.reduceAdd,reduceCtorEq,freshP,litsP,isD,Nat.reduceLT,cxN,dkV,dkC,dkT_app,n61,args0,hT,gn hT,gn0 hT,sn hT,sn0 hT,opn_0,opn_1,opn_2,yR,yL]
 simp only [br, decide_eq_true_eq, decide_eq_false_iff_not, beq_iff_eq, beq_eq_false_iff_ne]
 refine ⟨fun k0 => ?_, fun k0 => ⟨fun k1 => ?_, fun k1 => ⟨fun k2 => ?_, fun k2 => ⟨fun k3' => ?_, fun k3' => ⟨fun k4 => ?_, fun k4 => ⟨fun k5' => ?_, fun k5' => ⟨fun k6 => ?_, fun k6 => ?_⟩⟩⟩⟩⟩⟩⟩
 ·refine call_is (ok23 x.b) ⟨⟨trivial, trivial⟩, rfl, trivial⟩ (hsr _ _) (keep10 hn) ?_
  simp -implicitDefEqProofs only [rX,↓reduceIte,Nat.reduceEqDiff]
  show callP _ 22 _ ⟨_, h10 S n S.D [.var x.enc], _⟩ _
  refine call_ha (xs := [.i x.a, .agg (filledS x.b).enc]) hn (ok22 S x.a (filledS x.b) hst hG.af fun k => by have := hln k; omega) rfl ?_ (hsec _ _) hxk ?_ ?_
  ·intro k hk; simp at hk; omega
  ·simp only [killE, kill, kills, yC, k5, k3, k00, if_false, hkx, sec_kill]
  rintro r S1 hn1' ⟨hD1, rfl⟩
  refine ⟨fun _ => rfl, ?_⟩
  simp -implicitDefEqProofs only [rX,↓reduceIte,Nat.reduceEqDiff]
  refine call_is (ok23 x.b) ⟨⟨trivial, trivial⟩, rfl, trivial⟩ (hsr _ _) (keep10 hn1') ?_
  simp -implicitDefEqProofs only [rX,↓reduceIte,Nat.reduceEqDiff]
  refine call_hb (xs := [.i x.a, .agg (filledS x.b).enc]) hn1' (ok27 S.D x.a (filledS x.b) hst hG.af hln S.ok.len) rfl ?_ (hsec _ _) ?_
  ·intro k hk; simp at hk
  rintro r D2 hn2 ⟨hD2, rfl⟩
  refine ⟨fun _ => rfl, ?_⟩
  rw [hD2, ← hD1]
  simp -implicitDefEqProofs only [rX,↓rY,↓reduceIte,Nat.reduceEqDiff,hbe]
  exact ret10 hn1' (hG.wr (hn1'.trans hn.symm) hD1) rfl rfl rfl
 ·show callP _ 21 _ ⟨_, h10 S n S.D [.var x.enc], _⟩ _
  refine call_ha (xs := []) hn (ok21 S hst hG.af) rfl ?_ (fun _ _ => ⟨trivial, trivial⟩) hxk ?_ ?_
  ·intro k hk; simp at hk
  ·simp only [killE, kill, kills, yC, k5, k3, k00, if_false, hkx, sec_kill]
  rintro r S1 hn1' ⟨hD1, rfl⟩
  refine ⟨fun _ => rfl, ?_⟩
  simp -implicitDefEqProofs only [rX,↓reduceIte,Nat.reduceEqDiff,reduceCtorEq]
  have hse := sy_eq (S := S) (by omega)
  refine call_hb (xs := []) hn1' (ok28 S.D hst hG.af hln (by omega)) rfl ?_ (fun _ _ => ⟨trivial, trivial⟩) ?_
  ·intro k hk; simp at hk
  rintro r D2 hn2 ⟨hD2, rfl⟩
  refine ⟨fun _ => rfl, ?_⟩
  rw [hD2, hse.1, hse.2, ← hD1]
  simp -implicitDefEqProofs only [rX,↓rY,↓reduceIte,Nat.reduceEqDiff,hbe]
  exact ret10 hn1' (hG.sy (hn1'.trans hn.symm) hD1) rfl rfl rfl
 ·show callP _ 11 _ ⟨_, h10 S n S.D [.var x.enc, .dead], _⟩ _
  refine call_ha (xs := [.i x.a]) hn (ok11 S x.a) rfl ?_ (fun _ _ => ⟨⟨trivial, trivial⟩, rfl, trivial⟩) rfl ?_ ?_
  ·intro k hk; simp at hk
  ·simp only [killE, kill, kills, yC, k5, k3, k00, if_false, hkx, sec_kill]
  rintro r S1 hn1' ⟨hS1, rfl⟩
  subst S1
  refine ⟨rd_ren, ?_⟩
  unfold h10
  simp -implicitDefEqProofs only [rX,↓rY,ofConst,cells?,splice,↓reduceIte,Nat.reduceEqDiff,Nat.reduceAdd,reduceCtorEq,freshP,arr64,sec_len,sec_C,dkV,dkC,sec_drop,dkT_app,n61,hT,gn hT,gn0 hT,sn hT,sn0 hT,opn_1,yR,yL]
  show callP _ 12 _ ⟨_, h10 S n S.D [.var x.enc, .var (S.D.rd x.a).1.enc, .dead], _⟩ _
  refine call_hb (xs := [.i x.a]) hn (ok12 S.D x.a hln) rfl ?_ (fun _ _ => ⟨⟨trivial, trivial⟩, rfl, trivial⟩) ?_
  ·intro k hk; simp at hk
  rintro r D2 hn2 ⟨rfl, rfl⟩
  refine ⟨fun g => congrArg V.agg ?_, ?_⟩
  ·exact plain_ren' fun y hy => by
    rcases yY.1 hy with h | h
    ·exact sec_plain y h
    ·simp at h; exact ⟨_, h⟩
  unfold h10 gotV
  have es : ∀ {s t : Sec} {K : Bool → Prop}, (optK (aggC (.agg s.enc)) fun xs => optK (aggC (.agg t.enc)) fun ys => eqFs xs ys ((yB 0 64).map fun i => (i, .int .u8)) K) = K (decide (s = t)) := eqA_sec
  have gt64 : ∀ (s : Sec) (q : Int), yT 64 (s.enc ++ [V.i q]) = s.enc := fun s q => by rw [vJ (by simp [sec_len]), sec_take]
  have g64 : ∀ (s : Sec) (q : Int), (s.enc ++ [V.i q])[64]? = some (.i q) := fun s q => by rw [yF (by simp [sec_len])]; simp [sec_len]
  simp -implicitDefEqProofs only [rX,↓rY,ofConst,cells?,splice,↓reduceIte,Nat.reduceEqDiff,Nat.reduceAdd,reduceCtorEq,freshP,Nat.reduceLeDiff,sec_len,sec_take,dkV,dkC,n61,hT,gn hT,gn0 hT,sn hT,sn0 hT,gz_arr,gz_len,gz_d65,got_C,gt64,g64,es,hbe,yR,yL,decide_true]
  show retP _ _ _ _ ⟨_, h10 S n S.D [.var x.enc, .var (S.D.rd x.a).1.enc, .var ((S.D.rd x.a).1.enc ++ [.i (S.D.rd x.a).2])], _⟩
  exact ret10 hn hG.mono rfl rfl rfl
 ·show callP _ 20 _ ⟨_, h10 S n S.D [.var x.enc], _⟩ _
  refine call_ha (xs := [.i x.b]) hn (ok20 S x.b) rfl ?_ (fun _ _ => ⟨⟨trivial, trivial⟩, rfl, trivial⟩) hxk ?_ ?_
  ·intro k hk; simp at hk
  ·simp only [killE, kill, kills, yC, k5, k3, k00, if_false, hkx, sec_kill]
  rintro r S1 hn1' ⟨hS1, rfl⟩
  refine ⟨fun _ => rfl, ?_⟩
  unfold h10
  have hT1 : (dkT S1.D).length = n := S1.T_len.trans hn1'
  simp -implicitDefEqProofs only [rX,↓rY,↓reduceIte,Nat.reduceEqDiff,Nat.reduceAdd,reduceCtorEq,dkV,dkC,hT1,gn hT1,gn0 hT1,sn hT1,sn0 hT1,opn_2,yL]
  show callP _ 29 _ ⟨_, h10 S1 n S.D [.var x.enc], _⟩ _
  refine call_hb (xs := [.i x.b]) hn1' (ok29 S.D x.b) rfl ?_ (fun _ _ => ⟨⟨trivial, trivial⟩, rfl, trivial⟩) ?_
  ·intro k hk; simp at hk
  rintro r D2 hn2 ⟨hD2, rfl⟩
  refine ⟨fun _ => rfl, ?_⟩
  have hD3 : D2 = S1.D := by rw [hD2, hS1]; rfl
  rw [hD3]
  have hG1 : G10 S1 (m + 1) := by rw [hS1]; exact hG.arm hb
  simp -implicitDefEqProofs only [rX]
  refine finS hn1' hG1 rfl rfl ?_
  simp [killE, kill, kills, yC, opn_kill]
  omega
 ·refine ⟨⟨?_, ?_⟩, ?_⟩
  ·show callP _ 14 _ ⟨_, h10 S n S.D [.var x.enc, .arr 1 [[.i x.a], [.i x.b]], .dead], _⟩ _
   refine call_hc (cx := { cxN Try.prog [0, 1, 2, n + 3, n + 4] with bn := [n + 5, n + 5, n + 5, n + 5] }) hn hn1 hln rfl rfl rfl ?_ (gn (j := 3) hT) (by omega) rfl ?_ ?_
   ·intro k hk; simp at hk; omega
   ·simp [killE, kill, kills, yC, opn_kill]
    omega
   simp -implicitDefEqProofs only [rX,↓rY,cells?,↓reduceIte,Nat.reduceEqDiff,Nat.reduceAdd,freshP,litsP,isD,Nat.reduceLT,n61,h10_get hn,h10_set hn,yR,yL]
   refine call_hd (cx := cxN Try.prog [0, 1, 2, n + 3, n + 4]) hn hG.n1 hln hG.bz rfl rfl (fun k hk => absurd hk vF) (h10_get hn (j := 2)) (by omega) ?_
   rw [e15 hn]
   simp -implicitDefEqProofs only [rX,↓rY,ofConst,↓reduceIte,Nat.reduceEqDiff,reduceCtorEq]
   refine finC (S2 := crE S [x.a, x.b]) hn (crE_n.trans hn) hG.crash (fun _ => rfl) rfl rfl ?_ hm
   simp [killE, kill, kills, yC, opn_kill]
   try omega
  ·show callP _ 14 _ ⟨_, h10 S n S.D [.var x.enc, .arr 1 [[.i x.a], [.i x.b]], .arr 1 [[.i x.a], [.i x.b]]], _⟩ _
   refine call_hc (cx := { cxN Try.prog [0, 1, 2, n + 3, n + 4] with bn := [n + 5, n + 5, n + 5, n + 5] }) hn hn1 hln rfl rfl rfl ?_ (gn (j := 3) hT) (by omega) rfl ?_ ?_
   ·intro k hk; simp at hk; omega
   ·simp [killE, kill, kills, yC, opn_kill]
    omega
   simp -implicitDefEqProofs only [rX,↓reduceIte,Nat.reduceEqDiff,h10_get hn,h10_set hn]
   refine call_hd (cx := cxN Try.prog [0, 1, 2, n + 3, n + 4]) hn hG.n1 hln hG.bz rfl rfl (fun k hk => absurd hk vF) (h10_get hn (j := 2)) (by omega) ?_
   rw [e15 hn]
   simp -implicitDefEqProofs only [rX,↓rY,ofConst,↓reduceIte,Nat.reduceEqDiff,reduceCtorEq]
   refine finC (S2 := crE S [x.a, x.b]) hn (crE_n.trans hn) hG.crash (fun _ => rfl) rfl rfl ?_ hm
   simp [killE, kill, kills, yC, opn_kill]
   try omega
  ·show callP _ 14 _ ⟨_, h10 S n S.D [.var x.enc, .arr 1 [[.i x.a], [.i x.b]], .arr 1 [[.i x.a], [.i x.b]]], _⟩ _
   refine call_hc (cx := { cxN Try.prog [0, 1, 2, n + 3, n + 4] with bn := [n + 5, n + 5, n + 5, n + 5] }) hn hn1 hln rfl rfl rfl ?_ (gn (j := 3) hT) (by omega) rfl ?_ ?_
   ·intro k hk; simp at hk; omega
   ·simp [killE, kill, kills, yC, opn_kill]
    omega
   simp -implicitDefEqProofs only [rX,↓reduceIte,Nat.reduceEqDiff,h10_get hn,h10_set hn]
   refine call_hd (cx := cxN Try.prog [0, 1, 2, n + 3, n + 4]) hn hG.n1 hln hG.bz rfl rfl (fun k hk => absurd hk vF) (h10_get hn (j := 2)) (by omega) ?_
   rw [e15 hn]
   simp -implicitDefEqProofs only [rX,↓rY,ofConst,↓reduceIte,Nat.reduceEqDiff,reduceCtorEq]
   refine finC (S2 := crE S [x.a, x.b]) hn (crE_n.trans hn) hG.crash (fun _ => rfl) rfl rfl ?_ hm
   simp [killE, kill, kills, yC, opn_kill]
   try omega
 ·show callP _ 24 _ ⟨_, h10 S n S.D [.var x.enc], _⟩ _
  refine call_ha (xs := [.i x.a, .i x.b]) hn (ok24 S x.a x.b) rfl ?_ (fun _ _ => ⟨⟨trivial, trivial, trivial⟩, rfl, rfl, trivial⟩) hxk ?_ ?_
  ·intro k hk; simp at hk; omega
  ·simp only [killE, kill, kills, yC, k5, k3, k00, if_false, hkx, sec_kill]
  rintro r S1 hn1' ⟨hS1, rfl⟩
  refine ⟨fun _ => rfl, ?_⟩
  simp -implicitDefEqProofs only [rX,↓reduceIte,Nat.reduceEqDiff]
  refine call_hb (xs := [.i x.a, .i x.b]) hn1' (ok31 S.D x.a x.b hG.bz) rfl ?_ (fun _ _ => ⟨⟨trivial, trivial, trivial⟩, rfl, rfl, trivial⟩) ?_
  ·intro k hk; simp at hk
  rintro r D2 hn2 ⟨hD2, rfl⟩
  refine ⟨fun _ => rfl, ?_⟩
  have hD3 : D2 = S1.D := by rw [hD2, hS1, flip_D]
  rw [hD3]
  simp -implicitDefEqProofs only [rX,↓rY,↓reduceIte,Nat.reduceEqDiff,hbe]
  exact ret10 hn1' (by rw [hS1]; exact hG.flip) rfl rfl rfl
 ·show callP _ 25 _ ⟨_, h10 S n S.D [.var x.enc], _⟩ _
  refine call_ha (xs := [.i x.a]) hn (ok25 S x.a) rfl ?_ (fun _ _ => ⟨⟨trivial, trivial⟩, rfl, trivial⟩) hxk ?_ ?_
  ·intro k hk; simp at hk; omega
  ·simp only [killE, kill, kills, yC, k5, k3, k00, if_false, hkx, sec_kill]
  rintro r S1 hn1' ⟨hS1, rfl⟩
  refine ⟨fun _ => rfl, ?_⟩
  simp -implicitDefEqProofs only [rX,↓reduceIte,Nat.reduceEqDiff]
  refine call_hb (xs := [.i x.a]) hn1' (ok32 S.D x.a) rfl ?_ (fun _ _ => ⟨⟨trivial, trivial⟩, rfl, trivial⟩) ?_
  ·intro k hk; simp at hk
  rintro r D2 hn2 ⟨hD2, rfl⟩
  refine ⟨fun _ => rfl, ?_⟩
  have hD3 : D2 = S1.D := by rw [hD2, hS1, rot_D]
  rw [hD3]
  simp -implicitDefEqProofs only [rX,↓rY,↓reduceIte,Nat.reduceEqDiff,hbe]
  exact ret10 hn1' (by rw [hS1]; exact hG.rot) rfl rfl rfl
 ·refine finS hn hG.mono rfl rfl ?_
  simp [killE, kill, kills, yC, opn_kill]
  omega
set_option maxRecDepth 20000
def hp3 (p : Nat) (S : MS) (r : Nat) : List Blk := yA p .dead ++ (S.bs p ++ (yA r .dead ++ fs (p + 3 + S.n + r) S.D))
theorem hp3_len {p r : Nat} {S : MS} : (hp3 p S r).length = p + 3 + S.n + r + 2 := by
 simp only [hp3, yD, yH, S.len, fs_len]; omega
theorem wfB_rep {H B : List Blk} (h : wfB H B) : ∀ {n : Nat}, wfB H (yA n .dead ++ B)
 | 0 => h
 | n + 1 => wfB_rep h (n := n)
theorem hp3_wf {p r : Nat} {S : MS} : wfB (hp3 p S r) (hp3 p S r) := by
 have h1 : wfB (hp3 p S r) (fs (p + 3 + S.n + r) S.D) := by
  have := fs_wf (A := yA p .dead ++ (S.bs p ++ yA r Blk.dead)) (B := []) (C := []) (D := S.D) (p := p + 3 + S.n + r) (by simp only [yD, yH, S.len]; omega) trivial
  have e : yA p Blk.dead ++ (S.bs p ++ yA r Blk.dead) ++ (fs (p + 3 + S.n + r) S.D ++ []) = hp3 p S r := by simp [hp3]
  rw [e] at this
  simpa using this
 have h2 := S.wf (p := p) (yA p .dead) (yA r .dead ++ fs (p + 3 + S.n + r) S.D) (by simp) (C := yA r .dead ++ fs (p + 3 + S.n + r) S.D) (wfB_rep h1)
 exact wfB_rep h2
theorem hp3_p {p r : Nat} {S : MS} : liveP (hp3 p S r) p := by
 have : (hp3 p S r)[p]? = some (dkV p S.D) := by
  rw [hp3, yF (by simp), yH, yN]; rfl
 unfold liveP
 rw [this]; trivial
theorem hp3_q {p r : Nat} {S : MS} : liveP (hp3 p S r) (p + 3 + S.n + r) := by
 have : (hp3 p S r)[p + 3 + S.n + r]? = some (fV (p + 3 + S.n + r) S.D) := by
  have e : hp3 p S r = (yA p .dead ++ (S.bs p ++ yA r Blk.dead)) ++ fs (p + 3 + S.n + r) S.D := by simp [hp3]
  have hl : (yA p Blk.dead ++ (S.bs p ++ yA r Blk.dead)).length = p + 3 + S.n + r := by simp only [yD, yH, S.len]; omega
  rw [e, yF (by omega), hl, yN]; rfl
 unfold liveP
 rw [this]; trivial
theorem pos_app {a b : List Nat} {k : Nat} : pos (a ++ b) k = match pos a k with | some j => some j | none => (pos b k).map (·+ a.length) := by
 induction a with
 | nil => simp [pos]
 | cons x r ih =>
  simp only [yS, pos]
  by_cases h : k = x
  ·rw [if_pos h, if_pos h]
  ·rw [if_neg h, if_neg h, ih]
   cases pos r k with
   | some j => rfl
   | none =>
    cases pos b k with
    | none => rfl
    | some j => simp [vE]
theorem setAll_app {a b : List Nat} {Y W : List Blk} : ∀ {h : List Blk}, Y.length = a.length → setAll (a ++ b) (Y ++ W) h = setAll b W (setAll a Y h) := by
 induction a generalizing Y with
 | nil =>
  intro h hl
  have : Y = [] := List.length_eq_zero_iff.1 hl
  subst this
  simp [setAll]
 | cons x r ih =>
  intro h hl
  cases Y with
  | nil => simp at hl
  | cons y Y =>
   simp only [yS, setAll]
   exact ih (by simpa using hl)
def io (p n q : Nat) : List Nat := yB p (3 + n) ++ [q, q + 1]
theorem io_len {p n q : Nat} : (io p n q).length = n + 5 := by simp [io]; omega
theorem io_pos {p n q k : Nat} (hq : p + 3 + n ≤ q) : pos (io p n q) k = if p ≤ k ∧ k < p + (3 + n) then some (k - p) else if k = q then some (n + 3) else if k = q + 1 then some (n + 4) else none := by
 rw [io, pos_app, pos_range]
 by_cases h : p ≤ k ∧ k < p + (3 + n)
 ·rw [if_pos h, if_pos h]
 ·rw [if_neg h, if_neg h]
  simp only [pos, List.length_range']
  by_cases h1 : k = q
  ·rw [if_pos h1, if_pos h1]; simp; omega
  ·rw [if_neg h1, if_neg h1]
   by_cases h2 : k = q + 1
   ·rw [if_pos h2, if_pos h2]; simp; omega
   ·rw [if_neg h2, if_neg h2]; rfl
theorem io_back {p n q N j : Nat} : back (io p n q) N j = if j < 3 + n then some (p + j) else if j = n + 3 then some q else if j = n + 4 then some (q + 1) else some (N + (j - (n + 5))) := by
 unfold back
 rw [io_len]
 by_cases h : j < 3 + n
 ·rw [if_pos h, io, vG (by simpa using h), List.getElem?_range' h]
  simp
 ·rw [if_neg h, io, yF (by simp; omega), List.length_range']
  by_cases h1 : j = n + 3
  ·rw [if_pos h1, show j - (3 + n) = 0 by omega]; rfl
  ·rw [if_neg h1]
   by_cases h2 : j = n + 4
   ·rw [if_pos h2, show j - (3 + n) = 1 by omega]; rfl
   ·rw [if_neg h2, vA (by simp; omega)]
theorem io_mv {p n q : Nat} : (yB 3 n).filterMap ((io p n q)[·]?) = yB (p + 3) n := by
 rw [← mv_range (p := p) (n := n)]
 have hc : ∀ (f g : Nat → Option Nat) (l : List Nat), (∀ x ∈ l, f x = g x) → l.filterMap f = l.filterMap g := by
  intro f g l
  induction l with
  | nil => intro _; rfl
  | cons x r ih =>
   intro h
   rw [vK, vK, h x List.mem_cons_self, ih fun y hy => h y (vL _ hy)]
 refine hc _ _ _ fun j hj => ?_
 rw [yC] at hj
 rw [io, vG (by simp; omega)]
theorem io_set {p n q r : Nat} {X Y F G C Z : List Blk} (hX : X.length = 3 + n) (hY : Y.length = 3 + n) (hF : F.length = 2) (hG : G.length = 2) (hq : q = p + 3 + n + r) : setAll (io p n q) (Y ++ (G ++ Z)) (yA p .dead ++ (X ++ (yA r .dead ++ (F ++ C)))) = yA p .dead ++ (Y ++ (yA r .dead ++ (G ++ (C ++ Z)))) := by
 rw [io, setAll_app (by simp [hY])]
 have h1 := setAll_range (A := yA p Blk.dead) (X := X) (Y := Y) (B := yA r .dead ++ (F ++ C)) (by rw [hX, hY])
 rw [yH, hX] at h1
 rw [h1]
 have h2 := setAll_range2 (A := yA p Blk.dead ++ (Y ++ yA r .dead)) (X := F) (Y := G) (B := C) (Z := Z) (by rw [hF, hG])
 have hl : (yA p Blk.dead ++ (Y ++ yA r Blk.dead)).length = q := by simp only [yD, yH, hY]; omega
 rw [hl, hF] at h2
 have e1 : yA p Blk.dead ++ (Y ++ yA r .dead) ++ (F ++ C) = yA p .dead ++ (Y ++ (yA r .dead ++ (F ++ C))) := by simp
 have e2 : yA p Blk.dead ++ (Y ++ yA r .dead) ++ (G ++ (C ++ Z)) = yA p .dead ++ (Y ++ (yA r .dead ++ (G ++ (C ++ Z)))) := by simp
 rw [e1, e2] at h2
 exact h2
theorem leH_reps {X Y : List Blk} (h : leH X Y) {T : List Blk} {m : Nat} (hm : T.length = m) : leH (T ++ X) (yA m .dead ++ Y) := by
 subst hm
 exact leH_deadT h
theorem call_10 {cx : Cx} {e : Env} {b p r m : Nat} {K : V → St → Prop} {S : MS} {x : Op} {C : List Blk} (hG : G10 S m) (hm : m ≤ 900) (hb : x.b ≤ 9223372036854775807) (hC : cx.C = C0 Try.prog) (hbn : cx.bn = []) (hfx : cx.fx = []) (hCk : C.map (killB (yB (p + 3) S.n)) = C) (hE : killE (yB (p + 3) S.n) e = e)
  (h3 : ∀ (S' : MS) (p' r' : Nat) (H' : List Blk), S'.n = S.n → G10 S' (m + 1) → leH H' (hp3 p' S' r') → K (.tup [.ptr p' 0 0, .ptr (p' + 3 + S'.n + r') 0 0, .b true]) ⟨e, H', b⟩) :
  callP cx 10 [.ptr p 0 0, .ptr (p + 3 + S.n + r) 0 0, .agg x.enc] ⟨e, hp3 p S r ++ C, b⟩ K := by
 generalize hq : p + 3 + S.n + r = q
 have hH : hp3 p S r ++ C = yA p .dead ++ (S.bs p ++ (yA r .dead ++ (fs q S.D ++ C))) := by
  rw [hp3, hq]; simp
 have hlen : (hp3 p S r ++ C).length = q + 2 + C.length := by rw [yD, hp3_len, hq]
 refine ⟨io p S.n q, [.ptr 0 0 0, .ptr (S.n + 3) 0 0, .agg x.enc], yB 3 S.n, r10 S m S.n, ⟨⟨?_, fun k hk => ⟨?_, by rw [hbn]; simp⟩⟩, fun j hj k hk => by rw [hfx]; simp⟩, ?_, ?_, ?_, ?_⟩
 ·rw [io, List.nodup_append]
  refine ⟨List.nodup_range', by simp, fun a ha b hb => ?_⟩
  rw [yC] at ha
  simp at hb
  omega
 ·show k < (hp3 p S r ++ C).length
  rw [hlen]
  rw [io, yY, yC] at hk
  simp at hk
  omega
 ·exact ⟨trivial, trivial, ⟨trivial, trivial, trivial, trivial⟩, trivial⟩
 ·refine ⟨?_, ?_, ⟨rfl, rfl, rfl, trivial⟩, trivial⟩
  ·have h1 : pos (io p S.n q) p = some 0 := by rw [io_pos (by omega), if_pos (by omega), yN]
   simp only [lend, h1]; exact rfl
  ·have h1 : pos (io p S.n q) q = some (S.n + 3) := by rw [io_pos (by omega), if_neg (by omega), if_pos rfl]
   simp only [lend, h1]; exact rfl
 ·have e1 : (io p S.n q).map (fun k => renB (pos (io p S.n q)) (blk (hp3 p S r ++ C) k)) = S.bs 0 ++ fs (S.n + 3) S.D := by
   have h1 : (S.bs p).map (renB (pos (io p S.n q))) = S.bs 0 := dk_ren S.ok fun j hj => by
    have hj2 : j < 3 + S.n := hj
    rw [io_pos (by omega), if_pos (by omega)]; simp
   have h2 : (fs q S.D).map (renB (pos (io p S.n q))) = fs (S.n + 3) S.D := fs_ren (by
    rw [io_pos (by omega), if_neg (by omega), if_neg (by omega), if_pos rfl])
   rw [io, yE, ← h1, ← h2]
   congr 1
   ·apply List.ext_getElem
    ·simp [S.len]
    ·intro j h3 h4
     simp only [List.getElem_map, List.getElem_range', blk]
     congr 1
     have hj : j < (S.bs p).length := by simpa using h4
     rw [hH, yG, yF (by simp), yH, show p + 1 * j - p = j by omega, vG hj, List.getElem?_eq_getElem hj]; rfl
   ·have hA : (yA p Blk.dead ++ (S.bs p ++ yA r Blk.dead)).length = q := by simp only [yD, yH, S.len]; omega
    have hH2 : hp3 p S r ++ C = (yA p Blk.dead ++ (S.bs p ++ yA r Blk.dead)) ++ (fs q S.D ++ C) := by rw [hH]; simp
    have b0 : blk (hp3 p S r ++ C) q = fV q S.D := by
     rw [hH2, blk, yG, yF (by omega), hA, yN]; rfl
    have b1 : blk (hp3 p S r ++ C) (q + 1) = fC S.D := by
     rw [hH2, blk, yG, yF (by omega), hA, show q + 1 - q = 1 by omega]; rfl
    rw [yI, yI, vB, b0, b1]; rfl
  rw [e1, hC]
  exact ok10 S x m S.n rfl hG hm hb
 ·rintro v h' ⟨S', ⟨hn', hG'⟩, hcase⟩ _
  have hkl : (hp3 p S r ++ C).map (killB (yB (p + 3) S.n)) = yA p .dead ++ ((S.bs p).map (killB (yB (p + 3) S.n)) ++ (yA r .dead ++ (fs q S.D ++ C))) := by
   rw [hH, yE, yE, yE, yE, hCk, fs_kill (by rw [yC]; omega), yO, yO]; rfl
  have hkb : ((S.bs p).map (killB (yB (p + 3) S.n))).length = 3 + S.n := by rw [List.length_map, S.len]
  have hl' : (St.h ⟨e, hp3 p S r ++ C, b⟩).length = q + 2 + C.length := hlen
  rw [hfx, io_mv]
  simp only [hkl, hE, hl']
  refine ⟨trivial, ?_⟩
  rcases hcase with ⟨rfl, rfl⟩ | ⟨rfl, rfl⟩
  ·have e1 : (S'.bs 0).map (renB (back (io p S.n q) (q + 2 + C.length))) = S'.bs p := dk_ren S'.ok fun j hj => by
    have hj2 : j < 3 + S'.n := hj
    rw [io_back, if_pos (by omega)]; simp
   have e2 : (fs (S.n + 3) S'.D).map (renB (back (io p S.n q) (q + 2 + C.length))) = fs q S'.D := fs_ren (by
    rw [io_back, if_neg (by omega), if_neg (by omega), if_pos rfl])
   have e3 : ren (back (io p S.n q) (q + 2 + C.length)) (.tup [.ptr 0 0 0, .ptr (S.n + 3) 0 0, .b true]) = .tup [.ptr p 0 0, .ptr (p + 3 + S'.n + r) 0 0, .b true] := by
    have h1 : back (io p S.n q) (q + 2 + C.length) 0 = some p := by rw [io_back, if_pos (by omega)]; simp
    have h2 : back (io p S.n q) (q + 2 + C.length) (S.n + 3) = some q := by rw [io_back, if_neg (by omega), if_pos rfl]
    simp only [ren, rens, h1, h2]
    rw [hn', hq]
   have h4 := h3 S' p r (yA p .dead ++ (S'.bs p ++ (yA r .dead ++ (fs q S'.D ++ (C ++ []))))) hn' hG' (by
    rw [hp3, hn', hq]
    refine leH_pre (leH_pre (leH_pre ?_))
    exact leH_app)
   rw [yE, e1, e2, e3]
   have h5 := io_set (p := p) (n := S.n) (q := q) (r := r) (X := (S.bs p).map (killB (yB (p + 3) S.n))) (Y := S'.bs p) (F := fs q S.D) (G := fs q S'.D) (C := C) (Z := []) hkb (by rw [S'.len, hn']) fs_len fs_len hq.symm
   rw [yX] at h5
   rw [h5]
   exact h4
  ·generalize hN : q + 2 + C.length = N
   have hb1 : ∀ j, S.n + 5 ≤ j → back (io p S.n q) N j = some (N + (j - (S.n + 5))) := fun j hj => by
    rw [io_back, if_neg (by omega), if_neg (by omega), if_neg (by omega)]
   have e1 : (S.bs 0).map (renB (back (io p S.n q) N)) = S.bs p := dk_ren S.ok fun j hj => by
    have hj2 : j < 3 + S.n := hj
    rw [io_back, if_pos (by omega)]; simp
   have e2 : (fs (S.n + 3) S.D).map (renB (back (io p S.n q) N)) = fs q S.D := fs_ren (by
    rw [io_back, if_neg (by omega), if_neg (by omega), if_pos rfl])
   have e3 : (S'.bs (S.n + 11)).map (renB (back (io p S.n q) N)) = S'.bs (N + 6) := dk_ren S'.ok fun j hj => by
    rw [hb1 _ (by omega)]; congr 1; omega
   have e4 : (fs (S.n + S.n + 15) S'.D).map (renB (back (io p S.n q) N)) = fs (N + 6 + 3 + S'.n + 1) S'.D := fs_ren (by
    rw [hb1 _ (by omega), hn']; congr 1; omega)
   have e5 : ren (back (io p S.n q) N) (.tup [.ptr (S.n + 11) 0 0, .ptr (S.n + S.n + 15) 0 0, .b true]) = .tup [.ptr (N + 6) 0 0, .ptr (N + 6 + 3 + S'.n + 1) 0 0, .b true] := by
    have h1 : back (io p S.n q) N (S.n + 11) = some (N + 6) := by rw [hb1 _ (by omega)]; congr 1; omega
    have h2 : back (io p S.n q) N (S.n + S.n + 15) = some (N + 6 + 3 + S'.n + 1) := by rw [hb1 _ (by omega), hn']; congr 1; omega
    simp only [ren, rens, h1, h2]
   have h5 := io_set (p := p) (n := S.n) (q := q) (r := r) (X := (S.bs p).map (killB (yB (p + 3) S.n))) (Y := S.bs p) (F := fs q S.D) (G := fs q S.D) (C := C) (Z := yA 6 .dead ++ (S'.bs (N + 6) ++ .dead :: fs (N + 6 + 3 + S'.n + 1) S'.D)) hkb S.len.symm.symm fs_len fs_len hq.symm
   have h4 := h3 S' (N + 6) 1 _ hn' hG' (show leH (yA p .dead ++ (S.bs p ++ (yA r .dead ++ (fs q S.D ++ (C ++ (yA 6 .dead ++ (S'.bs (N + 6) ++ .dead :: fs (N + 6 + 3 + S'.n + 1) S'.D))))))) _ by
    have hl : (yA p Blk.dead ++ (S.bs p ++ (yA r Blk.dead ++ (fs q S.D ++ (C ++ yA 6 Blk.dead))))).length = N + 6 := by
     simp only [yD, yH, S.len, fs_len]; omega
    have := leH_reps (X := S'.bs (N + 6) ++ .dead :: fs (N + 6 + 3 + S'.n + 1) S'.D) (Y := S'.bs (N + 6) ++ .dead :: fs (N + 6 + 3 + S'.n + 1) S'.D) (leH_refl _) hl
    rw [hp3]
    have e : yA p Blk.dead ++ (S.bs p ++ (yA r Blk.dead ++ (fs q S.D ++ (C ++ yA 6 Blk.dead)))) ++ (S'.bs (N + 6) ++ Blk.dead :: fs (N + 6 + 3 + S'.n + 1) S'.D) = yA p .dead ++ (S.bs p ++ (yA r .dead ++ (fs q S.D ++ (C ++ (yA 6 .dead ++ (S'.bs (N + 6) ++ .dead :: fs (N + 6 + 3 + S'.n + 1) S'.D)))))) := by simp
    rw [e] at this
    exact this)
   rw [yE, yE, yE, yE, yI, yO, e1, e2, e3, e4, e5]
   rw [show renB (back (io p S.n q) N) Blk.dead = .dead from rfl, h5]
   exact h4
theorem call_11 {cx : Cx} {e : Env} {b p r : Nat} {K : V → St → Prop} {S : MS} {i : Int} {C : List Blk} (hC : cx.C = C0 Try.prog) (hbn : cx.bn = []) (hfx : cx.fx = []) (hCk : C.map (killB (yB (p + 3) S.n)) = C) (hE : killE (yB (p + 3) S.n) e = e)
  (h3 : K (.tup [.agg (S.D.rd i).1.enc, .i (S.D.rd i).2]) ⟨e, hp3 p S r ++ C, b⟩) : callP cx 11 [.ptr p 0 0, .i i] ⟨e, hp3 p S r ++ C, b⟩ K := by
 have hH : hp3 p S r ++ C = yA p .dead ++ (dkV p S.D :: dkC S.D :: .map (ents p S.D S.L) S.c :: (dkT S.D ++ (yA r .dead ++ (fs (p + 3 + S.n + r) S.D ++ C)))) := by
  rw [hp3]
  have e : dkV p S.D :: dkC S.D :: .map (ents p S.D S.L) S.c :: (dkT S.D ++ (yA r .dead ++ (fs (p + 3 + S.n + r) S.D ++ C))) = S.bs p ++ (yA r .dead ++ (fs (p + 3 + S.n + r) S.D ++ C)) := rfl
  rw [e]; simp
 rw [hH] at h3 ⊢
 refine call_at (args := [.i i]) (xs := [.i i]) (Q := fun r S' => S' = S ∧ r = .tup [.agg (S.D.rd i).1.enc, .i (S.D.rd i).2]) p (yA p .dead) (yA r .dead ++ (fs (p + 3 + S.n + r) S.D ++ C)) (yH ..) hbn hfx (by rw [hC]; exact ok11 S i) (fun _ _ => ⟨⟨trivial, trivial⟩, rfl, trivial⟩) ?_ ?_ hE ?_
 ·rw [yO]; rfl
 ·rw [yE, yE, hCk, fs_kill (by rw [yC]; omega), yO]; rfl
 ·rintro v S' _ ⟨rfl, rfl⟩
  exact ⟨rd_ren, h3⟩
theorem got_plain {x : Sec × Int} : ∀ y ∈ x.1.enc ++ [V.i x.2], ∃ u, y = V.v u := fun y hy => by
 rcases yY.1 hy with h | h
 ·exact sec_plain y h
 ·simp at h; exact ⟨_, h⟩
theorem call_12 {cx : Cx} {e : Env} {b p r : Nat} {K : V → St → Prop} {S : MS} {i : Int} {C : List Blk} (hl : ∀ k, (S.D.op k).length ≤ 1000) (hC : cx.C = C0 Try.prog) (hbn : cx.bn = []) (hfx : cx.fx = [])
  (h3 : K (gotV (S.D.rd i)) ⟨e, hp3 p S r ++ C, b⟩) : callP cx 12 [.ptr (p + 3 + S.n + r) 0 0, .i i] ⟨e, hp3 p S r ++ C, b⟩ K := by
 have hH : hp3 p S r ++ C = (yA p Blk.dead ++ (S.bs p ++ yA r Blk.dead)) ++ (fs (p + 3 + S.n + r) S.D ++ C) := by
  rw [hp3]; simp
 rw [hH] at h3 ⊢
 refine call_f (args := [.i i]) (xs := [.i i]) (Q := fun v D' => D' = S.D ∧ v = gotV (S.D.rd i)) (p + 3 + S.n + r) _ C (by simp only [yD, yH, S.len]; omega) hbn (by rw [hC]; exact ok12 S.D i hl) (fun _ _ => ⟨⟨trivial, trivial⟩, rfl, trivial⟩) (fun _ => by rw [hfx]; trivial) ?_
 rintro v D' _ ⟨rfl, rfl⟩
 exact ⟨fun g => congrArg V.agg (plain_ren' got_plain), h3⟩
set_option maxRecDepth 20000
theorem gvH_map {M : Nat → Bool} {H : List Blk} : ∀ {L : List Blk} {k : Nat}, (∀ j, j < L.length → M (k + j) = false) → gvH M H k L = L.map (gvB M H)
 | [], _, _ => rfl
 | b :: r, k, h => by
  have h0 := h 0 (by simp)
  rw [Nat.add_zero] at h0
  simp only [gvH, h0, yI]
  rw [gvH_map fun j hj => by
   have := h (j + 1) (by simp; omega)
   rwa [show k + (j + 1) = k + 1 + j by omega] at this]
  rfl
theorem gvH_app {M : Nat → Bool} {H : List Blk} {B : List Blk} : ∀ {A : List Blk} {k : Nat}, gvH M H k (A ++ B) = gvH M H k A ++ gvH M H (k + A.length) B
 | [], _ => rfl
 | a :: r, k => by
  simp only [yS, gvH]
  rw [gvH_app, show k + 1 + r.length = k + (a :: r).length by simp; omega]
theorem gv_bsp {M : Nat → Bool} {H : List Blk} {S : MS} {p : Nat} (h : ∀ j, j < 3 + S.n → M (p + j) = false) : (S.bs p).map (gvB M H) = S.bs p := by
 have h1 := h 1 (by omega)
 have h2 := h 2 (by omega)
 have hT : (dkT S.D).map (gvB M H) = dkT S.D := by
  simp only [dkT, vC]
  refine vD fun l _ => ?_
  simp only [Function.comp, tB]
  split <;> rfl
 have e1 : gvB M H (dkV p S.D) = dkV p S.D := by
  simp only [dkV, gvB, gvL, gvV, h1, h2]
  rfl
 have e2 : gvB M H (.map (ents p S.D S.L) S.c) = .map (ents p S.D S.L) S.c := by
  simp only [gvB, ents, vC]
  congr 1
  refine vD fun e he => ?_
  have := ((S.ok.key e.1).1 (vI he)).1
  have h3 := h (3 + e.1) (by show _ < 3 + S.D.n; omega)
  rw [← vE] at h3
  simp only [Function.comp, gvV, h3, yZ, if_false]
 show gvB M H (dkV p S.D) :: gvB M H (dkC S.D) :: gvB M H (.map (ents p S.D S.L) S.c) :: (dkT S.D).map (gvB M H) = _
 rw [e1, e2, hT]; rfl
theorem gv_fs {M : Nat → Bool} {H : List Blk} {D : Dk} {p : Nat} (h : M (p + 1) = false) : (fs p D).map (gvB M H) = fs p D := by
 simp only [fs, fV, fC, yI, vB, gvB, rows_gv, gvL, gvV, h]
 rfl
theorem slc_full {h : List Blk} {K : V → Prop} {l : List Op} : slcP h 3 (.ro 3 (l.map Op.enc)) none (some (l.length : Int)) (some (l.length : Int)) K = K (.full 3 (l.map Op.enc)) := by
 have h1 : slcP h 3 (.ro 3 (l.map Op.enc)) none (some (l.length : Int)) (some (l.length : Int)) K = (3 = 3 ∧ slcOk (l.map Op.enc).length none (some (l.length : Int)) (some (l.length : Int)) ∧ K (roF 3 (some (l.length : Int)) (some (l.length : Int)) (l.map Op.enc).length (((l.map Op.enc).drop 0).take ((l.length : Int).toNat - 0)))) := rfl
 rw [h1]
 have h2 : roF 3 (some (l.length : Int)) (some (l.length : Int)) (l.map Op.enc).length (((l.map Op.enc).drop 0).take ((l.length : Int).toNat - 0)) = .full 3 (l.map Op.enc) := by
  have : yT l.length (l.map Op.enc) = l.map Op.enc := vM (by simp)
  simp [roF, this]
 rw [h2]
 refine propext ⟨fun h => h.2.2, fun h => ⟨rfl, ?_, h⟩⟩
 simp [slcOk]
theorem gl0 {H X : List Blk} : (H ++ X)[H.length]? = X[0]? := by rw [yF (yP _), yN]
theorem gl {H X : List Blk} {j : Nat} : (H ++ X)[H.length + j]? = X[j]? := by rw [yF (by omega)]; congr 1; omega
theorem sl0 {H X : List Blk} {B : Blk} : (H ++ X).set H.length B = H ++ X.set 0 B := by rw [yU _ _ (yP _), yN]
theorem sl' {H X : List Blk} {j : Nat} {B : Blk} : (H ++ X).set (H.length + j) B = H ++ X.set j B := by rw [yU _ _ (by omega)]; congr 2; omega
theorem newG {k : Nat} (h : 1 ≤ k ∧ k ≤ 65536) : G10 (newS k) 0 := by
 refine ⟨by rw [newS_n]; exact h, yP _, by show (-1 : Int) ≤ -1 ∧ (-1 : Int) ≤ _; omega, fun j => ?_, ⟨fun j => ?_⟩⟩
 ·have : (newS k).D.op j = [] := new_op
  rw [this]; exact yP _
 ·have : (newS k).D.cl j = zC := by
   show (yA k zC).getD j zC = zC
   rw [yG, vH]
   split <;> rfl
  rw [this]
  intro hb; cases hb
theorem gv_hp3 {M : Nat → Bool} {H : List Blk} {p r : Nat} {S : MS} (h : ∀ j, j < (hp3 p S r).length → M j = false) : gvH M H 0 (hp3 p S r) = hp3 p S r := by
 have hl := hp3_len (p := p) (S := S) (r := r)
 rw [gvH_map fun j hj => by rw [Nat.zero_add]; exact h j hj]
 unfold hp3
 rw [yE, yE, yE, gv_bsp fun j hj => h _ (by omega), gv_fs (h _ (by omega)), yO, yO]
 rfl
theorem ok3 (n : Int) (l : List Op) (hl : ∀ x ∈ l, x.b ≤ 9223372036854775807) : Ok 3 [.i n, .ro 3 (l.map Op.enc)] (Is (.b true)) := by
 refine ok_of lw3 (by simp) ?_
 unfold c3
 simp -implicitDefEqProofs only [rX,ofConst,↓reduceIte,reduceCtorEq,cxN,args0]
 by_cases hn : n < 1 ∨ 65536 < n
 ·have h7 : Ok 7 [.i n] (Is (.v (.pointer none))) := okN_post (ok7 n) fun r h hr => by
   rw [rN, if_pos hn] at hr
   exact hr
  refine call_is h7 ⟨⟨trivial, trivial⟩, rfl, trivial⟩ rfl trivial ?_
  simp -implicitDefEqProofs only [rX,↓rY,ofConst,↓reduceIte,Nat.reduceEqDiff,reduceCtorEq,resP,tupV,wfV]
  simp only [br, decide_eq_true_eq, decide_eq_false_iff_not]
  refine ⟨fun h1 => s8 rfl rfl ?_, fun h1 => ⟨fun h2 => s8 rfl rfl ?_, fun h2 => ?_⟩⟩
  ·simp -implicitDefEqProofs only [rX,↓rY,ofConst,↓reduceIte,Nat.reduceEqDiff,resP,tupV,wfV]
  ·simp -implicitDefEqProofs only [rX,↓rY,ofConst,↓reduceIte,Nat.reduceEqDiff,resP,tupV,wfV]
  ·omega
 ·refine call_isA [.i n] (.ptr 3 0 0) (.ptr 3 0 0) (.dead :: .dead :: .dead :: (newS n.toNat).bs 3) (.dead :: .dead :: .dead :: (newS n.toNat).bs 3) (okN_post (ok7 n) fun r h hr => ?_) ⟨⟨trivial, trivial⟩, rfl, trivial⟩ rfl ?_ trivial ?_
  ·rw [rN, if_neg hn] at hr
   exact hr
  ·have : ((newS n.toNat).bs 3).map (renB fun j => some (([] : List Blk).length + j)) = (newS n.toNat).bs 3 := dk_ren (newS n.toNat).ok fun j hj => by simp
   rw [yI, yI, yI, this]; rfl
  simp -implicitDefEqProofs only [rX,↓rY,ofConst,↓reduceIte,Nat.reduceEqDiff,reduceCtorEq,resP,tupV,wfV]
  simp only [br, decide_eq_true_eq, decide_eq_false_iff_not]
  refine ⟨fun h => absurd (.inl h) hn, fun h1 => ⟨fun h => absurd (.inr h) hn, fun h2 => ⟨fun h3 => s8 rfl rfl ?_, fun h3 hm => ⟨fun h4 => s8 rfl rfl ?_, fun h4 => ?_⟩⟩⟩⟩
  ·simp -implicitDefEqProofs only [rX,↓reduceIte,resP,tupV,wfV]
  ·simp -implicitDefEqProofs only [rX,↓reduceIte,resP,tupV,wfV]
  obtain ⟨k, rfl⟩ : ∃ k : Nat, n = k := ⟨n.toNat, by omega⟩
  rw [Int.toNat_natCast]
  have hk1 : 1 ≤ k := by omega
  have hk2 : k ≤ 200 := by omega
  have hSn : (newS k).n = k := newS_n
  refine call_isA [.i k] (.ptr 1 0 0) (.ptr (k + 7) 0 0) (.dead :: fs 1 (newD k)) (.dead :: fs (k + 7) (newD k)) (okN_post (ok9 k) fun r h hr => ?_) ⟨⟨trivial, trivial⟩, rfl, trivial⟩ ?_ ?_ trivial ?_
  ·rw [rM, if_neg (by omega), Int.toNat_natCast] at hr
   exact hr
  ·simp only [ren, yQ, (newS k).len, hSn]
   congr 1
   omega
  ·rw [yI, fs_ren (q := k + 7) (by simp only [yQ, (newS k).len, hSn]; congr 1; omega)]; rfl
  have hH : (.dead :: .dead :: .dead :: (newS k).bs 3) ++ (.dead :: fs (k + 7) (newD k)) = hp3 3 (newS k) 1 := by
   rw [hp3, hSn, show 3 + 3 + k + 1 = k + 7 by omega]; rfl
  rw [hH]
  have hlen := hp3_len (p := 3) (S := newS k) (r := 1)
  simp -implicitDefEqProofs only [rX,↓rY,ofConst,cells?,splice,↓reduceIte,Nat.reduceEqDiff,Nat.reduceAdd,reduceCtorEq,freshP,buildP,litsP,isD,Nat.reduceLT,Nat.reduceLeDiff,slc_full,gl0,gl,sl0,sl',yR,yL]
  refine fun _ _ => ⟨by simp, by omega, fun _ => ?_⟩
  have hops : (l.map Op.enc ++ [[V.v (.int .i64 9), V.v (.int .i64 0), V.v (.int .i64 0)]]) = (l ++ [(⟨9, 0, 0⟩ : Op)]).map Op.enc := by
   rw [yE]; rfl
  rw [hops]
  have hops9 : ∀ x ∈ l ++ [(⟨9, 0, 0⟩ : Op)], x.b ≤ 9223372036854775807 := fun x hx => by
   rcases yY.1 hx with h | h
   ·exact hl x h
   ·simp at h; subst h; decide
  have hlen9 : (l ++ [(⟨9, 0, 0⟩ : Op)]).length = l.length + 1 := by simp
  generalize hL : l ++ [(⟨9, 0, 0⟩ : Op)] = L at hops9 hlen9
  have hg47 : gvV (fun j => j == (hp3 3 (newS k) 1).length + 1) (hp3 3 (newS k) 1 ++ [.arr 3 [[.i 9, .i 0, .i 0]], .arr 3 (L.map Op.enc)]) (.sl ((hp3 3 (newS k) 1).length + 1) 0 (l.length + 1)) = .ro 3 (L.map Op.enc) := by
   simp only [gvV, beq_self_eq_true, if_true, blk, yG, gl, yL, List.getElem?_cons_zero, Option.getD_some]
   rw [if_pos (by simp; omega), List.drop_zero, vM (by simp; omega)]
  have hg5 : gvV (fun j => j == (hp3 3 (newS k) 1).length + 1) (hp3 3 (newS k) 1 ++ [.arr 3 [[.i 9, .i 0, .i 0]], .arr 3 (L.map Op.enc)]) (.ptr 3 0 0) = .ptr 3 0 0 := by
   have : (3 == (hp3 3 (newS k) 1).length + 1) = false := beq_false_of_ne (by omega)
   simp only [gvV, this, yZ, if_false]
  have hg6 : gvV (fun j => j == (hp3 3 (newS k) 1).length + 1) (hp3 3 (newS k) 1 ++ [.arr 3 [[.i 9, .i 0, .i 0]], .arr 3 (L.map Op.enc)]) (.ptr (k + 7) 0 0) = .ptr (3 + 3 + (newS k).n + 1) 0 0 := by
   have : (k + 7 == (hp3 3 (newS k) 1).length + 1) = false := beq_false_of_ne (by omega)
   simp only [gvV, this, yZ, if_false]
   rw [hSn, show 3 + 3 + k + 1 = k + 7 by omega]
  refine loopP_ghost (.give (fun j => j == (hp3 3 (newS k) 1).length + 1) (by simp) (.refl _)) (fun g : Nat × MS × Nat × Nat => (⟨[(49, .i g.1), (48, .i (l.length + 1 : Nat)), (47, .ro 3 (L.map Op.enc)), (5, .ptr g.2.2.1 0 0), (6, .ptr (g.2.2.1 + 3 + g.2.1.n + g.2.2.2) 0 0), (0, .i k)], hp3 g.2.2.1 g.2.1 g.2.2.2, 0⟩ : St)) (fun g => g.1 ≤ l.length + 1 ∧ g.2.1.n = k ∧ G10 g.2.1 g.1) (fun g => l.length + 1 - g.1) (0, newS k, 3, 1) ⟨by omega, hSn, newG (k := k) ⟨hk1, by omega⟩⟩ ?_ ?_
  ·refine ⟨⟨rfl, rfl, hg47, hg5, hg6, rfl, trivial⟩, ?_, trivial, ⟨trivial, trivial, trivial, hp3_p (p := 3) (S := newS k) (r := 1), hp3_q (p := 3) (S := newS k) (r := 1), trivial, trivial⟩, hp3_wf⟩
   ·show leH (gvH _ _ 0 (hp3 3 (newS k) 1 ++ _)) (hp3 3 (newS k) 1)
    rw [gvH_app, gv_hp3 fun j hj => beq_false_of_ne (by omega)]
    exact leH_app
  rintro ⟨i, S, p, r⟩ ⟨hi, hSk, hG⟩
  have hi : i ≤ l.length + 1 := hi
  have hSk : S.n = k := hSk
  have hG : G10 S i := hG
  unfold c3l0
  simp -implicitDefEqProofs only [rX,↓rY,ofConst,cells?,splice,↓reduceIte,Nat.reduceEqDiff,Nat.reduceAdd,reduceCtorEq,freshP,gl0,sl0,opn_len,opn_take,opn_isC]
  simp only [br, decide_eq_true_eq, decide_eq_false_iff_not]
  refine ⟨fun h => ⟨by omega, (show i < L.length by omega), ?_⟩, fun h => ?_⟩
  ·have hlp := hp3_len (p := p) (S := S) (r := r)
   refine call_10 (cx := cxN Try.prog []) (m := i) hG (by omega) (hops9 _ (List.getElem_mem _)) rfl rfl rfl (C := [.var L[i].enc]) rfl ?_ fun S' p' r' H' hn' hG' hle => ?_
   ·simp only [killE, kill, kills, yC, hlp, opn_kill]
    rw [if_neg (by omega), if_neg (by omega), if_neg (by omega)]
   simp -implicitDefEqProofs only [rX,↓rY,ofConst,↓reduceIte,Nat.reduceEqDiff,reduceCtorEq,leE,keepP,liveP,wfE,wfV]
   refine ⟨⟨by simp only [Fx.lo]; omega, by simp only [Fx.hi]; omega⟩, (i + 1, S', p', r'), ⟨⟨by show i + 1 ≤ _; omega, hn'.trans hSk, hG'⟩, by show _ - (i + 1) < _; omega⟩, ⟨(Int.natCast_add i 1).symm, rfl, rfl⟩, hle, ⟨hp3_p, hp3_q⟩, hp3_wf⟩
  ·have hin : i = l.length + 1 := by omega
   clear h
   refine loopP_intro (fun j : Nat => (⟨[(65, .i j), (64, .i k), (5, .ptr p 0 0), (6, .ptr (p + 3 + S.n + r) 0 0)], hp3 p S r, 0⟩ : St)) (fun j => j ≤ k) (fun j => k - j) 0 (yV _) ⟨⟨rfl, rfl, rfl, rfl, trivial⟩, leH_refl _, trivial, ⟨trivial, trivial, hp3_p, hp3_q, trivial⟩, hp3_wf⟩ ?_
   intro j hj
   have hlp := hp3_len (p := p) (S := S) (r := r)
   have es : ∀ {s t : Sec} {K : Bool → Prop}, (optK (aggC (.agg s.enc)) fun xs => optK (aggC (.agg t.enc)) fun ys => eqFs xs ys ((yB 0 64).map fun i => (i, .int .u8)) K) = K (decide (s = t)) := eqA_sec
   have gt64 : ∀ (s : Sec) (q : Int), yT 64 (s.enc ++ [V.i q]) = s.enc := fun s q => by rw [vJ (by simp [sec_len]), sec_take]
   have g64 : ∀ (s : Sec) (q : Int), (s.enc ++ [V.i q])[64]? = some (.i q) := fun s q => by rw [yF (by simp [sec_len])]; simp [sec_len]
   unfold c3l1
   simp -implicitDefEqProofs only [rX,↓rY,↓reduceIte,Nat.reduceEqDiff]
   simp only [br, decide_eq_true_eq, decide_eq_false_iff_not]
   refine ⟨fun h => ?_, fun h => s8 rfl rfl ?_⟩
   ·refine call_11 (cx := cxN Try.prog []) (C := [.dead]) rfl rfl rfl rfl ?_ ?_
    ·simp only [killE, kill, yC, hlp]
     rw [if_neg (by omega), if_neg (by omega)]
    simp -implicitDefEqProofs only [rX,↓rY,ofConst,cells?,splice,↓reduceIte,Nat.reduceEqDiff,freshP,arr64,sec_len,sec_C,sec_drop,gl0,sl0,yL,yJ]
    refine call_12 (cx := cxN Try.prog []) (fun q => Nat.le_trans (hG.ln q) (by omega)) rfl rfl rfl ?_
    unfold gotV
    simp -implicitDefEqProofs only [rX,↓rY,ofConst,cells?,splice,↓reduceIte,Nat.reduceEqDiff,Nat.reduceAdd,freshP,resP,tupV,leE,keepP,liveP,wfE,wfV,Nat.reduceLeDiff,sec_len,sec_take,n61,gl0,gl,sl',gz_arr,gz_len,gz_d65,got_C,gt64,g64,es,yR,yL,yJ,decide_true]
    simp only [br, bne_self_eq_false, yZ, false_implies, true_and, forall_const]
    exact ⟨⟨by simp only [Fx.lo]; omega, by simp only [Fx.hi]; omega⟩, j + 1, ⟨by omega, by omega⟩, (Int.natCast_add j 1).symm, leH_app, ⟨hp3_p, hp3_q⟩, hp3_wf⟩
   ·simp -implicitDefEqProofs only [rX,↓reduceIte,resP,tupV,wfV]
theorem fn_of {f : FuncId} {xs : List V} (h : Ok f xs (Is (.b true))) : Fn Try.prog f xs [] [] (fun r _ => r = .b true) := by
 have h := h.2
 intro ρ X w vals h1 h2
 refine Calls.mono (h ρ X w vals h1 h2) ?_
 rintro e w' ⟨val, r, h', ρ', q1, q2, q3, q4, q5, q6⟩
 exact ⟨val, r, h', ρ', q1, ⟨q2.1.1, q2.2⟩, q3, q4, q5, q6⟩
abbrev tOp : Fx.T := .st [.int .i64, .int .i64, .int .i64]
abbrev tOps : Fx.T := .sl 3 tOp
theorem ex_mapP {α β : Type} {g : α → β} {P : α → Prop} : ∀ {els : List β}, (∀ x ∈ els, ∃ a, x = g a ∧ P a) → ∃ l : List α, els = l.map g ∧ ∀ a ∈ l, P a
 | [], _ => ⟨[], rfl, fun _ h => by cases h⟩
 | x :: r, h => by
  obtain ⟨a, rfl, ha⟩ := h x List.mem_cons_self
  obtain ⟨l, rfl, hl⟩ := ex_mapP (els := r) fun y hy => h y (vL _ hy)
  refine ⟨a :: l, rfl, fun b hb => ?_⟩
  rcases List.mem_cons.1 hb with rfl | hb
  ·exact ha
  ·exact hl b hb
theorem wf_opsB {x : V} (h : WfV tOps x) : ∃ l : List Op, x = .ro 3 (l.map Op.enc) ∧ ∀ y ∈ l, y.b ≤ 9223372036854775807 := by
 simp only [WfV] at h
 rw [WfT] at h
 obtain ⟨els, h1, _, he⟩ := h
 obtain ⟨l, rfl, hl⟩ := ex_mapP (g := Op.enc) (P := fun y => y.b ≤ 9223372036854775807) (fun x hx => by
  have h := he x hx
  simp only [WfT, WfTs] at h
  obtain ⟨_, _, rfl, ⟨a, rfl, _⟩, _, _, rfl, ⟨b, rfl, _⟩, _, _, rfl, ⟨c, rfl, _, hc⟩, rfl⟩ := h
  exact ⟨⟨a, b, c⟩, rfl, by simpa only [hi] using hc⟩)
 exact ⟨l, by simpa using h1, hl⟩
theorem wf_i64 {x : V} (h : WfV (.int .i64) x) : ∃ n : Int, x = .i n := by
 simp only [WfV, WfT] at h
 obtain ⟨n, h, _⟩ := h
 exact ⟨n, by simpa using h⟩
theorem fn3 : ∀ xs, WfA [.int .i64, tOps] xs → Fn Try.prog 3 xs [] [] (fun r _ => r = .b true) := by
 intro xs h
 obtain ⟨x1, _, rfl, h1, h⟩ := h
 obtain ⟨x2, _, rfl, h2, h⟩ := h
 obtain rfl : _ = [] := h
 obtain ⟨n, rfl⟩ := wf_i64 h1
 obtain ⟨l, rfl, hl⟩ := wf_opsB h2
 exact fn_of (ok3 n l hl)
end Go.Fx.D
