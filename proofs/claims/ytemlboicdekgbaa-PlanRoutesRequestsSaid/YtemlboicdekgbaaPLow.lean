import Derived.Test.YtemlboicdekgbaaPCode
import Derived.Test.YtemlboicdekgbaaProg
set_option linter.unusedVariables false
set_option linter.unusedSimpArgs false
set_option linter.unusedSectionVars false
namespace Go.Fx.P
open Go Go.Fx Go.Proofs
theorem pol : Try.prog.follows .mixedOrders = true := by kernel_rfl
theorem lw6 : rlF Try.prog 6 c6 = some (c6, [.tmp 4], 187) := by kernel_rfl
theorem lw10 : rlF Try.prog 10 c10 = some (c10, [.tmp 0], 112) := by kernel_rfl
theorem lw11 : rlF Try.prog 11 c11 = some (c11, [.tmp 2], 102) := by kernel_rfl
theorem lw12 : rlF Try.prog 12 c12 = some (c12, [.tmp 2], 82) := by kernel_rfl
theorem lw13 : rlF Try.prog 13 c13 = some (c13, [.cell 2 (some 5), .tmp 3], 18) := by kernel_rfl
theorem lw15 : rlF Try.prog 15 c15 = some (c15, [.cell 2 (some 2)], 114) := by kernel_rfl
theorem lw16 : rlF Try.prog 16 c16 = some (c16, [.cell 2 (some 2)], 129) := by kernel_rfl
theorem lw17 : rlF Try.prog 17 c17 = some (c17, [.tmp 2], 23) := by kernel_rfl
theorem lw18 : rlF Try.prog 18 c18 = some (c18, [.tmp 2], 28) := by kernel_rfl
theorem lw19 : rlF Try.prog 19 c19 = some (c19, [.tmp 2], 20) := by kernel_rfl
theorem lw20 : rlF Try.prog 20 c20 = some (c20, [.tmp 4], 17) := by kernel_rfl
theorem lw21 : rlF Try.prog 21 c21 = some (c21, [.tmp 4], 17) := by kernel_rfl
theorem lw22 : rlF Try.prog 22 c22 = some (c22, [.tmp 6], 21) := by kernel_rfl
theorem lw24 : rlF Try.prog 24 c24 = some (c24, [.cell 8 none, .cell 9 none], 47) := by kernel_rfl
theorem lw26 : rlF Try.prog 26 c26 = some (c26, [.tmp 4], 26) := by kernel_rfl
theorem lw27 : rlF Try.prog 27 c27 = some (c27, [.tmp 4], 9) := by kernel_rfl
theorem lw29 : rlF Try.prog 29 c29 = some (c29, [.tmp 4], 26) := by kernel_rfl
theorem lw30 : rlF Try.prog 30 c30 = some (c30, [.tmp 4], 96) := by kernel_rfl
theorem lw32 : rlF Try.prog 32 c32 = some (c32, [.tmp 4], 11) := by kernel_rfl
theorem lw33 : rlF Try.prog 33 c33 = some (c33, [.tmp 4], 35) := by kernel_rfl
theorem lw37 : rlF Try.prog 37 c37 = some (c37, [.tmp 6], 13) := by kernel_rfl
theorem lw40 : rlF Try.prog 40 c40 = some (c40, [.tmp 8], 77) := by kernel_rfl
theorem lw41 : rlF Try.prog 41 c41 = some (c41, [.tmp 2], 66) := by kernel_rfl
theorem lw42 : rlF Try.prog 42 c42 = some (c42, [.cell 0 (some 2)], 12) := by kernel_rfl
theorem lw43 : rlF Try.prog 43 c43 = some (c43, [.tmp 2], 34) := by kernel_rfl
theorem lw44 : rlF Try.prog 44 c44 = some (c44, [.tmp 2], 34) := by kernel_rfl
theorem lw45 : rlF Try.prog 45 c45 = some (c45, [.tmp 4], 74) := by kernel_rfl
theorem lw46 : rlF Try.prog 46 c46 = some (c46, [.cell 8 (some 5), .tmp 9], 97) := by kernel_rfl
theorem lw47 : rlF Try.prog 47 c47 = some (c47, [.tmp 4], 26) := by kernel_rfl
theorem lw48 : rlF Try.prog 48 c48 = some (c48, [.tmp 10], 60) := by kernel_rfl
theorem lw49 : rlF Try.prog 49 c49 = some (c49, [.tmp 10], 73) := by kernel_rfl
theorem lw50 : rlF Try.prog 50 c50 = some (c50, [.tmp 6], 8) := by kernel_rfl
theorem lw53 : rlF Try.prog 53 c53 = some (c53, [.tmp 4], 42) := by kernel_rfl
theorem lw54 : rlF Try.prog 54 c54 = some (c54, [.tmp 4], 17) := by kernel_rfl
theorem lw56 : rlF Try.prog 56 c56 = some (c56, [.tmp 4], 19) := by kernel_rfl
theorem lw57 : rlF Try.prog 57 c57 = some (c57, [.tmp 3], 16) := by kernel_rfl
theorem lw58 : rlF Try.prog 58 c58 = some (c58, [.tmp 6], 24) := by kernel_rfl
theorem lw60 : rlF Try.prog 60 c60 = some (c60, [.tmp 4], 43) := by kernel_rfl
theorem lw61 : rlF Try.prog 61 c61 = some (c61, [.tmp 3], 12) := by kernel_rfl
theorem lw62 : rlF Try.prog 62 c62 = some (c62, [.tmp 8], 40) := by kernel_rfl
theorem lw63 : rlF Try.prog 63 c63 = some (c63, [.tmp 4], 64) := by kernel_rfl
theorem lw64 : rlF Try.prog 64 c64 = some (c64, [.tmp 4], 71) := by kernel_rfl
theorem lw65 : rlF Try.prog 65 c65 = some (c65, [.cell 6 (some 5)], 39) := by kernel_rfl
theorem lw66 : rlF Try.prog 66 c66 = some (c66, [.tmp 8], 22) := by kernel_rfl
theorem lw67 : rlF Try.prog 67 c67 = some (c67, [.tmp 8], 105) := by kernel_rfl
theorem lw68 : rlF Try.prog 68 c68 = some (c68, [.tmp 6], 78) := by kernel_rfl
theorem lw69 : rlF Try.prog 69 c69 = some (c69, [.tmp 8], 117) := by kernel_rfl
theorem lw70 : rlF Try.prog 70 c70 = some (c70, [.tmp 8], 62) := by kernel_rfl
theorem lw71 : rlF Try.prog 71 c71 = some (c71, [.tmp 6], 45) := by kernel_rfl
theorem lw72 : rlF Try.prog 72 c72 = some (c72, [.tmp 4], 27) := by kernel_rfl
theorem lw73 : rlF Try.prog 73 c73 = some (c73, [.tmp 6], 97) := by kernel_rfl
theorem lw74 : rlF Try.prog 74 c74 = some (c74, [.tmp 8], 110) := by kernel_rfl
theorem lw75 : rlF Try.prog 75 c75 = some (c75, [], 51) := by kernel_rfl
theorem lw76 : rlF Try.prog 76 c76 = some (c76, [.tmp 8, .tmp 9, .tmp 10], 126) := by kernel_rfl
theorem lw77 : rlF Try.prog 77 c77 = some (c77, [.tmp 3], 9) := by kernel_rfl
theorem lw82 : rlF Try.prog 82 c82 = some (c82, [.tmp 4], 19) := by kernel_rfl
theorem lw87 : rlF Try.prog 87 c87 = some (c87, [.tmp 4], 48) := by kernel_rfl
theorem lw88 : rlF Try.prog 88 c88 = some (c88, [], 63) := by kernel_rfl
theorem lw89 : rlF Try.prog 89 c89 = some (c89, [.tmp 2, .tmp 3], 95) := by kernel_rfl
theorem lw90 : rlF Try.prog 90 c90 = some (c90, [.tmp 4], 6) := by kernel_rfl
theorem lw91 : rlF Try.prog 91 c91 = some (c91, [.tmp 6], 26) := by kernel_rfl
theorem lw92 : rlF Try.prog 92 c92 = some (c92, [.tmp 2], 31) := by kernel_rfl
theorem lw93 : rlF Try.prog 93 c93 = some (c93, [.tmp 8], 80) := by kernel_rfl
theorem lw94 : rlF Try.prog 94 c94 = some (c94, [.tmp 4], 9) := by kernel_rfl
theorem lw95 : rlF Try.prog 95 c95 = some (c95, [.tmp 2], 9) := by kernel_rfl
theorem lw96 : rlF Try.prog 96 c96 = some (c96, [.tmp 4], 13) := by kernel_rfl
theorem lw97 : rlF Try.prog 97 c97 = some (c97, [.tmp 4], 18) := by kernel_rfl
theorem lw98 : rlF Try.prog 98 c98 = some (c98, [.tmp 2], 8) := by kernel_rfl
theorem lw99 : rlF Try.prog 99 c99 = some (c99, [.tmp 3], 9) := by kernel_rfl
theorem lw100 : rlF Try.prog 100 c100 = some (c100, [.tmp 4], 13) := by kernel_rfl
theorem lw101 : rlF Try.prog 101 c101 = some (c101, [.tmp 4], 44) := by kernel_rfl
theorem lw106 : rlF Try.prog 106 c106 = some (c106, [.tmp 4, .tmp 5], 30) := by kernel_rfl
theorem lw107 : rlF Try.prog 107 c107 = some (c107, [], 58) := by kernel_rfl
theorem lw108 : rlF Try.prog 108 c108 = some (c108, [], 72) := by kernel_rfl
theorem lw109 : rlF Try.prog 109 c109 = some (c109, [.tmp 4, .tmp 5], 17) := by kernel_rfl
theorem lw110 : rlF Try.prog 110 c110 = some (c110, [.tmp 4, .tmp 5], 51) := by kernel_rfl
end Go.Fx.P
