import Derived.Test.YtebjeeogjepcaaaGreatDoorHLow0
import Derived.Test.YtebjeeogjepcaaaGreatDoorProg
set_option linter.unusedVariables false
set_option linter.unusedSimpArgs false
set_option linter.unusedSectionVars false
open Array renaming replicate → yaa
open List renaming replicate → yab
namespace Go.Fx.H
open Go Go.Fx
open Go.Operand renaming tmp → t, const → k
open Go.Value renaming int → i, bool → y
open Go.IntKind renaming i64 → j
open Option renaming some → s, none → o
open Go.Fx.LOp renaming mov → m, load → l, fld → f, bin → b, idx → x, store → w, pick → p, len → n, box → u
open Go.Fx.LCode renaming seq → q, reg → r, cond → c, block → z
open Go.Fx.LPlan renaming take → v, alt → h
open Bool renaming false → g, true → d
def c4:LCode:=(q (r 0 [UA 4 (m (k (y g)))]) (q (q (r 0 [MA 8 0,UA 9 (n (t 8)),UA 10 (b .gtr g (t 9) (k (i j 40)))]) (c (t 10) (q (r 0 [UA 11 (.call 13 []),MA 4 11]) .ret)
 .skip)) (q (r 0 [MA 13 0,MA 14 1,UA 15 (.call 17 [(t 13),(t 14)]),MA 12 15,UA 16 (.ext (t 12) 0),UA 17 (.ext (t 12) 1),MA 5 16,MA 6 17]) (q (r 1 [
 (MA 18 0),MA 19 1,UA 20 (.call 18 [(t 18),(t 19)]),UA 7 (.alloc 0 (.agg #[.slice o 0 0,i j 0])),WA 2 7 20]) (q (r 0 [UA 21 (.call 13 []),MA 22 21,GA 23 (m (t 5)) 22 d,
 (GA 24 (f 0 (t 7)) 22 d),GA 25 (l o (t 24)) 22 d,GA 26 (.call 16 [(t 23),(t 25)]) 22 d,UA 27 (p (t 22) (t 26) (k (y g))),MA 28 27,GA 29 (m (t 6)) 28 d,GA 30 (f 1 (t 7)) 28 d,
 (GA 31 (l o (t 30)) 28 d),GA 32 (b .eql g (t 29) (t 31)) 28 d,UA 33 (p (t 28) (t 32) (k (y g))),MA 4 33]) .ret)))))
def c20a0:LCode:=q (r 0 [MA 9 40]) (r 0 [MA 10 41])
def c20r0:LCode:=z 2 (q (r 0 [LA 43 8,MA 44 10,UA 45 (.lookup .string (i j 0) d (t 43) (t 44)),MA 42 45,UA 46 (.ext (t 42) 0),UA 47 (.ext (t 42) 1),MA 11 46,
 (MA 12 47)]) (q (r 0 [MA 48 12,UA 49 (.not (t 48)),MA 50 49,GA 51 (m (t 10)) 50 d,GA 52 (.lens (t 51)) 50 d,GA 53 (l o (t 5)) 50 d,GA 54 (b .eql g (t 52) (t 53)) 50 d,
 (UA 55 (p (t 50) (t 54) (k (y g))))]) (c (t 55) (r 0 [LA 56 8,MA 57 10,MA 58 9,⟨o,.mset .string (t 56) (t 57) (t 58),o⟩]) .skip)))
def c20l0:LCode:=q (q (r 0 [MA 67 16,LA 68 4,UA 69 (.lens (t 68)),UA 70 (b .lss g (t 67) (t 69))]) (c (t 70) .skip (.exit 3))) (z 4 (q (.tree 0 (v 0 [10,11,12,13,14,15] (LA 72 8)
 (v 1 [9,10,11,12,13,14,15] (LA 73 4) (v 2 [9,10,11,12,13,14,15] (MA 74 16) (v 3 [4,8,9,10,11,12,13,14,15] (LA 75 4) (v 4 [8,9,10,11,12,13,14,15] (UA 76 (.lens (t 75))) (v 5 [7,8,9,10,11,12,13,14,15] (MA 77 16)
 (v 6 [7,8,9,10,11,12,13,14,15] (LA 78 5) (v 7 [8,9,10,11,12,13,14,15] (UA 79 (b .add d (t 77) (t 78))) (v 8 [9,10,11,12,13,14,15] (UA 80 (.minmax g (t 76) (t 79))) (v 9 [10,11,12,13,14,15] (UA 81 (.prim (.sslc d d) [(t 73),(t 74),(t 80)]))
 (h 10 (UA 82 (.lookup .string (i j 0) d (t 72) (t 81))) g (v 11 [12,13,14,15] (MA 71 82) (v 12 [14,15] (UA 83 (.ext (t 71) 0)) (v 13 [15] (UA 84 (.ext (t 71) 1)) (v 14 [15] (MA 17 83) (v 15 [] (MA 18 84)
 .done))))) .none)))))))))))) (q (q (r 0 [MA 85 18,UA 86 (.not (t 85))]) (c (t 86) (q (r 0 [MA 87 16,UA 88 (b .add d (t 87) (k (i j 1))),MA 16 88]) (.exit 4)) .skip))
 (q (r 0 [MA 89 15,MA 90 16,UA 91 (.callv (t 89) [(t 90)])]) (q (q (r 0 [FA 92 33 13,LA 93 92,UA 94 (n (t 93)),MA 19 94]) (q (r 0 [MA 95 19,
 (UA 96 (b .gtr g (t 95) (k (i j 0)))),MA 97 96,GA 98 (f 33 (t 13)) 97 d,GA 99 (l o (t 98)) 97 d,GA 100 (m (t 19)) 97 d,GA 101 (b .sub d (t 100) (k (i j 1))) 97 d,GA 102 (x 3 (t 99) (t 101)) 97 d,
 (GA 103 (f 2 (t 102)) 97 d),GA 104 (l o (t 103)) 97 d,GA 105 (.prim (.sbin .eql) [(t 104),(k (.string ⟨#[]⟩))]) 97 d,UA 106 (p (t 97) (t 105) (k (y g))),MA 107 106,GA 108 (f 33 (t 13)) 107 d,
 (GA 109 (l o (t 108)) 107 d),GA 110 (m (t 19)) 107 d,GA 111 (b .sub d (t 110) (k (i j 1))) 107 d,GA 112 (x 3 (t 109) (t 111)) 107 d,GA 113 (f 1 (t 112)) 107 d,GA 114 (l o (t 113)) 107 d,
 (GA 115 (m (t 17)) 107 d),GA 116 (b .eql g (t 114) (t 115)) 107 d,UA 117 (p (t 107) (t 116) (k (y g)))]) (c (t 117) (.tail 11 0 [FA 118 33 13,LA 119 118,MA 120 19,
 (UA 121 (b .sub d (t 120) (k (i j 1)))),XA 122 3 119 121,FA 123 1 122,LA 124 123,LA 125 5,UA 126 (b .add d (t 124) (t 125)),XA 127 3 119 121,
 (FA 128 1 127),WA 1 128 126]) (r 2 [FA 129 33 13,LA 130 129,MA 131 17,MA 132 17,LA 133 5,UA 134 (b .add d (t 132) (t 133)),
 (UA 135 (.build [i j 0,i j 0,.string ⟨#[]⟩] [(0,1,(t 131)),(1,1,(t 134))])),UA 136 (.lits 0 3 1 [i j 0,i j 0,.string ⟨#[]⟩] [(0,(t 135))]),UA 137 (.append 1 3 32 (t 130) (t 136)),FA 138 33 13,
 (WA 1 138 137)])))) (q (r 0 [MA 139 16,LA 140 5,UA 141 (b .add d (t 139) (t 140)),MA 16 141]) (r 0 [MA 142 16,WA 1 14 142])))))))
def c20:LCode:=(q (r 3 [UA 4 (u 0 (t 1)),UA 5 (u 1 (t 2)),UA 6 (.alloc 2 (.agg #[.int .u8 0,.int .u8 0,.int .u8 0,.int .u8 0,.int .u8 0,.int .u8 0,.int .u8 0,.int .u8 0,.int .u8 0,.int .u8 0,.int .u8 0,.int .u8 0,.int .u8 0,.int .u8 0,.int .u8 0,.int .u8 0,.int .u8 0,.int .u8 0,.int .u8 0,.int .u8 0,.int .u8 0,.int .u8 0,.int .u8 0,.int .u8 0,.int .u8 0,.int .u8 0,.int .u8 0,.int .u8 0,.int .u8 0,.int .u8 0,.int .u8 0,.int .u8 0,i j 0,.slice o 0 0])),
 (CA 7 0)]) (q (z 0 (q (r 0 [LA 21 5,UA 22 (b .lss g (t 21) (k (i j 1))),MA 23 22,GA 24 (l o (t 5)) 23 g,GA 25 (b .gtr g (t 24) (k (i j 4096))) 23 g,UA 26 (p (t 23) (k (y d)) (t 25)),
 (MA 20 26)]) (c (t 20) (q (r 0 [UA 27 (.build [.int .u8 0,.int .u8 0,.int .u8 0,.int .u8 0,.int .u8 0,.int .u8 0,.int .u8 0,.int .u8 0,.int .u8 0,.int .u8 0,.int .u8 0,.int .u8 0,.int .u8 0,.int .u8 0,.int .u8 0,.int .u8 0,.int .u8 0,.int .u8 0,.int .u8 0,.int .u8 0,.int .u8 0,.int .u8 0,.int .u8 0,.int .u8 0,.int .u8 0,.int .u8 0,.int .u8 0,.int .u8 0,.int .u8 0,.int .u8 0,.int .u8 0,.int .u8 0,i j 0,.slice o 0 0] []),
 (WA 34 6 27),CA 7 1]) .ret) (q (r 0 [MA 29 0,UA 30 (.lens (t 29)),LA 31 4,UA 32 (.lens (t 31)),UA 33 (.minmax d (t 30) (t 32)),UA 34 (b .gtr g (t 33) (k (i j 65536))),
 (MA 28 34)]) (c (t 28) (q (r 0 [UA 35 (.build [.int .u8 0,.int .u8 0,.int .u8 0,.int .u8 0,.int .u8 0,.int .u8 0,.int .u8 0,.int .u8 0,.int .u8 0,.int .u8 0,.int .u8 0,.int .u8 0,.int .u8 0,.int .u8 0,.int .u8 0,.int .u8 0,.int .u8 0,.int .u8 0,.int .u8 0,.int .u8 0,.int .u8 0,.int .u8 0,.int .u8 0,.int .u8 0,.int .u8 0,.int .u8 0,.int .u8 0,.int .u8 0,.int .u8 0,.int .u8 0,.int .u8 0,.int .u8 0,i j 0,.slice o 0 0] []),
 (WA 34 6 35),CA 7 2]) .ret) .skip))))) (q (r 2 [UA 36 (.mkmap 0 o),UA 8 (.alloc 1 (.map o)),WA 1 8 36]) (q (q (r 0 [MA 37 0,LA 38 5,
 (UA 39 (.call 60 [(t 37),(t 38)]))]) (z 1 (.rfn (t 39) [40,41] c20a0 c20r0))) (q (.tree 1 (v 0 [1,3,6,8] (MA 59 0) (v 2 [3,6,8] (LA 61 4) (v 4 [5,6,8] (LA 63 4) (v 5 [6,8] (UA 64 (.lens (t 63)))
 (h 1 (UA 60 (.call 70 [(t 59)])) d (h 3 (UA 62 (.call 70 [(t 61)])) d (v 6 [8] (UA 65 (.build [.int .u8 0,.int .u8 0,.int .u8 0,.int .u8 0,.int .u8 0,.int .u8 0,.int .u8 0,.int .u8 0,.int .u8 0,.int .u8 0,.int .u8 0,.int .u8 0,.int .u8 0,.int .u8 0,.int .u8 0,.int .u8 0,.int .u8 0,.int .u8 0,.int .u8 0,.int .u8 0,.int .u8 0,.int .u8 0,.int .u8 0,.int .u8 0,.int .u8 0,.int .u8 0,.int .u8 0,.int .u8 0,.int .u8 0,.int .u8 0,.int .u8 0,.int .u8 0,i j 0,.slice o 0 0] [(0,16,(t 60)),(16,16,(t 62)),(32,1,(t 64))]))
 (h 7 (UA 13 (.alloc 0 (.agg #[.int .u8 0,.int .u8 0,.int .u8 0,.int .u8 0,.int .u8 0,.int .u8 0,.int .u8 0,.int .u8 0,.int .u8 0,.int .u8 0,.int .u8 0,.int .u8 0,.int .u8 0,.int .u8 0,.int .u8 0,.int .u8 0,.int .u8 0,.int .u8 0,.int .u8 0,.int .u8 0,.int .u8 0,.int .u8 0,.int .u8 0,.int .u8 0,.int .u8 0,.int .u8 0,.int .u8 0,.int .u8 0,.int .u8 0,.int .u8 0,.int .u8 0,.int .u8 0,i j 0,.slice o 0 0]))) d
 (h 8 (WA 34 13 65) g .done .none) .none)) (h 7 (UA 13 (.alloc 0 (.agg #[.int .u8 0,.int .u8 0,.int .u8 0,.int .u8 0,.int .u8 0,.int .u8 0,.int .u8 0,.int .u8 0,.int .u8 0,.int .u8 0,.int .u8 0,.int .u8 0,.int .u8 0,.int .u8 0,.int .u8 0,.int .u8 0,.int .u8 0,.int .u8 0,.int .u8 0,.int .u8 0,.int .u8 0,.int .u8 0,.int .u8 0,.int .u8 0,.int .u8 0,.int .u8 0,.int .u8 0,.int .u8 0,.int .u8 0,.int .u8 0,.int .u8 0,.int .u8 0,i j 0,.slice o 0 0]))) d
 (h 3 (UA 62 (.call 70 [(t 61)])) d (v 6 [8] (UA 65 (.build [.int .u8 0,.int .u8 0,.int .u8 0,.int .u8 0,.int .u8 0,.int .u8 0,.int .u8 0,.int .u8 0,.int .u8 0,.int .u8 0,.int .u8 0,.int .u8 0,.int .u8 0,.int .u8 0,.int .u8 0,.int .u8 0,.int .u8 0,.int .u8 0,.int .u8 0,.int .u8 0,.int .u8 0,.int .u8 0,.int .u8 0,.int .u8 0,.int .u8 0,.int .u8 0,.int .u8 0,.int .u8 0,.int .u8 0,.int .u8 0,.int .u8 0,.int .u8 0,i j 0,.slice o 0 0] [(0,16,(t 60)),(16,16,(t 62)),(32,1,(t 64))]))
 (h 8 (WA 34 13 65) g .done .none)) .none) .none)) (h 7 (UA 13 (.alloc 0 (.agg #[.int .u8 0,.int .u8 0,.int .u8 0,.int .u8 0,.int .u8 0,.int .u8 0,.int .u8 0,.int .u8 0,.int .u8 0,.int .u8 0,.int .u8 0,.int .u8 0,.int .u8 0,.int .u8 0,.int .u8 0,.int .u8 0,.int .u8 0,.int .u8 0,.int .u8 0,.int .u8 0,.int .u8 0,.int .u8 0,.int .u8 0,.int .u8 0,.int .u8 0,.int .u8 0,.int .u8 0,.int .u8 0,.int .u8 0,.int .u8 0,.int .u8 0,.int .u8 0,i j 0,.slice o 0 0]))) d
 (h 1 (UA 60 (.call 70 [(t 59)])) d (h 3 (UA 62 (.call 70 [(t 61)])) d (v 6 [8] (UA 65 (.build [.int .u8 0,.int .u8 0,.int .u8 0,.int .u8 0,.int .u8 0,.int .u8 0,.int .u8 0,.int .u8 0,.int .u8 0,.int .u8 0,.int .u8 0,.int .u8 0,.int .u8 0,.int .u8 0,.int .u8 0,.int .u8 0,.int .u8 0,.int .u8 0,.int .u8 0,.int .u8 0,.int .u8 0,.int .u8 0,.int .u8 0,.int .u8 0,.int .u8 0,.int .u8 0,.int .u8 0,.int .u8 0,.int .u8 0,.int .u8 0,.int .u8 0,.int .u8 0,i j 0,.slice o 0 0] [(0,16,(t 60)),(16,16,(t 62)),(32,1,(t 64))]))
 (h 8 (WA 34 13 65) g .done .none)) .none) .none) .none))))))) (q (r 1 [UA 14 (.alloc 0 (i j 0)),⟨o,w 1 (t 14) (k (i j 0)),o⟩]) (q (r 0 [UA 66 (.fn 71 [(t 14),(t 13),(t 4)]),MA 15 66])
 (q (q (r 0 [CA 16 0]) (z 3 (.loop c20l0))) (q (r 0 [MA 143 15,LA 144 4,UA 145 (.lens (t 144)),UA 146 (.callv (t 143) [(t 145)])]) (q (r 0 [SA 147 34 13,
 (WA 34 6 147),CA 7 0]) .ret))))))))))
def c44l0:LCode:=q (r 0 [UA 9 (b .lss g (t 8) (t 7))]) (q (c (t 9) .skip (.exit 0)) (q (z 1 (q (r 1 [XA 10 2 6 8,SA 11 2 10,UA 5 (.alloc 0 (.agg #[i j 0,i j 0])),WA 2 5 11])
 (r 0 [MA 12 3,FA 13 1 5,LA 14 13,FA 15 0 5,LA 16 15,UA 17 (b .sub d (t 14) (t 16)),UA 18 (b .add d (t 12) (t 17)),MA 3 18]))) (r 0 [
 (UA 19 (b .add d (t 8) (k (i j 1)))),MA 8 19])))
def c44:LCode:=(q (r 0 [CA 2 0]) (q (r 0 [CA 3 0]) (q (q (r 0 [MA 6 0,UA 7 (n (t 6)),CA 8 0]) (z 0 (.loop c44l0))) (q (r 0 [MA 20 3,
 (MA 2 20)]) .ret))))
def c71:LCode:=(q (r 0 [LA 5 1,MA 6 0,UA 7 (b .lss g (t 5) (t 6))]) (c (t 7) (.tree 2 (v 0 [1,8,9,10] (FA 8 33 2) (v 1 [8,9,10] (LA 9 8) (v 2 [5,6,7,8,9,10] (LA 10 3)
 (v 3 [5,6,7,8,9,10] (LA 11 1) (v 4 [5,6,7,8,9,10] (MA 12 0) (v 5 [6,7,8,9,10] (UA 13 (.prim (.sslc d d) [(t 10),(t 11),(t 12)])) (v 6 [7,8,9,10] (UA 14 (.build [i j 0,i j 0,.string ⟨#[]⟩] [(2,1,(t 13))]))
 (h 7 (UA 15 (.lits 0 3 1 [i j 0,i j 0,.string ⟨#[]⟩] [(0,(t 14))])) d (h 8 (UA 16 (.append 1 3 32 (t 9) (t 15))) g (v 9 [10] (FA 17 33 2) (h 10 (WA 1 17 16) g .done .none)) .none) .none)))))))))
 .skip))
def c87:LCode:=(q (r 0 [UA 4 (m (k (.slice o 0 0)))]) (q (r 0 [MA 6 0,UA 7 (.call 135 [(t 6)]),MA 5 7]) (q (r 0 [MA 8 5,MA 9 1,UA 10 (.call 136 [(t 8),(t 9)])])
 (q (r 0 [MA 11 5,MA 4 11]) .ret))))
def c119l0:LCode:=q (q (r 0 [MA 11 8,MA 12 1,UA 13 (b .leq g (t 11) (t 12))]) (c (t 13) .skip (.exit 0))) (z 1 (q (r 0 [MA 14 0,MA 15 7,MA 16 8,
 (MA 17 2),UA 18 (.call 155 [(t 14),(t 15),(t 16),(t 17)])]) (q (r 0 [MA 19 8,MA 7 19]) (r 0 [MA 20 8,MA 21 6,UA 22 (b .add d (t 20) (t 21)),MA 8 22]))))
def c119l2:LCode:=q (q (r 0 [MA 33 8,MA 34 1,UA 35 (b .leq g (t 33) (t 34))]) (c (t 35) .skip (.exit 4))) (z 5 (q (r 0 [MA 36 0,MA 37 7,MA 38 7,
 (MA 39 6),UA 40 (b .add d (t 38) (t 39)),MA 41 8,MA 42 2,UA 43 (.call 156 [(t 36),(t 37),(t 40),(t 41),(t 42)])]) (q (r 0 [MA 44 8,MA 7 44]) (r 0 [MA 45 8,
 (MA 46 6),UA 47 (b .mul d (k (i j 2)) (t 46)),UA 48 (b .add d (t 45) (t 47)),MA 8 48]))))
def c119l1:LCode:=q (q (r 0 [MA 28 6,MA 29 1,UA 30 (b .lss g (t 28) (t 29))]) (c (t 30) .skip (.exit 2))) (z 3 (q (r 0 [MA 31 6,UA 32 (b .mul d (k (i j 2)) (t 31)),
 (CA 7 0),MA 8 32]) (q (z 4 (.loop c119l2)) (q (q (r 0 [MA 49 7,MA 50 6,UA 51 (b .add d (t 49) (t 50)),MA 9 51]) (q (r 0 [MA 52 9,MA 53 1,
 (UA 54 (b .lss g (t 52) (t 53)))]) (c (t 54) (r 0 [MA 55 0,MA 56 7,MA 57 9,MA 58 1,MA 59 2,UA 60 (.call 156 [(t 55),(t 56),(t 57),(t 58),(t 59)])]) .skip)))
 (r 0 [MA 61 6,UA 62 (b .mul d (t 61) (k (i j 2))),MA 6 62])))))
def c119:LCode:=(q (r 0 [CA 6 20]) (q (r 0 [MA 10 6,CA 7 0,MA 8 10]) (q (z 0 (.loop c119l0)) (q (r 0 [MA 23 0,MA 24 7,MA 25 1,
 (MA 26 2),UA 27 (.call 155 [(t 23),(t 24),(t 25),(t 26)])]) (z 2 (.loop c119l1))))))
def c129l0:LCode:=q (q (r 0 [MA 7 1,UA 8 (.prim (.sbin .neq) [(t 7),(k (.string ⟨#[]⟩))])]) (c (t 8) .skip (.exit 0))) (z 1 (q (r 0 [FA 9 72 2,LA 10 9,UA 11 (b .rem g (t 10) (k (.int .u64 64))),
 (UA 12 (.conv g .i64 (t 11))),MA 5 12]) (q (r 0 [FA 13 8 2,MA 14 5,UA 15 (.prim (.pslc 64 d g g) [(t 13),(t 14)]),MA 16 1,UA 17 (.eff .cps 0 [(t 15),(t 16)]),
 (MA 6 17)]) (q (r 0 [MA 18 1,MA 19 6,UA 20 (.prim (.sslc d g) [(t 18),(t 19)]),MA 1 20]) (q (r 0 [FA 21 72 2,LA 22 21,MA 23 6,UA 24 (.conv g .u64 (t 23)),
 (UA 25 (b .add g (t 22) (t 24))),FA 26 72 2,WA 1 26 25]) (q (r 0 [MA 27 5,MA 28 6,UA 29 (b .add d (t 27) (t 28)),UA 30 (b .eql g (t 29) (k (i j 64)))]) (c (t 30)
 (.tail 4 0 [FA 31 0 2,SA 32 8 31,FA 33 8 2,UA 34 (.prim (.pslc 64 g g g) [(t 33)]),UA 35 (.call 159 [(t 32),(t 34)]),FA 36 0 2,WA 8 36 35])
 .skip)))))))
def c129:LCode:=(q (r 2 [UA 2 (u 0 (t 0)),UA 4 (.alloc 1 (.agg nJ))]) (q (z 0 (.loop c129l0)) (q (r 0 [SA 37 73 2,WA 73 4 37]) .ret)))
def c132l0:LCode:=q (r 0 [UA 17 (b .lss g (t 16) (t 15))]) (q (c (t 17) .skip (.exit 0)) (q (z 1 (q (r 1 [XA 18 2 14 16,SA 19 2 18,UA 6 (.alloc 0 (.agg #[i j 0,i j 0])),
 (WA 2 6 19)]) (r 2 [MA 20 4,FA 21 0 6,LA 22 21,FA 23 1 6,LA 24 23,UA 25 (.lits 0 1 2 [i j 0] [(0,(t 22)),(1,(t 24))]),UA 26 (.append 1 1 8 (t 20) (t 25)),
 (MA 4 26)]))) (r 0 [UA 27 (b .add d (t 16) (k (i j 1))),MA 16 27])))
def c132l2:LCode:=q (q (.qui 0 [MA 48 7,LA 49 1,UA 50 (n (t 49)),UA 51 (b .lss g (t 48) (t 50)),MA 52 51,GA 53 (l o (t 1)) 52 d,GA 54 (m (t 7)) 52 d,
 (GA 55 (x 2 (t 53) (t 54)) 52 d),GA 56 (f 1 (t 55)) 52 d,GA 57 (l o (t 56)) 52 d,GA 58 (f 0 (t 10)) 52 d,GA 59 (l o (t 58)) 52 d,GA 60 (b .leq g (t 57) (t 59)) 52 d,UA 61 (p (t 52) (t 60) (k (y g)))])
 (c (t 61) .skip (.exit 4))) (z 5 (r 0 [MA 62 7,UA 63 (b .add d (t 62) (k (i j 1))),MA 7 63]))
def c132l3:LCode:=q (q (.qui 0 [MA 64 8,LA 65 2,UA 66 (n (t 65)),UA 67 (b .lss g (t 64) (t 66)),MA 68 67,GA 69 (l o (t 2)) 68 d,GA 70 (m (t 8)) 68 d,
 (GA 71 (x 2 (t 69) (t 70)) 68 d),GA 72 (f 1 (t 71)) 68 d,GA 73 (l o (t 72)) 68 d,GA 74 (f 0 (t 10)) 68 d,GA 75 (l o (t 74)) 68 d,GA 76 (b .leq g (t 73) (t 75)) 68 d,UA 77 (p (t 68) (t 76) (k (y g)))])
 (c (t 77) .skip (.exit 6))) (z 7 (r 0 [MA 78 8,UA 79 (b .add d (t 78) (k (i j 1))),MA 8 79]))
def c132l1:LCode:=q (q (r 0 [MA 32 9,MA 33 4,UA 34 (n (t 33)),UA 35 (b .lss g (t 32) (t 34))]) (c (t 35) .skip (.exit 2))) (q (z 3 (q (.tree 1 (v 0 [3,4,9,11] (MA 38 4)
 (v 1 [2,3,4,9,11] (MA 39 9) (v 2 [3,4,9,11] (UA 40 (b .sub d (t 39) (k (i j 1)))) (v 3 [4,9,11] (XA 41 1 38 40) (v 4 [9,11] (LA 42 41) (v 5 [7,8,9,11] (MA 43 4) (v 6 [7,8,9,11] (MA 44 9)
 (v 7 [8,9,11] (XA 45 1 43 44) (v 8 [9,11] (LA 46 45) (v 9 [11] (UA 47 (.build [i j 0,i j 0] [(0,1,(t 42)),(1,1,(t 46))])) (h 10 (UA 10 (.alloc 0 (.agg #[i j 0,i j 0]))) d (h 11 (WA 2 10 47) g
 .done .none) .none)))))))))))) (q (z 4 (.loop c132l2)) (q (z 6 (.loop c132l3)) (q (.yreg 31 0 [MA 80 0,SA 81 2 10,MA 82 7,LA 83 1,UA 84 (n (t 83)),UA 85 (b .lss g (t 82) (t 84)),
 (MA 86 85),GA 87 (l o (t 1)) 86 d,GA 88 (m (t 7)) 86 d,GA 89 (x 2 (t 87) (t 88)) 86 d,GA 90 (f 0 (t 89)) 86 d,GA 91 (l o (t 90)) 86 d,GA 92 (f 0 (t 10)) 86 d,
 (GA 93 (l o (t 92)) 86 d),GA 94 (b .leq g (t 91) (t 93)) 86 d,UA 95 (p (t 86) (t 94) (k (y g))),MA 96 8,LA 97 2,UA 98 (n (t 97)),UA 99 (b .lss g (t 96) (t 98)),MA 100 99,
 (GA 101 (l o (t 2)) 100 d),GA 102 (m (t 8)) 100 d,GA 103 (x 2 (t 101) (t 102)) 100 d,GA 104 (f 0 (t 103)) 100 d,GA 105 (l o (t 104)) 100 d,GA 106 (f 0 (t 10)) 100 d,GA 107 (l o (t 106)) 100 d,
 (GA 108 (b .leq g (t 105) (t 107)) 100 d),UA 109 (p (t 100) (t 108) (k (y g))),UA 110 (.build [.bool g,.bool g] [(0,1,(t 95)),(1,1,(t 109))]),UA 111 (.yld (t 80) [(t 81),(t 110)]),UA 112 (.not (t 111))])
 (c (t 112) .ret .skip)))))) (r 0 [MA 36 9,UA 37 (b .add d (t 36) (k (i j 1))),MA 9 37]))
def c132:LCode:=(q (r 0 [UA 4 (m (k (.slice o 0 0)))]) (q (q (r 1 [LA 11 1,LA 12 2,UA 13 (.lits 0 1 2 [.slice o 0 0] [(0,(t 11)),(1,(t 12))]),UA 14 (.call 69 [(t 13)]),
 (UA 15 (n (t 14))),CA 16 0]) (z 0 (.loop c132l0))) (q (r 0 [MA 28 4,UA 29 (.call 133 [(t 28)])]) (q (r 0 [MA 30 4,UA 31 (.call 134 [(t 30)]),MA 4 31])
 (q (r 0 [CA 7 0,CA 8 0]) (q (r 0 [CA 9 1]) (z 2 (.loop c132l1))))))))
def c135:LCode:=(q (r 0 [UA 2 (m (k (.slice o 0 0)))]) (q (r 0 [MA 3 0,UA 4 (.call 162 [(k (.slice o 0 0)),(t 3)]),MA 2 4]) .ret))
def c160l0:LCode:=q (q (r 0 [MA 12 3,UA 13 (b .gtr g (t 12) (k (.int .u64 127)))]) (c (t 13) .skip (.exit 0))) (q (z 1 (r 2 [MA 16 4,MA 17 3,UA 18 (.conv g .u8 (t 17)),
 (UA 19 (b .or g (t 18) (k (.int .u8 128)))),UA 20 (.lits 0 1 1 [.int .u8 0] [(0,(t 19))]),UA 21 (.append 1 1 1 (t 16) (t 20)),MA 4 21])) (r 0 [MA 14 3,UA 15 (.shift .shr (t 14) (k (.int .u64 7))),
 (MA 3 15)]))
def c160:LCode:=(q (r 0 [UA 2 (m (k (.slice o 0 0)))]) (q (r 0 [MA 5 0,UA 6 (.conv g .u64 (t 5)),UA 7 (.shift .shl (t 6) (k (.int .u64 1))),MA 8 0,UA 9 (.shift .shr (t 8) (k (.int .u64 63))),
 (UA 10 (.conv g .u64 (t 9))),UA 11 (b .xor g (t 7) (t 10)),MA 3 11]) (q (r 0 [UA 4 (m (k (.slice o 0 0)))]) (q (z 0 (.loop c160l0)) (q (r 2 [MA 22 4,MA 23 3,UA 24 (.conv g .u8 (t 23)),
 (UA 25 (.lits 0 1 1 [.int .u8 0] [(0,(t 24))])),UA 26 (.append 1 1 1 (t 22) (t 25)),MA 2 26]) .ret)))))
def c211:LCode:=(q (r 0 [UA 4 (m (k (.int .u32 0)))]) (q (r 0 [MA 6 1,UA 7 (.conv g .u64 (t 6)),UA 8 (b .and g (t 7) (k (.int .u64 31))),MA 5 8]) (q (r 0 [MA 9 0,
 (MA 10 5),UA 11 (.shift .shl (t 9) (t 10)),MA 12 0,MA 13 5,UA 14 (b .sub g (k (.int .u64 32)) (t 13)),UA 15 (.shift .shr (t 12) (t 14)),UA 16 (b .or g (t 11) (t 15)),
 (MA 4 16)]) .ret)))
open Go Go.Fx Go.Proofs
theorem lw20:rlF Tryz.prog 20 c20=some (c20,[.cell 6 (some 34),.tmp 7],148):=by kernel_rfl
theorem lw44:rlF Tryz.prog 44 c44=some (c44,[.tmp 2],21):=by kernel_rfl
theorem lw71:rlF Tryz.prog 71 c71=some (c71,[],18):=by kernel_rfl
theorem lw87:rlF Tryz.prog 87 c87=some (c87,[.tmp 4],12):=by kernel_rfl
theorem lw119:rlF Tryz.prog 119 c119=some (c119,[],63):=by kernel_rfl
theorem lw129:rlF Tryz.prog 129 c129=some (c129,[.cell 4 (some 73)],38):=by kernel_rfl
theorem lw132:rlF Tryz.prog 132 c132=some (c132,[],113):=by kernel_rfl
theorem lw135:rlF Tryz.prog 135 c135=some (c135,[.tmp 2],5):=by kernel_rfl
theorem lw160:rlF Tryz.prog 160 c160=some (c160,[.tmp 2],27):=by kernel_rfl
theorem lw211:rlF Tryz.prog 211 c211=some (c211,[.tmp 4],17):=by kernel_rfl
end Go.Fx.H
namespace Go.Fx.H
open Go Go.Fx
open Go.Operand renaming tmp → t, const → k
open Go.Value renaming int → i, bool → y
open Go.IntKind renaming i64 → j
open Option renaming some → s, none → o
open Go.Fx.LOp renaming mov → m, load → l, fld → f, bin → b, idx → x, store → w, pick → p, len → n, box → u
open Go.Fx.LCode renaming seq → q, reg → r, cond → c, block → z
open Go.Fx.LPlan renaming take → v, alt → h
open Bool renaming false → g, true → d
def c3:LCode:=(q (r 1 [UA 4 (u 0 (t 0)),UA 8 (m (k (y g)))]) (q (q (r 0 [SA 12 18 4,UA 13 (.call 12 [(t 12)]),UA 14 (.not (t 13)),MA 15 14,GA 16 (f 0 (t 4)) 15 g,
 (GA 17 (l o (t 16)) 15 g),GA 18 (b .gtr g (t 17) (k (i j 300))) 15 g,UA 19 (p (t 15) (k (y d)) (t 18)),MA 20 19,GA 21 (m (t 1)) 20 g,GA 22 (n (t 21)) 20 g,GA 23 (b .gtr g (t 22) (k (i j 310))) 20 g,
 (UA 24 (p (t 20) (k (y d)) (t 23))),MA 25 24,GA 26 (m (t 2)) 25 g,GA 27 (.lens (t 26)) 25 g,GA 28 (b .gtr g (t 27) (k (i j 310))) 25 g,UA 29 (p (t 25) (k (y d)) (t 28)),MA 30 29,
 (GA 31 (m (t 3)) 30 g),GA 32 (n (t 31)) 30 g,GA 33 (b .gtr g (t 32) (k (i j 40))) 30 g,UA 34 (p (t 30) (k (y d)) (t 33))]) (c (t 34) (q (r 0 [UA 35 (.call 13 []),MA 8 35])
 .ret) .skip)) (q (r 0 [SA 37 18 4,MA 38 1,MA 39 2,MA 40 3,UA 41 (.call 14 [(t 37),(t 38),(t 39),(t 40)]),MA 36 41,UA 42 (.ext (t 36) 0),UA 43 (.ext (t 36) 1),
 (MA 9 42),MA 10 43]) (q (r 1 [SA 44 18 4,MA 45 1,MA 46 2,MA 47 3,UA 48 (.call 15 [(t 44),(t 45),(t 46),(t 47)]),UA 11 (.alloc 0 (.agg #[.slice o 0 0,i j 0])),
 (WA 2 11 48)]) (q (r 0 [UA 49 (.call 13 []),MA 50 49,GA 51 (m (t 9)) 50 d,GA 52 (f 0 (t 11)) 50 d,GA 53 (l o (t 52)) 50 d,GA 54 (.call 16 [(t 51),(t 53)]) 50 d,
 (UA 55 (p (t 50) (t 54) (k (y g)))),MA 56 55,GA 57 (m (t 10)) 56 d,GA 58 (f 1 (t 11)) 56 d,GA 59 (l o (t 58)) 56 d,GA 60 (b .eql g (t 57) (t 59)) 56 d,UA 61 (p (t 56) (t 60) (k (y g))),
 (MA 8 61)]) .ret)))))
def c17l0:LCode:=q (q (r 0 [MA 16 7,MA 17 0,UA 18 (n (t 17)),UA 19 (b .lss g (t 16) (t 18))]) (c (t 19) .skip (.exit 0))) (q (z 1 (.tree 2 (v 0 [14,15] (MA 22 6) (v 1 [4,5,6,12,13,14,15] (MA 23 0)
 (v 2 [3,4,5,6,12,13,14,15] (MA 24 7) (v 3 [4,5,6,12,13,14,15] (UA 25 (b .sub d (t 24) (k (i j 1)))) (v 4 [5,6,12,13,14,15] (XA 26 2 23 25) (v 5 [6,12,13,14,15] (FA 27 1 26) (v 6 [12,13,14,15] (LA 28 27)
 (v 7 [9,10,11,12,13,14,15] (MA 29 0) (v 8 [9,10,11,12,13,14,15] (MA 30 7) (v 9 [10,11,12,13,14,15] (XA 31 2 29 30) (v 10 [11,12,13,14,15] (FA 32 0 31) (v 11 [12,13,14,15] (LA 33 32)
 (v 12 [13,14,15] (UA 34 (.build [i j 0,i j 0] [(0,1,(t 28)),(1,1,(t 33))])) (h 13 (UA 35 (.lits 0 2 1 [i j 0,i j 0] [(0,(t 34))])) g (h 14 (UA 36 (.append 1 2 16 (t 22) (t 35))) g (v 15 [] (MA 6 36)
 .done) .none) .none)))))))))))))))) (r 0 [MA 20 7,UA 21 (b .add d (t 20) (k (i j 1))),MA 7 21]))
def c17:LCode:=(q (r 0 [UA 4 (m (k (.slice o 0 0))),CA 5 0]) (q (q (r 0 [MA 9 0,UA 10 (.call 45 [(t 9)]),UA 11 (.not (t 10)),MA 12 11,GA 13 (m (t 1)) 12 g,
 (GA 14 (b .lss g (t 13) (k (i j 1))) 12 g),UA 15 (p (t 12) (k (y d)) (t 14))]) (c (t 15) (q (r 0 [UA 4 (m (k (.slice o 0 0))),CA 5 1]) .ret) .skip)) (q (r 0 [UA 6 (m (k (.slice o 0 0)))])
 (q (q (r 0 [CA 7 1]) (z 0 (.loop c17l0))) (q (r 0 [MA 37 6,UA 38 (.call 67 [(t 37),(.func 68)])]) (q (r 0 [MA 39 6,MA 40 6,UA 41 (n (t 40)),MA 42 0,
 (UA 43 (n (t 42))),MA 44 1,UA 45 (b .sub d (t 43) (t 44)),UA 46 (.minmax g (t 41) (t 45)),UA 47 (.minmax d (k (i j 0)) (t 46)),UA 48 (.slice 2 (t 39) o (s (t 47)) o),MA 8 48])
 (q (r 1 [MA 49 0,MA 50 8,UA 51 (.litsf [49,50] 0 1 2 [.slice o 0 0] [(0,(t 49)),(1,(t 50))]),UA 52 (.call 69 [(t 51)]),UA 53 (.call 48 [(t 52)]),MA 4 53,CA 5 0])
 .ret)))))))
def c42:LCode:=(q (r 1 [UA 3 (u 0 (t 1)),UA 4 (m (k (y g)))]) (q (r 0 [MA 5 0,SA 6 2 3,UA 7 (.call 83 [(t 5),(t 6)]),UA 8 (n (t 7)),UA 9 (b .eql g (t 8) (k (i j 0))),
 (MA 4 9)]) .ret))
def c43:LCode:=(q (r 1 [UA 2 (.alloc 0 (.agg (yaa 16 (.int .u8 0))))]) (q (r 1 [MA 3 0,UA 4 (.lits 0 1 1 [.string ⟨#[]⟩] [(0,(t 3))]),UA 5 (.call 84 [(k (i j 30)),(t 4)]),
 (WA 16 2 5)]) .ret))
def c47a0:LCode:=q (r 1 [UA 6 (.alloc 0 (.agg #[i j 0,i j 0])),WA 2 6 11]) (r 1 [UA 7 (.alloc 0 (.agg #[.bool g,.bool g])),WA 2 7 12])
def c47r0:LCode:=z 1 (q (r 0 [UA 13 (.prim (.pidx 2 1) [(t 7),(k (i j 0))]),LA 14 13,MA 15 14,GA 16 (.prim (.pidx 2 1) [(t 7),(k (i j 1))]) 15 d,GA 17 (l o (t 16)) 15 d,
 (UA 18 (p (t 15) (t 17) (k (y g))))]) (c (t 18) (r 2 [LA 19 5,SA 20 2 6,UA 21 (.lits 0 2 1 [i j 0,i j 0] [(0,(t 20))]),UA 22 (.append 1 2 16 (t 19) (t 21)),WA 1 5 22])
 .skip))
def c47:LCode:=(q (r 0 [UA 4 (m (k (.slice o 0 0)))]) (q (r 1 [UA 5 (.alloc 0 (.slice o 0 0))]) (q (q (r 0 [MA 8 0,MA 9 1,UA 10 (.call 86 [(t 8),(t 9)])]) (z 0 (.rfn (t 10) [11,12]
 c47a0 c47r0))) (q (r 0 [LA 23 5,UA 24 (.call 48 [(t 23)]),MA 4 24]) .ret))))
def c85:LCode:=(q (r 1 [UA 1 (u 0 (t 0)),UA 2 (m (k (y g)))]) (q (r 0 [FA 3 0 1,LA 4 3,UA 5 (b .geq g (t 4) (k (i j 0))),MA 6 5,GA 7 (f 0 (t 1)) 6 d,GA 8 (l o (t 7)) 6 d,
 (GA 9 (f 1 (t 1)) 6 d),GA 10 (l o (t 9)) 6 d,GA 11 (b .lss g (t 8) (t 10)) 6 d,UA 12 (p (t 6) (t 11) (k (y g))),MA 13 12,GA 14 (f 1 (t 1)) 13 d,GA 15 (l o (t 14)) 13 d,
 (GA 16 (b .leq g (t 15) (k (i j 1099511627776))) 13 d),UA 17 (p (t 13) (t 16) (k (y g))),MA 2 17]) .ret))
def c125:LCode:=(q (r 1 [UA 7 (.alloc 0 (.agg (yaa 16 (.int .u8 0))))]) (q (q (r 0 [MA 10 1,UA 11 (b .eql g (t 10) (k (i j 1)))]) (c (t 11) (q (r 0 [SA 12 16 2,
 (WA 16 7 12)]) .ret) .skip)) (q (.tree 1 (v 0 [1,3,5,6] (MA 13 1) (h 1 (UA 14 (.call 109 [(t 13)])) g (v 2 [3,5,6] (LA 15 3) (h 3 (UA 16 (.call 126 [(t 15)])) g (h 4 (UA 9 (.alloc 0 (.agg (yaa 16 (.int .u8 0))))) d
 (v 5 [6] (MA 8 14) (h 6 (WA 16 9 16) g .done .none)) .none) (h 4 (UA 9 (.alloc 0 (.agg (yaa 16 (.int .u8 0))))) d (h 3 (UA 16 (.call 126 [(t 15)])) g (v 5 [6] (MA 8 14)
 (h 6 (WA 16 9 16) g .done .none)) .none) .none))) (h 2 (LA 15 3) d (h 1 (UA 14 (.call 109 [(t 13)])) g (h 3 (UA 16 (.call 126 [(t 15)])) g (h 4 (UA 9 (.alloc 0 (.agg (yaa 16 (.int .u8 0))))) d
 (v 5 [6] (MA 8 14) (h 6 (WA 16 9 16) g .done .none)) .none) (h 4 (UA 9 (.alloc 0 (.agg (yaa 16 (.int .u8 0))))) d (h 3 (UA 16 (.call 126 [(t 15)])) g (v 5 [6] (MA 8 14)
 (h 6 (WA 16 9 16) g .done .none)) .none) .none)) (h 4 (UA 9 (.alloc 0 (.agg (yaa 16 (.int .u8 0))))) d (h 1 (UA 14 (.call 109 [(t 13)])) g (h 3 (UA 16 (.call 126 [(t 15)])) g (v 5 [6] (MA 8 14)
 (h 6 (WA 16 9 16) g .done .none)) .none) .none) .none)) (h 4 (UA 9 (.alloc 0 (.agg (yaa 16 (.int .u8 0))))) d (h 1 (UA 14 (.call 109 [(t 13)])) g (v 2 [3,5,6] (LA 15 3) (h 3 (UA 16 (.call 126 [(t 15)])) g
 (v 5 [6] (MA 8 14) (h 6 (WA 16 9 16) g .done .none)) .none)) (h 2 (LA 15 3) d (h 1 (UA 14 (.call 109 [(t 13)])) g (h 3 (UA 16 (.call 126 [(t 15)])) g (v 5 [6] (MA 8 14)
 (h 6 (WA 16 9 16) g .done .none)) .none) .none) .none)) .none))))) (q (q (r 0 [MA 17 0,MA 18 8,UA 19 (b .lss g (t 17) (t 18))]) (c (t 19) (q (.tree 0 (v 0 [3,5,6] (LA 20 4)
 (v 1 [3,5,6] (MA 21 0) (v 2 [3,5,6] (MA 22 8) (h 3 (UA 23 (.callv (t 20) [(t 21),(t 22)])) g (v 4 [5,6] (SA 24 16 9) (h 5 (UA 25 (.call 110 [(t 23),(t 24)])) g (h 6 (WA 16 7 25) g
 .done .none) .none)) (h 4 (SA 24 16 9) d (h 3 (UA 23 (.callv (t 20) [(t 21),(t 22)])) g (h 5 (UA 25 (.call 110 [(t 23),(t 24)])) g (h 6 (WA 16 7 25) g .done .none) .none) .none) .none))))))
 .ret) .skip)) (q (.tree 0 (v 1 [8,9,10] (LA 27 4) (v 2 [4,8,9,10] (MA 28 0) (v 3 [4,8,9,10] (MA 29 8) (v 4 [8,9,10] (UA 30 (b .sub d (t 28) (t 29))) (v 5 [7,8,9,10] (MA 31 1)
 (v 6 [7,8,9,10] (MA 32 8) (v 7 [8,9,10] (UA 33 (b .sub d (t 31) (t 32))) (h 0 (SA 26 16 9) d (h 8 (UA 34 (.callv (t 27) [(t 30),(t 33)])) g (h 9 (UA 35 (.call 110 [(t 26),(t 34)])) g (h 10 (WA 16 7 35) g
 .done .none) .none) .none) (h 8 (UA 34 (.callv (t 27) [(t 30),(t 33)])) g (v 0 [9,10] (SA 26 16 9) (h 9 (UA 35 (.call 110 [(t 26),(t 34)])) g (h 10 (WA 16 7 35) g .done .none) .none))
 .none)))))))))) .ret)))))
def c156l0:LCode:=q (q (r 0 [MA 31 10,MA 32 11,UA 33 (b .lss g (t 31) (t 32))]) (c (t 33) .skip (.exit 0))) (z 1 (q (r 0 [MA 34 10,MA 35 11,UA 36 (b .add d (t 34) (t 35)),
 (UA 37 (.conv g .u64 (t 36))),UA 38 (.shift .shr (t 37) (k (.int .u64 1))),UA 39 (.conv g .i64 (t 38)),MA 12 39]) (q (.tail 9 0 [MA 40 4,MA 41 0,MA 42 12,XA 43 2 41 42,
 (SA 44 2 43),MA 45 0,MA 46 1,XA 47 2 45 46,SA 48 2 47,UA 49 (.callv (t 40) [(t 44),(t 48)]),UA 50 (b .lss g (t 49) (k (i j 0)))]) (c (t 50)
 (r 0 [MA 51 12,UA 52 (b .add d (t 51) (k (i j 1))),MA 10 52]) (r 0 [MA 53 12,MA 11 53])))))
def c156l1:LCode:=q (q (r 0 [MA 55 13,MA 56 10,UA 57 (b .sub d (t 56) (k (i j 1))),UA 58 (b .lss g (t 55) (t 57))]) (c (t 58) .skip (.exit 2))) (q (z 3 (.tree 0 (v 0 [14,15,16,17] (MA 61 0)
 (v 1 [14,15,16,17] (MA 62 13) (v 2 [16,17] (MA 63 0) (v 3 [4,16,17] (MA 64 13) (v 4 [16,17] (UA 65 (b .add d (t 64) (k (i j 1)))) (v 5 [8,9,14,15,16,17] (MA 66 0) (v 6 [7,8,9,14,15,16,17] (MA 67 13)
 (v 7 [8,9,14,15,16,17] (UA 68 (b .add d (t 67) (k (i j 1)))) (v 8 [9,14,15,16,17] (XA 69 2 66 68) (v 9 [14,15,16,17] (SA 70 2 69) (v 10 [12,13,14,15,16,17] (MA 71 0) (v 11 [12,13,14,15,16,17] (MA 72 13)
 (v 12 [13,14,15,16,17] (XA 73 2 71 72) (v 13 [14,15,16,17] (SA 74 2 73) (v 14 [15,16,17] (XA 75 2 61 62) (h 15 (WA 2 75 70) g (v 16 [17] (XA 76 2 63 65)
 (h 17 (WA 2 76 74) g .done .none)) .none)))))))))))))))))) (r 0 [MA 59 13,UA 60 (b .add d (t 59) (k (i j 1))),MA 13 60]))
def c156l2:LCode:=q (q (r 0 [MA 83 14,MA 84 15,UA 85 (b .lss g (t 83) (t 84))]) (c (t 85) .skip (.exit 4))) (z 5 (q (r 0 [MA 86 14,MA 87 15,UA 88 (b .add d (t 86) (t 87)),
 (UA 89 (.conv g .u64 (t 88))),UA 90 (.shift .shr (t 89) (k (.int .u64 1))),UA 91 (.conv g .i64 (t 90)),MA 16 91]) (q (.tail 9 0 [MA 92 4,MA 93 0,MA 94 2,XA 95 2 93 94,
 (SA 96 2 95),MA 97 0,MA 98 16,XA 99 2 97 98,SA 100 2 99,UA 101 (.callv (t 92) [(t 96),(t 100)]),UA 102 (b .lss g (t 101) (k (i j 0))),UA 103 (.not (t 102))])
 (c (t 103) (r 0 [MA 104 16,UA 105 (b .add d (t 104) (k (i j 1))),MA 14 105]) (r 0 [MA 106 16,MA 15 106])))))
def c156l3:LCode:=q (q (r 0 [MA 108 17,MA 109 14,UA 110 (b .gtr g (t 108) (t 109))]) (c (t 110) .skip (.exit 6))) (q (z 7 (.tree 0 (v 0 [14,15,16,17] (MA 113 0) (v 1 [14,15,16,17] (MA 114 17)
 (v 2 [16,17] (MA 115 0) (v 3 [4,16,17] (MA 116 17) (v 4 [16,17] (UA 117 (b .sub d (t 116) (k (i j 1)))) (v 5 [8,9,14,15,16,17] (MA 118 0) (v 6 [7,8,9,14,15,16,17] (MA 119 17)
 (v 7 [8,9,14,15,16,17] (UA 120 (b .sub d (t 119) (k (i j 1)))) (v 8 [9,14,15,16,17] (XA 121 2 118 120) (v 9 [14,15,16,17] (SA 122 2 121) (v 10 [12,13,14,15,16,17] (MA 123 0)
 (v 11 [12,13,14,15,16,17] (MA 124 17) (v 12 [13,14,15,16,17] (XA 125 2 123 124) (v 13 [14,15,16,17] (SA 126 2 125) (v 14 [15,16,17] (XA 127 2 113 114) (h 15 (WA 2 127 122) g
 (v 16 [17] (XA 128 2 115 117) (h 17 (WA 2 128 126) g .done .none)) .none)))))))))))))))))) (r 0 [MA 111 17,UA 112 (b .sub d (t 111) (k (i j 1))),MA 17 112]))
def c156l4:LCode:=q (q (r 0 [MA 149 20,MA 150 21,UA 151 (b .lss g (t 149) (t 150))]) (c (t 151) .skip (.exit 8))) (z 9 (q (r 0 [MA 152 20,MA 153 21,UA 154 (b .add d (t 152) (t 153)),
 (UA 155 (.conv g .u64 (t 154))),UA 156 (.shift .shr (t 155) (k (.int .u64 1))),UA 157 (.conv g .i64 (t 156)),MA 23 157]) (q (.tail 11 0 [MA 158 4,MA 159 0,MA 160 22,
 (MA 161 23),UA 162 (b .sub d (t 160) (t 161)),XA 163 2 159 162,SA 164 2 163,MA 165 0,MA 166 23,XA 167 2 165 166,SA 168 2 167,
 (UA 169 (.callv (t 158) [(t 164),(t 168)])),UA 170 (b .lss g (t 169) (k (i j 0))),UA 171 (.not (t 170))]) (c (t 171) (r 0 [MA 172 23,UA 173 (b .add d (t 172) (k (i j 1))),MA 20 173])
 (r 0 [MA 174 23,MA 21 174])))))
def c156:LCode:=(q (q (r 0 [MA 25 2,MA 26 1,UA 27 (b .sub d (t 25) (t 26)),UA 28 (b .eql g (t 27) (k (i j 1)))]) (c (t 28) (q (r 0 [MA 29 2,MA 10 29]) (q
 (r 0 [MA 30 3,MA 11 30]) (q (z 0 (.loop c156l0)) (q (q (r 0 [MA 54 1,MA 13 54]) (z 2 (.loop c156l1))) .ret)))) .skip)) (q (q (r 0 [MA 77 3,MA 78 2,
 (UA 79 (b .sub d (t 77) (t 78))),UA 80 (b .eql g (t 79) (k (i j 1)))]) (c (t 80) (q (r 0 [MA 81 1,MA 14 81]) (q (r 0 [MA 82 2,MA 15 82]) (q (z 4 (.loop c156l2))
 (q (q (r 0 [MA 107 2,MA 17 107]) (z 6 (.loop c156l3))) .ret)))) .skip)) (q (r 0 [MA 129 1,MA 130 3,UA 131 (b .add d (t 129) (t 130)),UA 132 (.conv g .u64 (t 131)),
 (UA 133 (.shift .shr (t 132) (k (.int .u64 1)))),UA 134 (.conv g .i64 (t 133)),MA 18 134]) (q (r 0 [MA 135 18,MA 136 2,UA 137 (b .add d (t 135) (t 136)),MA 19 137])
 (q (r 0 [CA 20 0,CA 21 0]) (q (q (r 0 [MA 138 2,MA 139 18,UA 140 (b .gtr g (t 138) (t 139))]) (c (t 140) (q (r 0 [MA 141 19,MA 142 3,
 (UA 143 (b .sub d (t 141) (t 142))),MA 20 143]) (r 0 [MA 144 18,MA 21 144])) (q (r 0 [MA 145 1,MA 20 145]) (r 0 [MA 146 2,MA 21 146]))))
 (q (r 0 [MA 147 19,UA 148 (b .sub d (t 147) (k (i j 1))),MA 22 148]) (q (z 8 (.loop c156l4)) (q (r 0 [MA 175 19,MA 176 20,UA 177 (b .sub d (t 175) (t 176)),
 (MA 24 177)]) (q (q (r 0 [MA 178 20,MA 179 2,UA 180 (b .lss g (t 178) (t 179)),MA 181 180,GA 182 (m (t 2)) 181 d,GA 183 (m (t 24)) 181 d,GA 184 (b .lss g (t 182) (t 183)) 181 d,
 (UA 185 (p (t 181) (t 184) (k (y g))))]) (c (t 185) (r 0 [MA 186 0,MA 187 20,MA 188 2,MA 189 24,MA 190 4,UA 191 (.call 181 [(t 186),(t 187),(t 188),(t 189),(t 190)])])
 .skip)) (q (q (r 0 [MA 192 1,MA 193 20,UA 194 (b .lss g (t 192) (t 193)),MA 195 194,GA 196 (m (t 20)) 195 d,GA 197 (m (t 18)) 195 d,GA 198 (b .lss g (t 196) (t 197)) 195 d,
 (UA 199 (p (t 195) (t 198) (k (y g))))]) (c (t 199) (r 0 [MA 200 0,MA 201 1,MA 202 20,MA 203 18,MA 204 4,UA 205 (.call 156 [(t 200),(t 201),(t 202),(t 203),(t 204)])])
 .skip)) (q (r 0 [MA 206 18,MA 207 24,UA 208 (b .lss g (t 206) (t 207)),MA 209 208,GA 210 (m (t 24)) 209 d,GA 211 (m (t 3)) 209 d,GA 212 (b .lss g (t 210) (t 211)) 209 d,
 (UA 213 (p (t 209) (t 212) (k (y g))))]) (c (t 213) (r 0 [MA 214 0,MA 215 18,MA 216 24,MA 217 3,MA 218 4,UA 219 (.call 156 [(t 214),(t 215),(t 216),(t 217),(t 218)])])
 .skip)))))))))))))
open Go Go.Fx Go.Proofs
theorem lw17:rlF Tryz.prog 17 c17=some (c17,[.tmp 4,.tmp 5],54):=by kernel_rfl
theorem lw42:rlF Tryz.prog 42 c42=some (c42,[.tmp 4],10):=by kernel_rfl
theorem lw43:rlF Tryz.prog 43 c43=some (c43,[.cell 2 (some 16)],6):=by kernel_rfl
theorem lw47:rlF Tryz.prog 47 c47=some (c47,[.tmp 4],25):=by kernel_rfl
theorem lw85:rlF Tryz.prog 85 c85=some (c85,[.tmp 2],18):=by kernel_rfl
theorem lw125:rlF Tryz.prog 125 c125=some (c125,[.cell 7 (some 16)],36):=by kernel_rfl
theorem lw156:rlF Tryz.prog 156 c156=some (c156,[],220):=by kernel_rfl
end Go.Fx.H
namespace Go.Fx.H
open Go Go.Fx
open Go.Operand renaming tmp → t, const → k
open Go.Value renaming int → i, bool → y
open Go.IntKind renaming i64 → j
open Option renaming some → s, none → o
open Go.Fx.LOp renaming mov → m, load → l, fld → f, bin → b, idx → x, store → w, pick → p, len → n, box → u
open Go.Fx.LCode renaming seq → q, reg → r, cond → c, block → z
open Go.Fx.LPlan renaming take → v, alt → h
open Bool renaming false → g, true → d
def c46a0:LCode:=q (r 1 [UA 6 (.alloc 0 (.agg #[i j 0,i j 0])),WA 2 6 11]) (r 1 [UA 7 (.alloc 0 (.agg #[.bool g,.bool g])),WA 2 7 12])
def c46r0:LCode:=z 1 (q (r 0 [UA 13 (.prim (.pidx 2 1) [(t 7),(k (i j 0))]),LA 14 13,MA 15 14,GA 16 (.prim (.pidx 2 1) [(t 7),(k (i j 1))]) 15 d,GA 17 (l o (t 16)) 15 d,
 (GA 18 (.not (t 17)) 15 d),UA 19 (p (t 15) (t 18) (k (y g)))]) (c (t 19) (r 2 [LA 20 5,SA 21 2 6,UA 22 (.lits 0 2 1 [i j 0,i j 0] [(0,(t 21))]),UA 23 (.append 1 2 16 (t 20) (t 22)),
 (WA 1 5 23)]) .skip))
def c46:LCode:=(q (r 0 [UA 4 (m (k (.slice o 0 0)))]) (q (r 1 [UA 5 (.alloc 0 (.slice o 0 0))]) (q (q (r 0 [MA 8 0,MA 9 1,UA 10 (.call 86 [(t 8),(t 9)])]) (z 0 (.rfn (t 10) [11,12]
 c46a0 c46r0))) (q (r 0 [LA 24 5,UA 25 (.call 48 [(t 24)]),MA 4 25]) .ret))))
def c48l0:LCode:=q (r 0 [UA 14 (b .lss g (t 13) (t 12))]) (q (c (t 14) .skip (.exit 0)) (q (z 1 (q (r 1 [XA 15 2 11 13,SA 16 2 15,UA 6 (.alloc 0 (.agg #[i j 0,i j 0])),
 (WA 2 6 16)]) (q (r 0 [MA 17 4,UA 18 (n (t 17)),MA 7 18]) (z 2 (q (r 0 [FA 24 0 6,LA 25 24,FA 26 1 6,LA 27 26,UA 28 (b .geq g (t 25) (t 27)),
 (MA 23 28)]) (c (t 23) .skip (q (.qui 0 [MA 30 7,UA 31 (b .gtr g (t 30) (k (i j 0))),MA 32 31,GA 33 (f 0 (t 6)) 32 d,GA 34 (l o (t 33)) 32 d,GA 35 (m (t 4)) 32 d,
 (GA 36 (m (t 7)) 32 d),GA 37 (b .sub d (t 36) (k (i j 1))) 32 d,GA 38 (x 2 (t 35) (t 37)) 32 d,GA 39 (f 1 (t 38)) 32 d,GA 40 (l o (t 39)) 32 d,GA 41 (b .leq g (t 34) (t 40)) 32 d,
 (UA 42 (p (t 32) (t 41) (k (y g)))),MA 29 42]) (c (t 29) (.tail 14 0 [MA 43 4,MA 44 7,UA 45 (b .sub d (t 44) (k (i j 1))),MA 46 4,MA 47 7,UA 48 (b .sub d (t 47) (k (i j 1))),
 (XA 49 2 46 48),FA 50 1 49,LA 51 50,FA 52 1 6,LA 53 52,UA 54 (.minmax d (t 51) (t 53)),XA 55 2 43 45,FA 56 1 55,WA 1 56 54])
 (r 2 [MA 19 4,SA 20 2 6,UA 21 (.lits 0 2 1 [i j 0,i j 0] [(0,(t 20))]),UA 22 (.append 1 2 16 (t 19) (t 21)),MA 4 22]))))))))) (r 0 [UA 57 (b .add d (t 13) (k (i j 1))),
 (MA 13 57)])))
def c48:LCode:=(q (r 0 [UA 2 (m (k (.slice o 0 0)))]) (q (r 0 [MA 8 0,UA 9 (.call 88 [(t 8)]),UA 10 (.call 87 [(t 9),(.func 89)]),MA 3 10]) (q (r 0 [UA 4 (m (k (.slice o 0 0)))])
 (q (q (r 0 [MA 11 3,UA 12 (n (t 11)),CA 13 0]) (z 0 (.loop c48l0))) (q (r 0 [MA 58 4,MA 2 58]) .ret)))))
def c67:LCode:=(r 0 [MA 4 0,MA 5 0,UA 6 (n (t 5)),MA 7 1,UA 8 (.call 119 [(t 4),(t 6),(t 7)])])
def c130:LCode:=(q (r 0 [UA 2 (m (k (.slice o 0 0)))]) (q (r 1 [MA 3 0,UA 4 (.lens (t 3)),UA 5 (.call 160 [(t 4)]),MA 6 0,UA 7 (.eff (.aps 1) 0 [(t 5),(t 6)]),MA 2 7])
 .ret))
def c137l0:LCode:=q (r 0 [UA 8 (b .lss g (t 7) (t 6))]) (q (c (t 8) .skip (.exit 0)) (q (z 1 (q (r 1 [XA 9 2 5 7,SA 10 2 9,UA 4 (.alloc 0 (.agg #[i j 0,i j 0])),WA 2 4 10])
 (q (.yreg 0 0 [MA 11 0,SA 12 2 4,UA 13 (.yld (t 11) [(t 12)]),UA 14 (.not (t 13))]) (c (t 14) .ret .skip)))) (r 0 [UA 15 (b .add d (t 7) (k (i j 1))),MA 7 15])))
def c137:LCode:=(q (r 0 [LA 5 1,UA 6 (n (t 5)),CA 7 0]) (z 0 (.loop c137l0)))
def c210l0:LCode:=q (q (r 0 [MA 11 10,MA 12 3,UA 13 (b .lss g (t 11) (t 12))]) (c (t 13) .skip (.exit 0))) (q (z 1 (.tree 0 (v 0 [20,21,22,23] (MA 16 0) (v 1 [3,20,21,22,23] (MA 17 1)
 (v 2 [3,20,21,22,23] (MA 18 10) (v 3 [20,21,22,23] (UA 19 (b .add d (t 17) (t 18))) (v 4 [22,23] (MA 20 0) (v 5 [7,22,23] (MA 21 2) (v 6 [7,22,23] (MA 22 10) (v 7 [22,23] (UA 23 (b .add d (t 21) (t 22)))
 (v 8 [12,13,20,21,22,23] (MA 24 0) (v 9 [11,12,13,20,21,22,23] (MA 25 2) (v 10 [11,12,13,20,21,22,23] (MA 26 10) (v 11 [12,13,20,21,22,23] (UA 27 (b .add d (t 25) (t 26))) (v 12 [13,20,21,22,23] (XA 28 2 24 27)
 (v 13 [20,21,22,23] (SA 29 2 28) (v 14 [18,19,20,21,22,23] (MA 30 0) (v 15 [17,18,19,20,21,22,23] (MA 31 1) (v 16 [17,18,19,20,21,22,23] (MA 32 10) (v 17 [18,19,20,21,22,23] (UA 33 (b .add d (t 31) (t 32)))
 (v 18 [19,20,21,22,23] (XA 34 2 30 33) (v 19 [20,21,22,23] (SA 35 2 34) (v 20 [21,22,23] (XA 36 2 16 19) (h 21 (WA 2 36 29) g (v 22 [23] (XA 37 2 20 23)
 (h 23 (WA 2 37 35) g .done .none)) .none)))))))))))))))))))))))) (r 0 [MA 14 10,UA 15 (b .add d (t 14) (k (i j 1))),MA 10 15]))
def c210:LCode:=(q (r 0 [CA 10 0]) (z 0 (.loop c210l0)))
open Go Go.Fx Go.Proofs
theorem lw46:rlF Tryz.prog 46 c46=some (c46,[.tmp 4],26):=by kernel_rfl
theorem lw48:rlF Tryz.prog 48 c48=some (c48,[.tmp 2],59):=by kernel_rfl
theorem lw67:rlF Tryz.prog 67 c67=some (c67,[],9):=by kernel_rfl
theorem lw130:rlF Tryz.prog 130 c130=some (c130,[.tmp 2],8):=by kernel_rfl
theorem lw137:rlF Tryz.prog 137 c137=some (c137,[],16):=by kernel_rfl
theorem lw210:rlF Tryz.prog 210 c210=some (c210,[],38):=by kernel_rfl
end Go.Fx.H
namespace Go.Fx.H
open Go Go.Fx
open Go.Operand renaming tmp → t, const → k
open Go.Value renaming int → i, bool → y
open Go.IntKind renaming i64 → j
open Option renaming some → s, none → o
open Go.Fx.LOp renaming mov → m, load → l, fld → f, bin → b, idx → x, store → w, pick → p, len → n, box → u
open Go.Fx.LCode renaming seq → q, reg → r, cond → c, block → z
open Go.Fx.LPlan renaming take → v, alt → h
open Bool renaming false → g, true → d
def c13:LCode:=(q (r 0 [UA 0 (m (k (y g)))]) (q (r 1 [UA 19 (.call 27 [(k (.string ⟨#[97,98,99,100,101,102,103,104,105,106]⟩)),(k (i j 4))]),MA 18 19,UA 20 (.ext (t 18) 0),UA 21 (.ext (t 18) 1),
 (UA 1 (.alloc 0 (.agg #[i j 0,i j 0,.int .u8 0,.int .u8 0,.int .u8 0,.int .u8 0,.int .u8 0,.int .u8 0,.int .u8 0,.int .u8 0,.int .u8 0,.int .u8 0,.int .u8 0,.int .u8 0,.int .u8 0,.int .u8 0,.int .u8 0,.int .u8 0]))),
 (WA 18 1 20),MA 2 21]) (q (r 0 [UA 23 (.call 29 [(k (.string ⟨#[97,98,99,100,101,102,103,104,105,106]⟩)),(k (i j 4)),(k (i j 2))]),MA 22 23,UA 24 (.ext (t 22) 0),UA 25 (.ext (t 22) 1),
 (MA 3 24),MA 4 25]) (q (r 0 [MA 26 2,UA 27 (b .eql g (t 26) (k (i j 0))),MA 28 27,GA 29 (m (t 4)) 28 d,GA 30 (b .eql g (t 29) (k (i j 0))) 28 d,UA 31 (p (t 28) (t 30) (k (y g))),
 (MA 32 31),GA 33 (l (s 18) (t 1)) 32 d,GA 34 (.call 35 [(t 33)]) 32 d,GA 35 (b .eql g (t 34) (k (i j 3))) 32 d,UA 36 (p (t 32) (t 35) (k (y g))),MA 37 36,GA 38 (l (s 18) (t 1)) 37 d,
 (GA 39 (.call 37 [(t 38),(k (i j 2))]) 37 d),GA 40 (.build [i j 0,i j 0] [(0,1,(k (i j 8))),(1,1,(k (i j 10)))]) 37 d,GA 41 (.eqf g [(0,(.int .i64)),(1,(.int .i64))] (t 39) (t 40)) 37 d,
 (UA 42 (p (t 37) (t 41) (k (y g)))),MA 43 42,GA 44 (l (s 18) (t 1)) 43 d,GA 45 (m (t 3)) 43 d,GA 46 (.call 39 [(t 44),(k (i j 2)),(k (.string ⟨#[105,106]⟩)),(t 45)]) 43 d,GA 47 (b .eql g (t 46) (k (i j 0))) 43 d,
 (UA 48 (p (t 43) (t 47) (k (y g)))),MA 49 48,GA 50 (l (s 18) (t 1)) 49 d,GA 51 (m (t 3)) 49 d,GA 52 (.call 39 [(t 50),(k (i j 2)),(k (.string ⟨#[105,120]⟩)),(t 51)]) 49 d,GA 53 (b .eql g (t 52) (k (i j 8))) 49 d,
 (UA 54 (p (t 49) (t 53) (k (y g)))),MA 5 54]) (q (r 1 [UA 56 (.build [i j 0,i j 0] [(1,1,(k (i j 2)))]),UA 57 (.build [i j 0,i j 0] [(0,1,(k (i j 5))),(1,1,(k (i j 6)))]),UA 58 (.build [i j 0,i j 0] [(0,1,(k (i j 8))),(1,1,(k (i j 9)))]),
 (UA 59 (.lits 0 2 3 [i j 0,i j 0] [(0,(t 56)),(1,(t 57)),(2,(t 58))])),UA 60 (.call 17 [(t 59),(k (i j 2))]),MA 55 60,UA 61 (.ext (t 55) 0),UA 62 (.ext (t 55) 1),MA 6 61,MA 7 62])
 (q (r 1 [MA 63 7,UA 64 (b .eql g (t 63) (k (i j 0))),MA 65 64,GA 66 (m (t 6)) 65 d,GA 67 (.build [i j 0,i j 0] [(1,1,(k (i j 2)))]) 65 d,GA 68 (.build [i j 0,i j 0] [(0,1,(k (i j 5))),(1,1,(k (i j 9)))]) 65 d,
 (GA 69 (.lits 0 2 2 [i j 0,i j 0] [(0,(t 67)),(1,(t 68))]) 65 d),GA 70 (.call 16 [(t 66),(t 69)]) 65 d,UA 71 (p (t 65) (t 70) (k (y g))),MA 8 71]) (q (r 1 [UA 73 (.call 20 [(k (.string ⟨#[97,98,99,100,101,102,103,104]⟩)),(k (.string ⟨#[97,98,99,100,88,101,102,103,104]⟩)),(k (i j 4))]),
 (MA 72 73),UA 74 (.ext (t 72) 0),UA 75 (.ext (t 72) 1),UA 9 (.alloc 0 (.agg #[.int .u8 0,.int .u8 0,.int .u8 0,.int .u8 0,.int .u8 0,.int .u8 0,.int .u8 0,.int .u8 0,.int .u8 0,.int .u8 0,.int .u8 0,.int .u8 0,.int .u8 0,.int .u8 0,.int .u8 0,.int .u8 0,.int .u8 0,.int .u8 0,.int .u8 0,.int .u8 0,.int .u8 0,.int .u8 0,.int .u8 0,.int .u8 0,.int .u8 0,.int .u8 0,.int .u8 0,.int .u8 0,.int .u8 0,.int .u8 0,.int .u8 0,.int .u8 0,i j 0,.slice o 0 0])),
 (WA 34 9 74),MA 10 75]) (q (r 0 [MA 76 10,UA 77 (b .eql g (t 76) (k (i j 0))),MA 78 77,GA 79 (l (s 34) (t 9)) 78 d,GA 80 (.call 25 [(t 79)]) 78 d,
 (GA 81 (b .eql g (t 80) (k (i j 1))) 78 d),UA 82 (p (t 78) (t 81) (k (y g))),MA 83 82,GA 84 (f 33 (t 9)) 83 d,GA 85 (l o (t 84)) 83 d,GA 86 (n (t 85)) 83 d,GA 87 (b .eql g (t 86) (k (i j 3))) 83 d,
 (UA 88 (p (t 83) (t 87) (k (y g)))),MA 89 88,GA 90 (f 33 (t 9)) 89 d,GA 91 (l o (t 90)) 89 d,GA 92 (x 3 (t 91) (k (i j 0))) 89 d,GA 93 (l (s 3) (t 92)) 89 d,GA 94 (.build [i j 0,i j 0,.string ⟨#[]⟩] [(1,1,(k (i j 4)))]) 89 d,
 (GA 95 (.eqf g [(0,(.int .i64)),(1,(.int .i64)),(2,.string)] (t 93) (t 94)) 89 d),UA 96 (p (t 89) (t 95) (k (y g))),MA 97 96,GA 98 (f 33 (t 9)) 97 d,GA 99 (l o (t 98)) 97 d,
 (GA 100 (x 3 (t 99) (k (i j 1))) 97 d),GA 101 (l (s 3) (t 100)) 97 d,GA 102 (.build [i j 0,i j 0,.string ⟨#[]⟩] [(2,1,(k (.string ⟨#[88]⟩)))]) 97 d,GA 103 (.eqf g [(0,(.int .i64)),(1,(.int .i64)),(2,.string)] (t 101) (t 102)) 97 d,
 (UA 104 (p (t 97) (t 103) (k (y g)))),MA 105 104,GA 106 (f 33 (t 9)) 105 d,GA 107 (l o (t 106)) 105 d,GA 108 (x 3 (t 107) (k (i j 2))) 105 d,GA 109 (l (s 3) (t 108)) 105 d,
 (GA 110 (.build [i j 0,i j 0,.string ⟨#[]⟩] [(0,1,(k (i j 4))),(1,1,(k (i j 8)))]) 105 d),GA 111 (.eqf g [(0,(.int .i64)),(1,(.int .i64)),(2,.string)] (t 109) (t 110)) 105 d,UA 112 (p (t 105) (t 111) (k (y g))),
 (MA 11 112)]) (q (r 0 [SA 114 34 9,UA 115 (.call 22 [(k (.string ⟨#[97,98,99,100,101,102,103,104]⟩)),(t 114)]),MA 113 115,UA 116 (.ext (t 113) 0),UA 117 (.ext (t 113) 1),
 (MA 12 116),MA 13 117]) (q (r 0 [SA 119 34 9,UA 120 (.call 22 [(k (.string ⟨#[97,98,99,100,101,102,103,88]⟩)),(t 119)]),MA 118 120,UA 121 (.ext (t 118) 0),
 (UA 122 (.ext (t 118) 1)),MA 14 121,MA 15 122]) (q (.tree 1 (v 0 [4,5,6,7,8,9] (SA 124 18 1) (v 2 [3,4,5,6,7,8,9] (UA 126 (.build [i j 0,i j 0] [(1,1,(k (i j 10)))])) (h 1 (UA 125 (.call 33 [(k (.string ⟨#[97,98,99,100,101,102,103,104,105,106]⟩)),(k (i j 4))])) d
 (h 3 (UA 127 (.lits 0 2 1 [i j 0,i j 0] [(0,(t 126))])) d (h 4 (UA 128 (.call 14 [(t 124),(t 125),(k (.string ⟨#[97,98,99,100,101,88,103,104,105,106]⟩)),(t 127)])) g (v 5 [6,7,8,9] (MA 123 128) (v 6 [8,9] (UA 129 (.ext (t 123) 0))
 (v 7 [9] (UA 130 (.ext (t 123) 1)) (v 8 [9] (MA 16 129) (v 9 [] (MA 17 130) .done))))) .none) .none) (h 3 (UA 127 (.lits 0 2 1 [i j 0,i j 0] [(0,(t 126))])) d (h 1 (UA 125 (.call 33 [(k (.string ⟨#[97,98,99,100,101,102,103,104,105,106]⟩)),(k (i j 4))])) d
 (h 4 (UA 128 (.call 14 [(t 124),(t 125),(k (.string ⟨#[97,98,99,100,101,88,103,104,105,106]⟩)),(t 127)])) g (v 5 [6,7,8,9] (MA 123 128) (v 6 [8,9] (UA 129 (.ext (t 123) 0)) (v 7 [9] (UA 130 (.ext (t 123) 1))
 (v 8 [9] (MA 16 129) (v 9 [] (MA 17 130) .done))))) .none) .none) .none))))) (q (r 1 [MA 131 5,MA 132 131,GA 133 (m (t 8)) 132 d,UA 134 (p (t 132) (t 133) (k (y g))),
 (MA 135 134),GA 136 (m (t 11)) 135 d,UA 137 (p (t 135) (t 136) (k (y g))),MA 138 137,GA 139 (m (t 13)) 138 d,GA 140 (b .eql g (t 139) (k (i j 0))) 138 d,UA 141 (p (t 138) (t 140) (k (y g))),
 (MA 142 141),GA 143 (m (t 12)) 142 d,GA 144 (.prim (.sbin .eql) [(t 143),(k (.string ⟨#[97,98,99,100,88,101,102,103,104]⟩))]) 142 d,UA 145 (p (t 142) (t 144) (k (y g))),MA 146 145,
 (GA 147 (m (t 15)) 146 d),GA 148 (b .eql g (t 147) (k (i j 8))) 146 d,UA 149 (p (t 146) (t 148) (k (y g))),MA 150 149,GA 151 (m (t 17)) 150 d,GA 152 (b .eql g (t 151) (k (i j 0))) 150 d,
 (UA 153 (p (t 150) (t 152) (k (y g)))),MA 154 153,GA 155 (m (t 16)) 154 d,GA 156 (.build [i j 0,i j 0] [(0,1,(k (i j 4))),(1,1,(k (i j 8)))]) 154 d,GA 157 (.lits 0 2 1 [i j 0,i j 0] [(0,(t 156))]) 154 d,
 (GA 158 (.call 16 [(t 155),(t 157)]) 154 d),UA 159 (p (t 154) (t 158) (k (y g))),MA 0 159]) .ret))))))))))))
def c14a0:LCode:=q (r 0 [MA 11 59]) (r 0 [MA 12 60])
def c14r0:LCode:=z 2 (q (r 1 [MA 61 11,MA 62 11,MA 63 12,UA 64 (.lens (t 63)),UA 65 (b .add d (t 62) (t 64)),UA 66 (.build [i j 0,i j 0] [(0,1,(t 61)),(1,1,(t 65))]),
 (UA 13 (.alloc 0 (.agg #[i j 0,i j 0]))),WA 2 13 66]) (q (.tree 0 (v 0 [1,9,10,11,12,13,14] (MA 67 12) (v 2 [7,8,9,10,11,12,13,14] (LA 69 5) (v 3 [6,7,8,9,10,11,12,13,14] (MA 70 11)
 (v 4 [5,6,7,8,9,10,11,12,13,14] (FA 71 1 4) (v 5 [6,7,8,9,10,11,12,13,14] (LA 72 71) (v 6 [7,8,9,10,11,12,13,14] (UA 73 (b .quo d (t 70) (t 72))) (v 7 [8,9,10,11,12,13,14] (XA 74 16 69 73)
 (v 8 [9,10,11,12,13,14] (SA 75 16 74) (h 1 (UA 68 (.call 43 [(t 67)])) d (v 9 [10,11,12,13,14] (UA 76 (.prim (.aeq d ((List.range' 0 16).map fun i=>(i,(.int .u8)))) [(t 68),(t 75)])) (v 10 [11,12,13,14] (MA 77 76)
 (v 11 [13,14] (GA 78 (l o (t 7)) 77 d) (v 12 [13,14] (GA 79 (l (s 2) (t 13)) 77 d) (h 13 (GA 80 (.call 42 [(t 78),(t 79)]) 77 d) g (v 14 [] (UA 81 (p (t 77) (t 80) (k (y g)))) .done) .none)))))
 .none)))))))))) (c (t 81) (r 2 [LA 82 10,SA 83 2 13,UA 84 (.lits 0 2 1 [i j 0,i j 0] [(0,(t 83))]),UA 85 (.append 1 2 16 (t 82) (t 84)),WA 1 10 85]) .skip)))
def c14:LCode:=(q (r 3 [UA 4 (u 0 (t 0)),UA 5 (u 1 (t 1)),UA 7 (u 2 (t 3)),UA 8 (m (k (.slice o 0 0))),CA 9 0]) (q (z 0 (q (.tree 0 (v 0 [1,4,5,6,7,8,9,10,11,12,13,14,15,16,17,18,19,20,21,22,23,24,25,26,27,28,29,30,31,32,33,34] (LA 15 5)
 (v 1 [4,5,6,7,8,9,10,11,12,13,14,15,16,17,18,19,20,21,22,23,24,25,26,27,28,29,30,31,32,33,34] (UA 16 (n (t 15))) (v 2 [3,4,5,6,7,8,9,10,11,12,13,14,15,16,17,18,19,20,21,22,23,24,25,26,27,28,29,30,31,32,33,34] (SA 17 18 4)
 (h 3 (UA 18 (.call 35 [(t 17)])) d (v 4 [5,6,7,8,9,10,11,12,13,14,15,16,17,18,19,20,21,22,23,24,25,26,27,28,29,30,31,32,33,34] (UA 19 (b .neq g (t 16) (t 18))) (v 5 [6,7,8,9,10,11,12,13,14,15,16,17,18,19,20,21,22,23,24,25,26,27,28,29,30,31,32,33,34] (MA 20 19)
 (v 6 [7,10,11,12,13,14,15,16,17,18,19,20,21,22,23,24,25,26,27,28,29,30,31,32,33,34] (GA 21 (m (t 2)) 20 g) (v 7 [10,11,12,13,14,15,16,17,18,19,20,21,22,23,24,25,26,27,28,29,30,31,32,33,34] (GA 22 (.lens (t 21)) 20 g)
 (v 8 [9,10,11,12,13,14,15,16,17,18,19,20,21,22,23,24,25,26,27,28,29,30,31,32,33,34] (GA 23 (f 0 (t 4)) 20 g) (v 9 [10,11,12,13,14,15,16,17,18,19,20,21,22,23,24,25,26,27,28,29,30,31,32,33,34] (GA 24 (l o (t 23)) 20 g)
 (v 10 [11,12,13,14,15,16,17,18,19,20,21,22,23,24,25,26,27,28,29,30,31,32,33,34] (GA 25 (b .neq g (t 22) (t 24)) 20 g) (v 11 [12,13,14,15,16,17,18,19,20,21,22,23,24,25,26,27,28,29,30,31,32,33,34] (UA 26 (p (t 20) (k (y d)) (t 25)))
 (v 12 [13,14,15,16,17,18,19,20,21,22,23,24,25,26,27,28,29,30,31,32,33,34] (MA 27 26) (v 13 [14,15,16,17,18,19,20,21,22,23,24,25,26,27,28,29,30,31,32,33,34] (GA 28 (l o (t 7)) 27 g) (h 14 (GA 29 (.call 45 [(t 28)]) 27 g) g
 (v 15 [16,17,18,19,20,21,22,23,24,25,26,27,28,29,30,31,32,33,34] (GA 30 (.not (t 29)) 27 g) (v 16 [17,18,19,20,21,22,23,24,25,26,27,28,29,30,31,32,33,34] (UA 31 (p (t 27) (k (y d)) (t 30))) (v 17 [18,19,20,21,22,23,24,25,26,27,28,29,30,31,32,33,34] (MA 32 31)
 (v 18 [19,20,21,22,23,24,25,26,27,28,29,30,31,32,33,34] (GA 33 (l o (t 7)) 32 g) (v 19 [20,21,22,23,24,25,26,27,28,29,30,31,32,33,34] (GA 34 (n (t 33)) 32 g) (v 20 [21,22,23,24,25,26,27,28,29,30,31,32,33,34] (GA 35 (b .gtr g (t 34) (k (i j 0))) 32 g)
 (v 21 [22,23,24,25,26,27,28,29,30,31,32,33,34] (GA 36 (m (t 35)) 32 g) (v 22 [26,27,28,31,32,33,34] (GA 37 (l o (t 7)) 36 d) (v 23 [24,25,26,27,28,31,32,33,34] (GA 38 (l o (t 7)) 36 d) (v 24 [25,26,27,28,31,32,33,34] (GA 39 (n (t 38)) 36 d)
 (v 25 [26,27,28,31,32,33,34] (GA 40 (b .sub d (t 39) (k (i j 1))) 36 d) (v 26 [27,28,31,32,33,34] (GA 41 (x 2 (t 37) (t 40)) 36 d) (v 27 [28,31,32,33,34] (GA 42 (f 1 (t 41)) 36 d) (v 28 [31,32,33,34] (GA 43 (l o (t 42)) 36 d)
 (v 29 [30,31,32,33,34] (GA 44 (f 0 (t 4)) 36 d) (v 30 [31,32,33,34] (GA 45 (l o (t 44)) 36 d) (v 31 [32,33,34] (GA 46 (b .gtr g (t 43) (t 45)) 36 d) (v 32 [33,34] (GA 47 (p (t 36) (t 46) (k (y g))) 32 g)
 (v 33 [34] (UA 48 (p (t 32) (k (y d)) (t 47))) (v 34 [] (MA 14 48) .done)))))))))))))))))))) .none))))))))))) .none))))) (c (t 14) (q (r 0 [UA 8 (m (k (.slice o 0 0))),CA 9 1])
 .ret) (q (.tree 0 (v 0 [1,4,5] (LA 50 5) (v 2 [3,4,5] (FA 52 2 4) (v 3 [4,5] (SA 53 16 52) (h 1 (UA 51 (.call 59 [(t 50)])) d (v 4 [5] (UA 54 (.prim (.aeq d ((List.range' 0 16).map fun i=>(i,(.int .u8)))) [(t 51),(t 53)]))
 (v 5 [] (MA 49 54) .done)) .none))))) (c (t 49) (q (r 0 [UA 8 (m (k (.slice o 0 0))),CA 9 8]) .ret) .skip))))) (q (r 1 [UA 10 (.alloc 0 (.slice o 0 0))]) (q (q (r 0 [MA 55 2,
 (FA 56 1 4),LA 57 56,UA 58 (.call 60 [(t 55),(t 57)])]) (z 1 (.rfn (t 58) [59,60] c14a0 c14r0))) (q (r 0 [LA 86 10,UA 87 (.call 48 [(t 86)]),MA 8 87,CA 9 0])
 .ret)))))
def c59:LCode:=(q (r 1 [UA 2 (.alloc 0 (.agg (yaa 16 (.int .u8 0))))]) (q (r 0 [MA 5 0,UA 6 (n (t 5)),MA 3 6]) (q (r 0 [MA 7 3]) (z 0 (q (r 0 [UA 23 (b .eql g (t 7) (k (i j 0))),
 (MA 22 23)]) (c (t 22) (q (r 0 [UA 24 (.call 108 []),WA 16 2 24]) .ret) (q (r 0 [UA 26 (b .eql g (t 7) (k (i j 1))),MA 25 26]) (c (t 25) (q (r 0 [MA 27 0,
 (UA 28 (x 16 (t 27) (k (i j 0)))),SA 29 16 28,WA 16 2 29]) .ret) (q (r 0 [MA 8 3,UA 9 (.call 109 [(t 8)]),MA 4 9]) (q (.tree 0 (v 0 [3,4,10,11,12] (MA 10 0)
 (v 1 [3,4,10,11,12] (MA 11 4) (v 2 [3,4,10,11,12] (MA 12 4) (v 3 [4,10,11,12] (UA 13 (.slice 16 (t 10) o (s (t 11)) (s (t 12)))) (v 5 [9,10,11,12] (MA 15 0) (v 6 [9,10,11,12] (MA 16 4)
 (v 7 [9,10,11,12] (MA 17 3) (v 8 [9,10,11,12] (MA 18 3) (v 9 [10,11,12] (UA 19 (.slice 16 (t 15) (s (t 16)) (s (t 17)) (s (t 18)))) (h 4 (UA 14 (.call 59 [(t 13)])) g (h 10 (UA 20 (.call 59 [(t 19)])) g
 (h 11 (UA 21 (.call 110 [(t 14),(t 20)])) g (h 12 (WA 16 2 21) g .done .none) .none) .none) .none))))))))))) .ret))))))))))
def c68:LCode:=(q (r 2 [UA 2 (u 0 (t 0)),UA 3 (u 1 (t 1)),CA 4 0]) (q (r 0 [FA 5 1 2,LA 6 5,FA 7 0 2,LA 8 7,UA 9 (b .sub d (t 6) (t 8)),
 (FA 10 1 3),LA 11 10,FA 12 0 3,LA 13 12,UA 14 (b .sub d (t 11) (t 13)),UA 15 (b .sub d (t 9) (t 14)),MA 4 15]) .ret))
def c108:LCode:=(q (r 1 [UA 0 (.alloc 0 (.agg (yaa 16 (.int .u8 0))))]) (q (r 0 [UA 1 (.call 84 [(k (i j 32)),(k (.slice o 0 0))]),WA 16 0 1]) .ret))
def c111l0:LCode:=q (q (r 0 [MA 5 4,LA 6 1,UA 7 (.lens (t 6)),UA 8 (b .lss g (t 5) (t 7))]) (c (t 8) .skip (.exit 0))) (q (z 1 (q (.yreg 0 0 [MA 12 0,MA 13 4,
 (LA 14 1),MA 15 4,LA 16 1,UA 17 (.lens (t 16)),MA 18 4,LA 19 2,UA 20 (b .add d (t 18) (t 19)),UA 21 (.minmax g (t 17) (t 20)),UA 22 (.prim (.sslc d d) [(t 14),(t 15),(t 21)]),
 (UA 23 (.yld (t 12) [(t 13),(t 22)])),UA 24 (.not (t 23))]) (c (t 24) .ret .skip))) (r 0 [MA 9 4,LA 10 2,UA 11 (b .add d (t 9) (t 10)),MA 4 11]))
def c111:LCode:=(q (r 0 [CA 4 0]) (z 0 (.loop c111l0)))
def c182l1:LCode:=q (r 0 [UA 25 (b .lss g (t 24) (t 23))]) (q (c (t 25) .skip (.exit 2)) (q (z 3 (q (r 0 [XA 26 1 22 24,LA 27 26,MA 6 27]) (r 0 [MA 28 4,
 (MA 29 4),UA 30 (.prim (.pidx 64 1) [(t 3),(t 29)]),LA 31 30,UA 32 (.shift .shl (t 31) (k (.int .u64 8))),MA 33 6,UA 34 (.conv d .u32 (t 33)),UA 35 (b .or g (t 32) (t 34)),
 (UA 36 (.prim (.pidx 64 1) [(t 3),(t 28)])),WA 1 36 35]))) (r 0 [UA 37 (b .add d (t 24) (k (i j 1))),MA 24 37])))
def c182l0:LCode:=q (r 0 [UA 12 (b .lss g (t 11) (k (i j 64)))]) (q (c (t 12) .skip (.exit 0)) (q (z 1 (q (r 0 [MA 13 11,MA 4 13]) (q (q (r 0 [MA 14 4,UA 15 (b .lss g (t 14) (k (i j 16)))])
 (c (t 15) (q (q (r 0 [MA 16 0,MA 17 4,UA 18 (b .mul d (k (i j 4)) (t 17)),MA 19 4,UA 20 (b .mul d (k (i j 4)) (t 19)),UA 21 (b .add d (t 20) (k (i j 4))),UA 22 (.slice 1 (t 16) (s (t 18)) (s (t 21)) o),
 (UA 23 (n (t 22))),CA 24 0]) (z 2 (.loop c182l1))) (.exit 1)) .skip)) (q (.qui 0 [MA 38 4,UA 39 (b .sub d (t 38) (k (i j 15))),UA 40 (.prim (.pidx 64 1) [(t 3),(t 39)]),LA 41 40,
 (MA 42 4),UA 43 (b .sub d (t 42) (k (i j 2))),UA 44 (.prim (.pidx 64 1) [(t 3),(t 43)]),LA 45 44,MA 7 41,MA 8 45]) (q (r 0 [MA 46 7,UA 47 (.call 211 [(t 46),(k (.int .i64 (-7)))]),
 (MA 48 7),UA 49 (.call 211 [(t 48),(k (.int .i64 (-18)))]),UA 50 (b .xor g (t 47) (t 49)),MA 51 7,UA 52 (.shift .shr (t 51) (k (.int .u64 3))),UA 53 (b .xor g (t 50) (t 52)),
 (MA 9 53)]) (q (r 0 [MA 54 8,UA 55 (.call 211 [(t 54),(k (.int .i64 (-17)))]),MA 56 8,UA 57 (.call 211 [(t 56),(k (.int .i64 (-19)))]),UA 58 (b .xor g (t 55) (t 57)),
 (MA 59 8),UA 60 (.shift .shr (t 59) (k (.int .u64 10))),UA 61 (b .xor g (t 58) (t 60)),MA 10 61]) (.tail 15 0 [MA 62 4,MA 63 4,UA 64 (b .sub d (t 63) (k (i j 16))),
 (UA 65 (.prim (.pidx 64 1) [(t 3),(t 64)])),LA 66 65,MA 67 9,UA 68 (b .add g (t 66) (t 67)),MA 69 4,UA 70 (b .sub d (t 69) (k (i j 7))),UA 71 (.prim (.pidx 64 1) [(t 3),(t 70)]),
 (LA 72 71),UA 73 (b .add g (t 68) (t 72)),MA 74 10,UA 75 (b .add g (t 73) (t 74)),UA 76 (.prim (.pidx 64 1) [(t 3),(t 62)]),WA 1 76 75]))))))) (r 0 [UA 77 (b .add d (t 11) (k (i j 1))),
 (MA 11 77)])))
def c182:LCode:=(q (r 1 [UA 2 (.alloc 0 (.agg (yaa 64 (.int .u32 0))))]) (q (r 1 [UA 3 (.alloc 0 (.agg (yaa 64 (.int .u32 0))))]) (q (q (r 0 [CA 11 0]) (z 0
 (.loop c182l0))) (q (r 0 [SA 78 64 3,WA 64 2 78]) .ret))))
open Go Go.Fx Go.Proofs
theorem lw13:rlF Tryz.prog 13 c13=some (c13,[.tmp 0],160):=by kernel_rfl
theorem lw14:rlF Tryz.prog 14 c14=some (c14,[.tmp 8,.tmp 9],88):=by kernel_rfl
theorem lw59:rlF Tryz.prog 59 c59=some (c59,[.cell 2 (some 16)],30):=by kernel_rfl
theorem lw68:rlF Tryz.prog 68 c68=some (c68,[.tmp 4],16):=by kernel_rfl
theorem lw108:rlF Tryz.prog 108 c108=some (c108,[.cell 0 (some 16)],2):=by kernel_rfl
theorem lw111:rlF Tryz.prog 111 c111=some (c111,[],25):=by kernel_rfl
theorem lw182:rlF Tryz.prog 182 c182=some (c182,[.cell 2 (some 64)],79):=by kernel_rfl
end Go.Fx.H
namespace Go.Fx.H
open Go Go.Fx
open Go.Operand renaming tmp → t, const → k
open Go.Value renaming int → i, bool → y
open Go.IntKind renaming i64 → j
open Option renaming some → s, none → o
open Go.Fx.LOp renaming mov → m, load → l, fld → f, bin → b, idx → x, store → w, pick → p, len → n, box → u
open Go.Fx.LCode renaming seq → q, reg → r, cond → c, block → z
open Go.Fx.LPlan renaming take → v, alt → h
open Bool renaming false → g, true → d
def c25l0:LCode:=q (r 0 [UA 10 (b .lss g (t 9) (t 8))]) (q (c (t 10) .skip (.exit 0)) (q (z 1 (q (r 1 [XA 11 3 7 9,SA 12 3 11,UA 5 (.alloc 0 (.agg #[i j 0,i j 0,.string ⟨#[]⟩])),
 (WA 3 5 12)]) (r 0 [MA 13 3,FA 14 2 5,LA 15 14,UA 16 (.lens (t 15)),UA 17 (b .add d (t 13) (t 16)),MA 3 17]))) (r 0 [UA 18 (b .add d (t 9) (k (i j 1))),
 (MA 9 18)])))
def c25:LCode:=(q (r 1 [UA 1 (u 0 (t 0)),CA 2 0]) (q (r 0 [CA 3 0]) (q (q (r 0 [FA 6 33 1,LA 7 6,UA 8 (n (t 7)),CA 9 0]) (z 0
 (.loop c25l0))) (q (r 0 [MA 19 3,MA 2 19]) .ret))))
def c27:LCode:=(q (r 1 [UA 4 (.alloc 0 (.agg #[i j 0,i j 0,.int .u8 0,.int .u8 0,.int .u8 0,.int .u8 0,.int .u8 0,.int .u8 0,.int .u8 0,.int .u8 0,.int .u8 0,.int .u8 0,.int .u8 0,.int .u8 0,.int .u8 0,.int .u8 0,.int .u8 0,.int .u8 0])),
 (CA 5 0)]) (q (z 0 (q (r 0 [MA 7 1,UA 8 (b .lss g (t 7) (k (i j 1))),MA 9 8,GA 10 (m (t 1)) 9 g,GA 11 (b .gtr g (t 10) (k (i j 4096))) 9 g,UA 12 (p (t 9) (k (y d)) (t 11)),
 (MA 6 12)]) (c (t 6) (q (r 0 [UA 13 (.build [i j 0,i j 0,.int .u8 0,.int .u8 0,.int .u8 0,.int .u8 0,.int .u8 0,.int .u8 0,.int .u8 0,.int .u8 0,.int .u8 0,.int .u8 0,.int .u8 0,.int .u8 0,.int .u8 0,.int .u8 0,.int .u8 0,.int .u8 0] []),
 (WA 18 4 13),CA 5 1]) .ret) (q (r 0 [MA 15 0,UA 16 (.lens (t 15)),UA 17 (b .gtr g (t 16) (k (i j 65536))),MA 18 17,GA 19 (m (t 0)) 18 g,GA 20 (.lens (t 19)) 18 g,
 (GA 21 (m (t 1)) 18 g),GA 22 (.call 77 [(t 20),(t 21)]) 18 g,GA 23 (b .gtr g (t 22) (k (i j 4096))) 18 g,UA 24 (p (t 18) (k (y d)) (t 23)),MA 14 24]) (c (t 14) (q (r 0 [UA 25 (.build [i j 0,i j 0,.int .u8 0,.int .u8 0,.int .u8 0,.int .u8 0,.int .u8 0,.int .u8 0,.int .u8 0,.int .u8 0,.int .u8 0,.int .u8 0,.int .u8 0,.int .u8 0,.int .u8 0,.int .u8 0,.int .u8 0,.int .u8 0] []),
 (WA 18 4 25),CA 5 2]) .ret) .skip))))) (q (r 0 [MA 26 0,UA 27 (.lens (t 26)),MA 28 1,MA 29 0,MA 30 1,UA 31 (.call 33 [(t 29),(t 30)]),
 (UA 32 (.call 59 [(t 31)])),UA 33 (.build [i j 0,i j 0,.int .u8 0,.int .u8 0,.int .u8 0,.int .u8 0,.int .u8 0,.int .u8 0,.int .u8 0,.int .u8 0,.int .u8 0,.int .u8 0,.int .u8 0,.int .u8 0,.int .u8 0,.int .u8 0,.int .u8 0,.int .u8 0] [(0,1,(t 27)),(1,1,(t 28)),(2,16,(t 32))]),
 (WA 18 4 33),CA 5 0]) .ret)))
def c32:LCode:=(q (r 1 [UA 1 (u 0 (t 0)),UA 2 (m (k (y g)))]) (q (r 0 [FA 3 0 1,LA 4 3,UA 5 (b .geq g (t 4) (k (i j 0))),MA 6 5,GA 7 (f 0 (t 1)) 6 d,GA 8 (l o (t 7)) 6 d,
 (GA 9 (b .leq g (t 8) (k (i j 65536))) 6 d),UA 10 (p (t 6) (t 9) (k (y g))),MA 11 10,GA 12 (f 1 (t 1)) 11 d,GA 13 (l o (t 12)) 11 d,GA 14 (b .geq g (t 13) (k (i j 1))) 11 d,
 (UA 15 (p (t 11) (t 14) (k (y g)))),MA 16 15,GA 17 (f 1 (t 1)) 16 d,GA 18 (l o (t 17)) 16 d,GA 19 (b .leq g (t 18) (k (i j 4096))) 16 d,UA 20 (p (t 16) (t 19) (k (y g))),
 (MA 21 20),GA 22 (f 0 (t 1)) 21 d,GA 23 (l o (t 22)) 21 d,GA 24 (f 1 (t 1)) 21 d,GA 25 (l o (t 24)) 21 d,GA 26 (.call 77 [(t 23),(t 25)]) 21 d,GA 27 (b .leq g (t 26) (k (i j 4096))) 21 d,
 (UA 28 (p (t 21) (t 27) (k (y g)))),MA 2 28]) .ret))
def c33a0:LCode:=r 0 [MA 7 12]
def c33r0:LCode:=z 1 (.tree 2 (v 0 [4,5] (LA 13 5) (v 1 [2,3,4,5] (MA 14 7) (h 2 (UA 15 (.call 43 [(t 14)])) d (h 3 (UA 16 (.lits 0 16 1 (yab 16 (.int .u8 0)) [(0,(t 15))])) d
 (h 4 (UA 17 (.append 1 16 16 (t 13) (t 16))) g (h 5 (WA 1 5 17) g .done .none) .none) .none) .none))))
def c33:LCode:=(q (r 0 [UA 4 (m (k (.slice o 0 0)))]) (q (r 1 [UA 5 (.alloc 0 (.slice o 0 0))]) (q (q (r 0 [MA 8 0,MA 9 1,UA 10 (.call 60 [(t 8),(t 9)])]) (z 0 (.rfn (t 10) [11,12]
 c33a0 c33r0))) (q (r 0 [LA 18 5,MA 4 18]) .ret))))
def c37:LCode:=(q (r 2 [UA 2 (u 0 (t 0)),UA 4 (.alloc 1 (.agg #[i j 0,i j 0]))]) (q (q (r 0 [MA 5 1,UA 6 (b .lss g (t 5) (k (i j 0))),MA 7 6,GA 8 (m (t 1)) 7 g,GA 9 (l (s 18) (t 2)) 7 g,
 (GA 10 (.call 35 [(t 9)]) 7 g),GA 11 (b .geq g (t 8) (t 10)) 7 g,UA 12 (p (t 7) (k (y d)) (t 11))]) (c (t 12) (q (r 0 [UA 13 (.build [i j 0,i j 0] []),WA 2 4 13]) .ret) .skip))
 (q (r 0 [MA 14 1,FA 15 1 2,LA 16 15,UA 17 (b .mul d (t 14) (t 16)),FA 18 0 2,LA 19 18,MA 20 1,UA 21 (b .add d (t 20) (k (i j 1))),FA 22 1 2,
 (LA 23 22),UA 24 (b .mul d (t 21) (t 23)),UA 25 (.minmax g (t 19) (t 24)),UA 26 (.build [i j 0,i j 0] [(0,1,(t 17)),(1,1,(t 25))]),WA 2 4 26]) .ret)))
def c45l0:LCode:=q (r 0 [UA 9 (b .lss g (t 8) (t 7))]) (q (c (t 9) .skip (.exit 0)) (q (z 1 (q (r 1 [XA 10 2 6 8,SA 11 2 10,UA 5 (.alloc 0 (.agg #[i j 0,i j 0])),WA 2 5 11])
 (q (q (r 0 [SA 12 2 5,UA 13 (.call 85 [(t 12)]),UA 14 (.not (t 13)),MA 15 14,GA 16 (f 0 (t 5)) 15 g,GA 17 (l o (t 16)) 15 g,GA 18 (m (t 3)) 15 g,GA 19 (b .leq g (t 17) (t 18)) 15 g,
 (UA 20 (p (t 15) (k (y d)) (t 19)))]) (c (t 20) (q (r 0 [UA 2 (m (k (y g)))]) .ret) .skip)) (r 0 [FA 21 1 5,LA 22 21,MA 3 22])))) (r 0 [UA 23 (b .add d (t 8) (k (i j 1))),
 (MA 8 23)])))
def c45:LCode:=(q (r 0 [UA 2 (m (k (y g)))]) (q (r 0 [UA 3 (m (k (.int .i64 (-1))))]) (q (q (r 0 [MA 6 0,UA 7 (n (t 6)),CA 8 0]) (z 0 (.loop c45l0))) (q (r 0 [UA 2 (m (k (y d)))])
 .ret))))
def c70:LCode:=(q (r 1 [UA 2 (.alloc 0 (.agg (yaa 16 (.int .u8 0))))]) (q (r 1 [MA 3 0,UA 4 (.lits 0 1 1 [.string ⟨#[]⟩] [(0,(t 3))]),UA 5 (.call 84 [(k (i j 34)),(t 4)]),
 (WA 16 2 5)]) .ret))
def c88:LCode:=(q (r 1 [UA 1 (u 0 (t 0)),UA 2 (m (k (.nilFunc)))]) (q (r 0 [UA 3 (.fn 137 [(t 1)]),MA 2 3]) .ret))
def c109:LCode:=(q (r 0 [CA 2 0]) (q (r 0 [MA 3 0,UA 4 (b .sub d (t 3) (k (i j 1))),UA 5 (.conv g .u64 (t 4)),UA 6 (.call 145 [(t 5)]),UA 7 (b .sub d (t 6) (k (i j 1))),
 (UA 8 (.shift .shl (k (i j 1)) (t 7))),MA 2 8]) .ret))
def c183:LCode:=(q (r 0 [UA 8 (m (k (.int .u32 0)))]) (q (r 0 [MA 9 0,MA 10 1,UA 11 (.neg (t 10)),UA 12 (.call 211 [(t 9),(t 11)]),MA 13 0,MA 14 2,UA 15 (.neg (t 14)),
 (UA 16 (.call 211 [(t 13),(t 15)])),UA 17 (b .xor g (t 12) (t 16)),MA 18 0,MA 19 3,UA 20 (.neg (t 19)),UA 21 (.call 211 [(t 18),(t 20)]),UA 22 (b .xor g (t 17) (t 21)),MA 8 22])
 .ret))
open Go Go.Fx Go.Proofs
theorem lw25:rlF Tryz.prog 25 c25=some (c25,[.tmp 2],20):=by kernel_rfl
theorem lw27:rlF Tryz.prog 27 c27=some (c27,[.cell 4 (some 18),.tmp 5],34):=by kernel_rfl
theorem lw33:rlF Tryz.prog 33 c33=some (c33,[.tmp 4],19):=by kernel_rfl
theorem lw37:rlF Tryz.prog 37 c37=some (c37,[.cell 4 (some 2)],27):=by kernel_rfl
theorem lw45:rlF Tryz.prog 45 c45=some (c45,[.tmp 2],24):=by kernel_rfl
theorem lw70:rlF Tryz.prog 70 c70=some (c70,[.cell 2 (some 16)],6):=by kernel_rfl
theorem lw88:rlF Tryz.prog 88 c88=some (c88,[.tmp 2],4):=by kernel_rfl
theorem lw109:rlF Tryz.prog 109 c109=some (c109,[.tmp 2],9):=by kernel_rfl
theorem lw183:rlF Tryz.prog 183 c183=some (c183,[.tmp 8],23):=by kernel_rfl
end Go.Fx.H
namespace Go.Fx.H
open Go Go.Fx
open Go.Operand renaming tmp → t, const → k
open Go.Value renaming int → i, bool → y
open Go.IntKind renaming i64 → j
open Option renaming some → s, none → o
open Go.Fx.LOp renaming mov → m, load → l, fld → f, bin → b, idx → x, store → w, pick → p, len → n, box → u
open Go.Fx.LCode renaming seq → q, reg → r, cond → c, block → z
open Go.Fx.LPlan renaming take → v, alt → h
open Bool renaming false → g, true → d
def c29:LCode:=(q (r 0 [UA 6 (m (k (.slice o 0 0))),CA 7 0]) (q (q (r 1 [MA 11 0,MA 12 1,UA 13 (.call 27 [(t 11),(t 12)]),MA 10 13,UA 14 (.ext (t 10) 0),
 (UA 15 (.ext (t 10) 1)),UA 8 (.alloc 0 (.agg #[i j 0,i j 0,.int .u8 0,.int .u8 0,.int .u8 0,.int .u8 0,.int .u8 0,.int .u8 0,.int .u8 0,.int .u8 0,.int .u8 0,.int .u8 0,.int .u8 0,.int .u8 0,.int .u8 0,.int .u8 0,.int .u8 0,.int .u8 0])),
 (WA 18 8 14),MA 9 15]) (q (r 0 [MA 16 9,UA 17 (b .neq g (t 16) (k (i j 0)))]) (c (t 17) (q (r 0 [MA 18 9,UA 6 (m (k (.slice o 0 0))),MA 7 18]) .ret)
 .skip))) (q (r 0 [MA 19 0,MA 20 1,UA 21 (.call 33 [(t 19),(t 20)]),MA 22 2,UA 23 (.call 78 [(t 21),(t 22)]),UA 24 (.ext (t 23) 0),UA 25 (.ext (t 23) 1),MA 6 24,
 (MA 7 25)]) .ret)))
def c39:LCode:=(q (r 1 [UA 4 (u 0 (t 0)),CA 8 0]) (q (r 1 [SA 10 18 4,MA 11 1,UA 12 (.call 37 [(t 10),(t 11)]),UA 9 (.alloc 0 (.agg #[i j 0,i j 0])),WA 2 9 12])
 (q (z 0 (q (r 0 [FA 14 1 9,LA 15 14,UA 16 (b .eql g (t 15) (k (i j 0))),MA 13 16]) (c (t 13) (q (r 0 [CA 8 1]) .ret) (q (.tree 0 (v 0 [1,7,8,9,10,11,12,13,14,15,16,17,18,19,20] (MA 18 2)
 (v 1 [7,8,9,10,11,12,13,14,15,16,17,18,19,20] (UA 19 (.lens (t 18))) (v 2 [3,6,7,8,9,10,11,12,13,14,15,16,17,18,19,20] (FA 20 1 9) (v 3 [6,7,8,9,10,11,12,13,14,15,16,17,18,19,20] (LA 21 20)
 (v 4 [5,6,7,8,9,10,11,12,13,14,15,16,17,18,19,20] (FA 22 0 9) (v 5 [6,7,8,9,10,11,12,13,14,15,16,17,18,19,20] (LA 23 22) (v 6 [7,8,9,10,11,12,13,14,15,16,17,18,19,20] (UA 24 (b .sub d (t 21) (t 23)))
 (v 7 [8,9,10,11,12,13,14,15,16,17,18,19,20] (UA 25 (b .neq g (t 19) (t 24))) (v 8 [9,10,11,12,13,14,15,16,17,18,19,20] (MA 26 25) (v 9 [10,13,17,18,19,20] (GA 27 (m (t 2)) 26 g) (v 11 [17,18,19,20] (GA 29 (m (t 1)) 26 g)
 (v 12 [13,17,18,19,20] (GA 30 (l (s 18) (t 4)) 26 g) (v 14 [17,18,19,20] (GA 32 (m (t 3)) 26 g) (v 15 [16,17,18,19,20] (GA 33 (f 2 (t 4)) 26 g) (v 16 [17,18,19,20] (GA 34 (l (s 16) (t 33)) 26 g)
 (h 10 (GA 28 (.call 43 [(t 27)]) 26 g) d (h 13 (GA 31 (.call 35 [(t 30)]) 26 g) d (h 17 (GA 35 (.call 81 [(t 28),(t 29),(t 31),(t 32),(t 34)]) 26 g) g (v 18 [19,20] (GA 36 (.not (t 35)) 26 g)
 (v 19 [20] (UA 37 (p (t 26) (k (y d)) (t 36))) (v 20 [] (MA 17 37) .done))) .none) .none) .none))))))))))))))))) (c (t 17) (q (r 0 [CA 8 8]) .ret) .skip))))) (q (r 0 [CA 8 0])
 .ret))))
def c60:LCode:=(q (r 2 [UA 2 (u 0 (t 0)),UA 3 (u 1 (t 1)),UA 4 (m (k (.nilFunc)))]) (q (r 0 [UA 5 (.fn 111 [(t 2),(t 3)]),MA 4 5]) .ret))
def c77:LCode:=(q (r 0 [CA 4 0]) (q (r 0 [MA 5 0,MA 6 1,UA 7 (b .add d (t 5) (t 6)),UA 8 (b .sub d (t 7) (k (i j 1))),MA 9 1,UA 10 (b .quo d (t 8) (t 9)),
 (MA 4 10)]) .ret))
def c83:LCode:=(q (r 1 [UA 3 (u 0 (t 1)),UA 4 (m (k (.slice o 0 0)))]) (q (r 1 [SA 5 2 3,UA 6 (.lits 0 2 1 [i j 0,i j 0] [(0,(t 5))]),UA 7 (.call 48 [(t 6)]),MA 8 0,
 (UA 9 (.call 46 [(t 7),(t 8)])),MA 4 9]) .ret))
def c110:LCode:=(q (r 3 [UA 2 (u 0 (t 0)),UA 3 (u 1 (t 1)),UA 4 (.alloc 2 (.agg (yaa 16 (.int .u8 0))))]) (q (.tree 1 (v 0 [1,4,5,6] (UA 5 (.prim (.pslc 16 g g g) [(t 2)])) (v 2 [3,4,5,6] (UA 7 (.prim (.pslc 16 g g g) [(t 3)]))
 (h 1 (UA 6 (.eff .b2s 0 [(t 5)])) g (h 3 (UA 8 (.eff .b2s 0 [(t 7)])) g (h 4 (UA 9 (.lits 0 1 2 [.string ⟨#[]⟩] [(0,(t 6)),(1,(t 8))])) g (h 5 (UA 10 (.call 84 [(k (i j 31)),(t 9)])) g (h 6 (WA 16 4 10) g
 .done .none) .none) .none) .none) (h 3 (UA 8 (.eff .b2s 0 [(t 7)])) g (h 1 (UA 6 (.eff .b2s 0 [(t 5)])) g (h 4 (UA 9 (.lits 0 1 2 [.string ⟨#[]⟩] [(0,(t 6)),(1,(t 8))])) g (h 5 (UA 10 (.call 84 [(k (i j 31)),(t 9)])) g
 (h 6 (WA 16 4 10) g .done .none) .none) .none) .none) .none))))) .ret))
def c128:LCode:=(q (r 1 [UA 0 (.alloc 0 (.agg nJ))]) (q (r 0 [UA 1 (.build [.int .u32 0,.int .u32 0,.int .u32 0,.int .u32 0,.int .u32 0,.int .u32 0,.int .u32 0,.int .u32 0] [(0,1,(k (.int .u32 1779033703))),(1,1,(k (.int .u32 3144134277))),(2,1,(k (.int .u32 1013904242))),(3,1,(k (.int .u32 2773480762))),(4,1,(k (.int .u32 1359893119))),(5,1,(k (.int .u32 2600822924))),(6,1,(k (.int .u32 528734635))),(7,1,(k (.int .u32 1541459225)))]),
 (UA 2 (.build [.int .u32 0,.int .u32 0,.int .u32 0,.int .u32 0,.int .u32 0,.int .u32 0,.int .u32 0,.int .u32 0,.int .u8 0,.int .u8 0,.int .u8 0,.int .u8 0,.int .u8 0,.int .u8 0,.int .u8 0,.int .u8 0,.int .u8 0,.int .u8 0,.int .u8 0,.int .u8 0,.int .u8 0,.int .u8 0,.int .u8 0,.int .u8 0,.int .u8 0,.int .u8 0,.int .u8 0,.int .u8 0,.int .u8 0,.int .u8 0,.int .u8 0,.int .u8 0,.int .u8 0,.int .u8 0,.int .u8 0,.int .u8 0,.int .u8 0,.int .u8 0,.int .u8 0,.int .u8 0,.int .u8 0,.int .u8 0,.int .u8 0,.int .u8 0,.int .u8 0,.int .u8 0,.int .u8 0,.int .u8 0,.int .u8 0,.int .u8 0,.int .u8 0,.int .u8 0,.int .u8 0,.int .u8 0,.int .u8 0,.int .u8 0,.int .u8 0,.int .u8 0,.int .u8 0,.int .u8 0,.int .u8 0,.int .u8 0,.int .u8 0,.int .u8 0,.int .u8 0,.int .u8 0,.int .u8 0,.int .u8 0,.int .u8 0,.int .u8 0,.int .u8 0,.int .u8 0,.int .u64 0] [(0,8,(t 1))])),
 (WA 73 0 2)]) .ret))
def c131l0:LCode:=q (q (r 0 [FA 12 72 1,LA 13 12,UA 14 (.conv g .i64 (t 13)),MA 15 4,UA 16 (n (t 15)),UA 17 (b .add d (t 14) (t 16)),UA 18 (b .rem g (t 17) (k (i j 64))),
 (UA 19 (b .neq g (t 18) (k (i j 56))))]) (c (t 19) .skip (.exit 0))) (z 1 (r 2 [MA 20 4,UA 21 (.lits 0 1 1 [.int .u8 0] [(0,(k (.int .u8 0)))]),UA 22 (.append 1 1 1 (t 20) (t 21)),MA 4 22]))
def c131l1:LCode:=q (r 0 [UA 24 (b .lss g (t 23) (k (i j 8)))]) (q (c (t 24) .skip (.exit 2)) (q (z 3 (q (r 0 [MA 25 23,MA 5 25]) (r 2 [MA 26 4,MA 27 3,MA 28 5,
 (UA 29 (b .mul d (k (i j 8)) (t 28))),UA 30 (b .sub d (k (i j 56)) (t 29)),UA 31 (.shift .shr (t 27) (t 30)),UA 32 (.conv g .u8 (t 31)),UA 33 (.lits 0 1 1 [.int .u8 0] [(0,(t 32))]),UA 34 (.append 1 1 1 (t 26) (t 33)),
 (MA 4 34)]))) (r 0 [UA 35 (b .add d (t 23) (k (i j 1))),MA 23 35])))
def c131l2:LCode:=q (r 0 [UA 41 (b .lss g (t 40) (k (i j 32)))]) (q (c (t 41) .skip (.exit 4)) (q (z 5 (q (r 0 [MA 42 40,MA 7 42]) (r 0 [MA 43 7,MA 44 7,UA 45 (b .quo d (t 44) (k (i j 4))),
 (FA 46 0 1),UA 47 (.prim (.pidx 8 1) [(t 46),(t 45)]),LA 48 47,MA 49 7,UA 50 (b .rem g (t 49) (k (i j 4))),UA 51 (b .mul d (k (i j 8)) (t 50)),UA 52 (b .sub d (k (i j 24)) (t 51)),
 (UA 53 (.shift .shr (t 48) (t 52))),UA 54 (.conv g .u8 (t 53)),UA 55 (.prim (.pidx 32 1) [(t 6),(t 43)]),WA 1 55 54]))) (r 0 [UA 56 (b .add d (t 40) (k (i j 1))),MA 40 56])))
def c131:LCode:=(q (r 2 [UA 1 (u 0 (t 0)),UA 2 (.alloc 1 (.agg (yaa 32 (.int .u8 0))))]) (q (r 0 [FA 8 72 1,LA 9 8,UA 10 (b .mul g (k (.int .u64 8)) (t 9)),
 (MA 3 10)]) (q (r 1 [UA 11 (.lits 0 1 1 [.int .u8 0] [(0,(k (.int .u8 128)))]),MA 4 11]) (q (z 0 (.loop c131l0)) (q (q (r 0 [CA 23 0]) (z 2 (.loop c131l1))) (q (r 0 [
 (SA 36 73 1),MA 37 4,UA 38 (.eff .b2s 0 [(t 37)]),UA 39 (.call 129 [(t 36),(t 38)]),WA 73 1 39]) (q (r 1 [UA 6 (.alloc 0 (.agg (yaa 32 (.int .u8 0))))])
 (q (q (r 0 [CA 40 0]) (z 4 (.loop c131l2))) (q (r 0 [SA 57 32 6,WA 32 2 57]) .ret)))))))))
open Go Go.Fx Go.Proofs
theorem lw29:rlF Tryz.prog 29 c29=some (c29,[.tmp 6,.tmp 7],26):=by kernel_rfl
theorem lw39:rlF Tryz.prog 39 c39=some (c39,[.tmp 8],38):=by kernel_rfl
theorem lw60:rlF Tryz.prog 60 c60=some (c60,[.tmp 4],6):=by kernel_rfl
theorem lw77:rlF Tryz.prog 77 c77=some (c77,[.tmp 4],11):=by kernel_rfl
theorem lw83:rlF Tryz.prog 83 c83=some (c83,[.tmp 4],10):=by kernel_rfl
theorem lw110:rlF Tryz.prog 110 c110=some (c110,[.cell 4 (some 16)],11):=by kernel_rfl
theorem lw128:rlF Tryz.prog 128 c128=some (c128,[.cell 0 (some 73)],3):=by kernel_rfl
theorem lw131:rlF Tryz.prog 131 c131=some (c131,[.cell 2 (some 32)],58):=by kernel_rfl
end Go.Fx.H
namespace Go.Fx.H
open Go Go.Fx
open Go.Operand renaming tmp → t, const → k
open Go.Value renaming int → i, bool → y
open Go.IntKind renaming i64 → j
open Option renaming some → s, none → o
open Go.Fx.LOp renaming mov → m, load → l, fld → f, bin → b, idx → x, store → w, pick → p, len → n, box → u
open Go.Fx.LCode renaming seq → q, reg → r, cond → c, block → z
open Go.Fx.LPlan renaming take → v, alt → h
open Bool renaming false → g, true → d
def c10l0:LCode:=q (r 0 [UA 41 (b .lss g (t 40) (t 39))]) (q (c (t 41) .skip (.exit 0)) (q (z 1 (q (r 0 [MA 42 40,MA 10 42]) (q (r 1 [SA 43 18 7,MA 44 10,
 (UA 45 (.call 37 [(t 43),(t 44)])),UA 11 (.alloc 0 (.agg #[i j 0,i j 0])),WA 2 11 45]) (q (r 0 [MA 47 0,MA 48 1,MA 49 10,UA 50 (.call 29 [(t 47),(t 48),(t 49)]),
 (MA 46 50),UA 51 (.ext (t 46) 0),UA 52 (.ext (t 46) 1),MA 12 51,MA 13 52]) (q (q (r 0 [MA 53 13,UA 54 (b .neq g (t 53) (k (i j 0))),MA 55 54,GA 56 (f 0 (t 11)) 55 g,
 (GA 57 (l o (t 56)) 55 g),GA 58 (b .lss g (t 57) (k (i j 0))) 55 g,UA 59 (p (t 55) (k (y d)) (t 58)),MA 60 59,GA 61 (f 0 (t 11)) 60 g,GA 62 (l o (t 61)) 60 g,GA 63 (f 1 (t 11)) 60 g,
 (GA 64 (l o (t 63)) 60 g),GA 65 (b .geq g (t 62) (t 64)) 60 g,UA 66 (p (t 60) (k (y d)) (t 65)),MA 67 66,GA 68 (f 1 (t 11)) 67 g,GA 69 (l o (t 68)) 67 g,GA 70 (m (t 0)) 67 g,
 (GA 71 (.lens (t 70)) 67 g),GA 72 (b .gtr g (t 69) (t 71)) 67 g,UA 73 (p (t 67) (k (y d)) (t 72))]) (c (t 73) (q (r 0 [UA 6 (m (k (y g)))]) .ret) .skip)) (q (r 0 [MA 74 0,FA 75 0 11,
 (LA 76 75),FA 77 1 11,LA 78 77,UA 79 (.prim (.sslc d d) [(t 74),(t 76),(t 78)]),MA 14 79]) (q (r 0 [MA 80 2,UA 81 (.conv d .i64 (t 80)),SA 82 18 7,
 (UA 83 (.call 35 [(t 82)])),UA 84 (b .rem g (t 81) (t 83)),MA 15 84]) (q (r 1 [SA 85 18 7,MA 86 15,UA 87 (.call 37 [(t 85),(t 86)]),UA 16 (.alloc 0 (.agg #[i j 0,i j 0])),
 (WA 2 16 87)]) (q (q (.tree 0 (v 0 [4,5,6,7,8,9,10,11,12,13,14] (SA 88 18 7) (v 1 [4,5,6,7,8,9,10,11,12,13,14] (MA 89 10) (v 2 [4,5,6,7,8,9,10,11,12,13,14] (MA 90 14)
 (v 3 [4,5,6,7,8,9,10,11,12,13,14] (MA 91 12) (h 4 (UA 92 (.call 39 [(t 88),(t 89),(t 90),(t 91)])) g (v 5 [6,7,8,9,10,11,12,13,14] (UA 93 (b .neq g (t 92) (k (i j 0)))) (v 6 [7,8,9,10,11,12,13,14] (MA 94 93)
 (v 7 [12,13,14] (GA 95 (l (s 18) (t 7)) 94 g) (v 8 [12,13,14] (GA 96 (m (t 10)) 94 g) (v 9 [10,12,13,14] (GA 97 (m (t 14)) 94 g) (v 10 [12,13,14] (GA 98 (.prim (.sslc d g) [(t 97),(k (i j 1))]) 94 g)
 (v 11 [12,13,14] (GA 99 (m (t 12)) 94 g) (h 12 (GA 100 (.call 39 [(t 95),(t 96),(t 98),(t 99)]) 94 g) g (v 13 [14] (GA 101 (b .neq g (t 100) (k (i j 8))) 94 g) (v 14 [] (UA 102 (p (t 94) (k (y d)) (t 101)))
 .done)) .none)))))))) .none)))))) (c (t 102) (q (r 0 [UA 6 (m (k (y g)))]) .ret) .skip)) (q (r 0 [SA 103 18 7,MA 104 15,MA 105 14,MA 106 12,UA 107 (.call 39 [(t 103),(t 104),(t 105),(t 106)]),
 (MA 17 107)]) (q (q (r 0 [MA 108 15,MA 109 10,UA 110 (b .neq g (t 108) (t 109)),MA 111 110,GA 112 (m (t 17)) 111 d,GA 113 (b .eql g (t 112) (k (i j 0))) 111 d,
 (UA 114 (p (t 111) (t 113) (k (y g)))),MA 115 114,GA 116 (m (t 14)) 115 d,GA 117 (.lens (t 116)) 115 d,GA 118 (f 1 (t 16)) 115 d,GA 119 (l o (t 118)) 115 d,GA 120 (f 0 (t 16)) 115 d,
 (GA 121 (l o (t 120)) 115 d),GA 122 (b .sub d (t 119) (t 121)) 115 d,GA 123 (b .neq g (t 117) (t 122)) 115 d,UA 124 (p (t 115) (t 123) (k (y g)))]) (c (t 124) (q (r 0 [UA 6 (m (k (y g)))])
 .ret) .skip)) (q (q (r 1 [MA 125 9,SA 126 2 11,UA 127 (.lits 0 2 1 [i j 0,i j 0] [(0,(t 126))]),UA 128 (.call 48 [(t 127)]),UA 129 (.call 47 [(t 125),(t 128)]),UA 130 (.call 44 [(t 129)]),
 (UA 131 (b .gtr g (t 130) (k (i j 0))))]) (c (t 131) (q (r 0 [UA 6 (m (k (y g)))]) .ret) .skip)) (r 0 [MA 132 9,SA 133 2 11,UA 134 (.call 49 [(t 132),(t 133)]),MA 9 134])))))))))))))
 (r 0 [UA 135 (b .add d (t 40) (k (i j 1))),MA 40 135])))
def c10:LCode:=(q (r 0 [UA 6 (m (k (y g)))]) (q (q (r 0 [MA 18 0,UA 19 (.lens (t 18)),UA 20 (b .gtr g (t 19) (k (i j 300))),MA 21 20,GA 22 (m (t 1)) 21 g,GA 23 (b .lss g (t 22) (k (i j 1))) 21 g,
 (UA 24 (p (t 21) (k (y d)) (t 23))),MA 25 24,GA 26 (m (t 1)) 25 g,GA 27 (b .gtr g (t 26) (k (i j 300))) 25 g,UA 28 (p (t 25) (k (y d)) (t 27))]) (c (t 28) (q (r 0 [UA 29 (.call 13 []),
 (MA 6 29)]) .ret) .skip)) (q (r 1 [MA 31 0,MA 32 1,UA 33 (.call 27 [(t 31),(t 32)]),MA 30 33,UA 34 (.ext (t 30) 0),UA 35 (.ext (t 30) 1),UA 7 (.alloc 0 (.agg #[i j 0,i j 0,.int .u8 0,.int .u8 0,.int .u8 0,.int .u8 0,.int .u8 0,.int .u8 0,.int .u8 0,.int .u8 0,.int .u8 0,.int .u8 0,.int .u8 0,.int .u8 0,.int .u8 0,.int .u8 0,.int .u8 0,.int .u8 0])),
 (WA 18 7 34),MA 8 35]) (q (q (r 0 [MA 36 8,UA 37 (b .neq g (t 36) (k (i j 0)))]) (c (t 37) (q (r 0 [UA 6 (m (k (y g)))]) .ret) .skip)) (q (r 0 [UA 9 (m (k (.slice o 0 0)))])
 (q (q (r 0 [SA 38 18 7,UA 39 (.call 35 [(t 38)]),CA 40 0]) (z 0 (.loop c10l0))) (q (r 1 [UA 136 (.call 13 []),MA 137 136,GA 138 (m (t 9)) 137 d,GA 139 (m (t 0)) 137 d,
 (GA 140 (.lens (t 139)) 137 d),GA 141 (.build [i j 0,i j 0] [(1,1,(t 140))]) 137 d,GA 142 (.lits 0 2 1 [i j 0,i j 0] [(0,(t 141))]) 137 d,GA 143 (.call 48 [(t 142)]) 137 d,GA 144 (.call 16 [(t 138),(t 143)]) 137 d,
 (UA 145 (p (t 137) (t 144) (k (y g)))),MA 6 145]) .ret)))))))
def c16:LCode:=(q (r 0 [UA 4 (m (k (y g)))]) (q (r 0 [MA 5 0,MA 6 1,UA 7 (.call 66 [(t 5),(t 6)]),MA 4 7]) .ret))
def c35:LCode:=(q (r 1 [UA 1 (u 0 (t 0)),CA 2 0]) (q (r 0 [FA 3 0 1,LA 4 3,FA 5 1 1,LA 6 5,UA 7 (.call 77 [(t 4),(t 6)]),MA 2 7])
 .ret))
def c49:LCode:=(q (r 1 [UA 3 (u 0 (t 1)),UA 4 (m (k (.slice o 0 0)))]) (q (.tree 2 (v 0 [1,4,5,6] (MA 5 0) (v 2 [3,4,5,6] (SA 7 2 3) (h 1 (UA 6 (.call 90 [(t 5)])) d (h 3 (UA 8 (.lits 0 2 1 [i j 0,i j 0] [(0,(t 7))])) g
 (h 4 (UA 9 (.append 1 2 16 (t 6) (t 8))) g (h 5 (UA 10 (.call 48 [(t 9)])) g (v 6 [] (MA 4 10) .done) .none) .none) .none) (h 3 (UA 8 (.lits 0 2 1 [i j 0,i j 0] [(0,(t 7))])) g (h 1 (UA 6 (.call 90 [(t 5)])) d
 (h 4 (UA 9 (.append 1 2 16 (t 6) (t 8))) g (h 5 (UA 10 (.call 48 [(t 9)])) g (v 6 [] (MA 4 10) .done) .none) .none) .none) .none))))) .ret))
def c66l0:LCode:=q (q (r 0 [MA 11 5,MA 12 0,UA 13 (n (t 12)),UA 14 (b .lss g (t 11) (t 13))]) (c (t 14) .skip (.exit 0))) (q (z 1 (q (.qui 0 [MA 17 0,MA 18 5,
 (XA 19 2 17 18),SA 20 2 19,MA 21 1,MA 22 5,XA 23 2 21 22,SA 24 2 23,UA 25 (.eqf d [(0,(.int .i64)),(1,(.int .i64))] (t 20) (t 24))])
 (c (t 25) (q (r 0 [UA 4 (m (k (y g)))]) .ret) .skip))) (r 0 [MA 15 5,UA 16 (b .add d (t 15) (k (i j 1))),MA 5 16]))
def c66:LCode:=(q (r 0 [UA 4 (m (k (y g)))]) (q (q (r 0 [MA 6 0,UA 7 (n (t 6)),MA 8 1,UA 9 (n (t 8)),UA 10 (b .neq g (t 7) (t 9))]) (c (t 10) (q (r 0 [UA 4 (m (k (y g)))])
 .ret) .skip)) (q (q (r 0 [CA 5 0]) (z 0 (.loop c66l0))) (q (r 0 [UA 4 (m (k (y d)))]) .ret))))
def c78:LCode:=(q (r 0 [UA 4 (m (k (.slice o 0 0))),CA 5 0]) (q (q (r 0 [MA 8 1,UA 9 (b .lss g (t 8) (k (i j 0))),MA 10 9,GA 11 (m (t 1)) 10 g,GA 12 (m (t 0)) 10 g,
 (GA 13 (n (t 12)) 10 g),GA 14 (b .geq g (t 11) (t 13)) 10 g,UA 15 (p (t 10) (k (y d)) (t 14))]) (c (t 15) (q (r 0 [UA 4 (m (k (.slice o 0 0))),CA 5 1]) .ret) .skip)) (q (r 1 [
 (UA 6 (.alloc 0 (.slice o 0 0)))]) (q (r 1 [UA 7 (.alloc 0 (.nilFunc))]) (q (r 0 [UA 16 (.fn 122 [(t 7),(t 6)]),WA 1 7 16]) (q (r 0 [LA 17 7,MA 18 0,MA 19 1,
 (UA 20 (.callv (t 17) [(t 18),(t 19)]))]) (q (r 0 [LA 21 6,MA 4 21,CA 5 0]) .ret)))))))
def c86:LCode:=(q (r 2 [UA 2 (u 0 (t 0)),UA 3 (u 1 (t 1)),UA 4 (m (k (.nilFunc)))]) (q (r 0 [UA 5 (.fn 132 [(t 2),(t 3)]),MA 4 5]) .ret))
def c122:LCode:=(q (q (r 0 [MA 7 0,UA 8 (n (t 7)),UA 9 (b .eql g (t 8) (k (i j 1)))]) (c (t 9) .ret .skip)) (q (r 0 [MA 10 0,UA 11 (n (t 10)),UA 12 (.call 109 [(t 11)]),
 (MA 6 12)]) (q (r 0 [MA 13 1,MA 14 6,UA 15 (b .lss g (t 13) (t 14))]) (c (t 15) (q (.tail 6 0 [LA 16 2,MA 17 0,MA 18 6,MA 19 6,UA 20 (.slice 16 (t 17) o (s (t 18)) (s (t 19))),
 (MA 21 1),UA 22 (.callv (t 16) [(t 20),(t 21)])]) (.tree 2 (v 0 [6,7] (LA 23 3) (v 1 [3,4,5,6,7] (MA 24 0) (v 2 [3,4,5,6,7] (MA 25 6) (v 3 [4,5,6,7] (UA 26 (.slice 16 (t 24) (s (t 25)) o o))
 (h 4 (UA 27 (.call 59 [(t 26)])) d (h 5 (UA 28 (.lits 0 16 1 (yab 16 (.int .u8 0)) [(0,(t 27))])) d (h 6 (UA 29 (.append 1 16 16 (t 23) (t 28))) g (h 7 (WA 1 3 29) g .done .none) .none)
 .none) .none))))))) (q (.tail 7 0 [LA 30 2,MA 31 0,MA 32 6,UA 33 (.slice 16 (t 31) (s (t 32)) o o),MA 34 1,MA 35 6,UA 36 (b .sub d (t 34) (t 35)),
 (UA 37 (.callv (t 30) [(t 33),(t 36)]))]) (.tree 2 (v 0 [7,8] (LA 38 3) (v 1 [4,5,6,7,8] (MA 39 0) (v 2 [4,5,6,7,8] (MA 40 6) (v 3 [4,5,6,7,8] (MA 41 6) (v 4 [5,6,7,8] (UA 42 (.slice 16 (t 39) o (s (t 40)) (s (t 41))))
 (h 5 (UA 43 (.call 59 [(t 42)])) d (h 6 (UA 44 (.lits 0 16 1 (yab 16 (.int .u8 0)) [(0,(t 43))])) d (h 7 (UA 45 (.append 1 16 16 (t 38) (t 44))) g (h 8 (WA 1 3 45) g .done .none) .none)
 .none) .none))))))))))))
def c126:LCode:=(q (r 1 [UA 2 (.alloc 0 (.agg (yaa 16 (.int .u8 0))))]) (q (r 0 [MA 5 0,UA 6 (.nilc (t 5)),FA 7 0 6,LA 8 7,UA 9 (n (t 8)),MA 3 9])
 (q (q (r 0 [MA 10 3,UA 11 (b .eql g (t 10) (k (i j 0)))]) (c (t 11) (q (r 0 [MA 12 0,UA 13 (.nilc (t 12)),FA 14 1 13,⟨o,w 1 (t 14) (k (y d)),o⟩]) (q (r 0 [UA 15 (.build (yab 16 (.int .u8 0)) []),
 (WA 16 2 15)]) .ret)) .skip)) (q (r 1 [MA 16 0,UA 17 (.nilc (t 16)),FA 18 0 17,LA 19 18,MA 20 3,UA 21 (b .sub d (t 20) (k (i j 1))),XA 22 16 19 21,
 (SA 23 16 22),UA 4 (.alloc 0 (.agg (yaa 16 (.int .u8 0)))),WA 16 4 23]) (q (r 0 [MA 24 0,MA 25 0,UA 26 (.nilc (t 25)),FA 27 0 26,
 (LA 28 27),MA 29 3,UA 30 (b .sub d (t 29) (k (i j 1))),MA 31 3,UA 32 (b .sub d (t 31) (k (i j 1))),UA 33 (.slice 16 (t 28) o (s (t 30)) (s (t 32))),UA 34 (.nilc (t 24)),
 (FA 35 0 34),WA 1 35 33]) (q (r 0 [SA 36 16 4,WA 16 2 36]) .ret))))))
def c155l1:LCode:=q (q (.tail 14 0 [MA 18 9,MA 19 1,UA 20 (b .gtr g (t 18) (t 19)),MA 21 20,GA 22 (m (t 3)) 21 d,GA 23 (m (t 0)) 21 d,GA 24 (m (t 9)) 21 d,
 (GA 25 (x 2 (t 23) (t 24)) 21 d),GA 26 (l (s 2) (t 25)) 21 d,GA 27 (m (t 0)) 21 d,GA 28 (m (t 9)) 21 d,GA 29 (b .sub d (t 28) (k (i j 1))) 21 d,GA 30 (x 2 (t 27) (t 29)) 21 d,
 (GA 31 (l (s 2) (t 30)) 21 d),GA 32 (.callv (t 22) [(t 26),(t 31)]) 21 d,GA 33 (b .lss g (t 32) (k (i j 0))) 21 d,UA 34 (p (t 21) (t 33) (k (y g)))]) (c (t 34) .skip (.exit 2))) (q (z 3
 (.tree 0 (v 0 [14,15,16,17] (MA 37 0) (v 1 [14,15,16,17] (MA 38 9) (v 2 [16,17] (MA 39 0) (v 3 [4,16,17] (MA 40 9) (v 4 [16,17] (UA 41 (b .sub d (t 40) (k (i j 1)))) (v 5 [8,9,14,15,16,17] (MA 42 0)
 (v 6 [7,8,9,14,15,16,17] (MA 43 9) (v 7 [8,9,14,15,16,17] (UA 44 (b .sub d (t 43) (k (i j 1)))) (v 8 [9,14,15,16,17] (XA 45 2 42 44) (v 9 [14,15,16,17] (SA 46 2 45) (v 10 [12,13,14,15,16,17] (MA 47 0)
 (v 11 [12,13,14,15,16,17] (MA 48 9) (v 12 [13,14,15,16,17] (XA 49 2 47 48) (v 13 [14,15,16,17] (SA 50 2 49) (v 14 [15,16,17] (XA 51 2 37 38) (h 15 (WA 2 51 46) g
 (v 16 [17] (XA 52 2 39 41) (h 17 (WA 2 52 50) g .done .none)) .none)))))))))))))))))) (r 0 [MA 35 9,UA 36 (b .sub d (t 35) (k (i j 1))),MA 9 36]))
def c155l0:LCode:=q (q (r 0 [MA 12 8,MA 13 2,UA 14 (b .lss g (t 12) (t 13))]) (c (t 14) .skip (.exit 0))) (q (z 1 (q (r 0 [MA 17 8,MA 9 17]) (z 2 (.loop c155l1))))
 (r 0 [MA 15 8,UA 16 (b .add d (t 15) (k (i j 1))),MA 8 16]))
def c155:LCode:=(q (r 0 [MA 10 1,UA 11 (b .add d (t 10) (k (i j 1))),MA 8 11]) (z 0 (.loop c155l0)))
def c159l0:LCode:=q (r 0 [UA 23 (b .lss g (t 22) (k (i j 64)))]) (q (c (t 23) .skip (.exit 0)) (q (z 1 (q (r 0 [MA 24 22,UA 25 (.prim (.aidx 64 1 g) [(t 21),(t 22)]),MA 8 24,
 (MA 9 25)]) (q (.tree 0 (v 0 [1,5,18,20,24,25] (UA 26 (.prim (.pidx 4 1) [(t 7),(k (i j 3))])) (v 1 [5,18,20,24,25] (LA 27 26) (v 2 [3,4,5,18,20,24,25] (UA 28 (.prim (.pidx 4 1) [(t 7),(k (i j 0))]))
 (v 3 [4,5,18,20,24,25] (LA 29 28) (v 6 [7,10,17,18,20,24,25] (UA 32 (.prim (.pidx 4 1) [(t 7),(k (i j 0))])) (v 7 [10,17,18,20,24,25] (LA 33 32) (v 8 [9,10,17,18,20,24,25] (UA 34 (.prim (.pidx 4 1) [(t 7),(k (i j 1))]))
 (v 9 [10,17,18,20,24,25] (LA 35 34) (v 10 [17,18,20,24,25] (UA 36 (b .and g (t 33) (t 35))) (v 11 [12,13,16,17,18,20,24,25] (UA 37 (.prim (.pidx 4 1) [(t 7),(k (i j 0))])) (v 12 [13,16,17,18,20,24,25] (LA 38 37)
 (v 13 [16,17,18,20,24,25] (UA 39 (.prim .cpl [(t 38)])) (v 14 [15,16,17,18,20,24,25] (UA 40 (.prim (.pidx 4 1) [(t 7),(k (i j 2))])) (v 15 [16,17,18,20,24,25] (LA 41 40) (v 16 [17,18,20,24,25] (UA 42 (b .and g (t 39) (t 41)))
 (v 17 [18,20,24,25] (UA 43 (b .xor g (t 36) (t 42))) (v 19 [20,24,25] (MA 45 9) (v 21 [22,23,24,25] (MA 47 8) (v 22 [23,24,25] (UA 48 (.prim (.pidx 64 1) [(t 5),(t 47)])) (v 23 [24,25] (LA 49 48)
 (h 4 (UA 30 (.call 183 [(t 29),(k (i j 6)),(k (i j 11)),(k (i j 25))])) d (v 5 [18,20,24,25] (UA 31 (b .add g (t 27) (t 30))) (v 18 [20,24,25] (UA 44 (b .add g (t 31) (t 43))) (v 20 [24,25] (UA 46 (b .add g (t 44) (t 45)))
 (v 24 [25] (UA 50 (b .add g (t 46) (t 49))) (v 25 [] (MA 10 50) .done))))) .none)))))))))))))))))))))) (q (.tree 0 (v 0 [1,2,20,21] (UA 51 (.prim (.pidx 4 1) [(t 6),(k (i j 0))])) (v 1 [2,20,21] (LA 52 51)
 (v 3 [4,7,13,19,20,21] (UA 54 (.prim (.pidx 4 1) [(t 6),(k (i j 0))])) (v 4 [7,13,19,20,21] (LA 55 54) (v 5 [6,7,13,19,20,21] (UA 56 (.prim (.pidx 4 1) [(t 6),(k (i j 1))])) (v 6 [7,13,19,20,21] (LA 57 56)
 (v 7 [13,19,20,21] (UA 58 (b .and g (t 55) (t 57))) (v 8 [9,12,13,19,20,21] (UA 59 (.prim (.pidx 4 1) [(t 6),(k (i j 0))])) (v 9 [12,13,19,20,21] (LA 60 59) (v 10 [11,12,13,19,20,21] (UA 61 (.prim (.pidx 4 1) [(t 6),(k (i j 2))]))
 (v 11 [12,13,19,20,21] (LA 62 61) (v 12 [13,19,20,21] (UA 63 (b .and g (t 60) (t 62))) (v 13 [19,20,21] (UA 64 (b .xor g (t 58) (t 63))) (v 14 [15,18,19,20,21] (UA 65 (.prim (.pidx 4 1) [(t 6),(k (i j 1))]))
 (v 15 [18,19,20,21] (LA 66 65) (v 16 [17,18,19,20,21] (UA 67 (.prim (.pidx 4 1) [(t 6),(k (i j 2))])) (v 17 [18,19,20,21] (LA 68 67) (v 18 [19,20,21] (UA 69 (b .and g (t 66) (t 68))) (v 19 [20,21] (UA 70 (b .xor g (t 64) (t 69)))
 (h 2 (UA 53 (.call 183 [(t 52),(k (i j 2)),(k (i j 13)),(k (i j 22))])) d (v 20 [21] (UA 71 (b .add g (t 53) (t 70))) (v 21 [] (MA 11 71) .done)) .none))))))))))))))))))))) (q (r 0 [UA 72 (.prim (.pidx 4 1) [(t 6),(k (i j 3))]),
 (LA 73 72),MA 74 10,UA 75 (b .add g (t 73) (t 74)),UA 76 (.prim (.pidx 4 1) [(t 7),(k (i j 0))]),LA 77 76,UA 78 (.prim (.pidx 4 1) [(t 7),(k (i j 1))]),LA 79 78,
 (UA 80 (.prim (.pidx 4 1) [(t 7),(k (i j 2))])),LA 81 80,UA 82 (.build [.int .u32 0,.int .u32 0,.int .u32 0,.int .u32 0] [(0,1,(t 75)),(1,1,(t 77)),(2,1,(t 79)),(3,1,(t 81))]),WA 4 7 82])
 (r 0 [MA 83 10,MA 84 11,UA 85 (b .add g (t 83) (t 84)),UA 86 (.prim (.pidx 4 1) [(t 6),(k (i j 0))]),LA 87 86,UA 88 (.prim (.pidx 4 1) [(t 6),(k (i j 1))]),LA 89 88,
 (UA 90 (.prim (.pidx 4 1) [(t 6),(k (i j 2))])),LA 91 90,UA 92 (.build [.int .u32 0,.int .u32 0,.int .u32 0,.int .u32 0] [(0,1,(t 85)),(1,1,(t 87)),(2,1,(t 89)),(3,1,(t 91))]),WA 4 6 92]))))))
 (r 0 [UA 93 (b .add d (t 22) (k (i j 1))),MA 22 93])))
def c159l1:LCode:=q (r 0 [UA 95 (b .lss g (t 94) (k (i j 4)))]) (q (c (t 95) .skip (.exit 2)) (q (z 3 (q (r 0 [MA 96 94,MA 12 96]) (q (.tail 8 0 [MA 97 12,UA 98 (.prim (.pidx 8 1) [(t 2),(t 97)]),
 (LA 99 98),MA 100 12,UA 101 (.prim (.pidx 4 1) [(t 6),(t 100)]),LA 102 101,UA 103 (b .add g (t 99) (t 102)),UA 104 (.prim (.pidx 8 1) [(t 2),(t 97)]),WA 1 104 103])
 (.tail 9 0 [MA 105 12,UA 106 (b .add d (t 105) (k (i j 4))),UA 107 (.prim (.pidx 8 1) [(t 2),(t 106)]),LA 108 107,MA 109 12,UA 110 (.prim (.pidx 4 1) [(t 7),(t 109)]),
 (LA 111 110),UA 112 (b .add g (t 108) (t 111)),UA 113 (.prim (.pidx 8 1) [(t 2),(t 106)]),WA 1 113 112])))) (r 0 [UA 114 (b .add d (t 94) (k (i j 1))),MA 94 114])))
def c159:LCode:=(q (r 2 [UA 2 (u 0 (t 0)),UA 4 (.alloc 1 (.agg #[.int .u32 0,.int .u32 0,.int .u32 0,.int .u32 0,.int .u32 0,.int .u32 0,.int .u32 0,.int .u32 0]))]) (q (r 1 [MA 13 1,
 (UA 14 (.call 182 [(t 13)])),UA 5 (.alloc 0 (.agg (yaa 64 (.int .u32 0)))),WA 64 5 14]) (q (.tree 2 (v 0 [1,2,8,9] (UA 15 (.prim (.pslc 8 g d g) [(t 2),(k (i j 4))])) (v 1 [2,8,9] (UA 16 (.prim (.s2a 4) [(t 15)]))
 (v 2 [8,9] (SA 17 4 16) (v 3 [4,5,9] (UA 18 (.prim (.pslc 8 d g g) [(t 2),(k (i j 4))])) (v 4 [5,9] (UA 19 (.prim (.s2a 4) [(t 18)])) (v 5 [9] (SA 20 4 19) (h 6 (UA 6 (.alloc 0 (.agg #[.int .u32 0,.int .u32 0,.int .u32 0,.int .u32 0]))) d
 (h 7 (UA 7 (.alloc 1 (.agg #[.int .u32 0,.int .u32 0,.int .u32 0,.int .u32 0]))) d (h 8 (WA 4 6 17) d (h 9 (WA 4 7 20) g .done .none) .none) .none) (h 7 (UA 7 (.alloc 1 (.agg #[.int .u32 0,.int .u32 0,.int .u32 0,.int .u32 0]))) d
 (h 6 (UA 6 (.alloc 0 (.agg #[.int .u32 0,.int .u32 0,.int .u32 0,.int .u32 0]))) d (h 8 (WA 4 6 17) d (h 9 (WA 4 7 20) g .done .none) .none) .none) .none))))))))) (q (q (r 0 [UA 21 (.eff (.gload 0 64) 0 []),
 (CA 22 0)]) (z 0 (.loop c159l0))) (q (q (r 0 [CA 94 0]) (z 2 (.loop c159l1))) (q (r 0 [SA 115 8 2,WA 8 4 115]) .ret))))))
def c162a0:LCode:=r 1 [UA 5 (.alloc 0 (.agg #[i j 0,i j 0])),WA 2 5 7]
def c162r0:LCode:=z 1 (r 2 [LA 8 2,SA 9 2 5,UA 10 (.lits 0 2 1 [i j 0,i j 0] [(0,(t 9))]),UA 11 (.append 1 2 16 (t 8) (t 10)),WA 1 2 11])
def c162:LCode:=(q (r 1 [UA 2 (u 0 (t 0)),UA 4 (m (k (.slice o 0 0)))]) (q (q (r 0 [MA 6 1]) (z 0 (.rfn (t 6) [7] c162a0 c162r0))) (q (r 0 [LA 12 2,MA 4 12]) .ret)))

def c181l0:LCode:=q (q (r 0 [MA 18 10,MA 19 11,UA 20 (b .neq g (t 18) (t 19))]) (c (t 20) .skip (.exit 0))) (z 1 (q (r 0 [MA 21 10,MA 22 11,UA 23 (b .gtr g (t 21) (t 22))])
 (c (t 23) (q (r 0 [MA 24 0,MA 25 2,MA 26 10,UA 27 (b .sub d (t 25) (t 26)),MA 28 2,MA 29 11,MA 30 4,UA 31 (.call 210 [(t 24),(t 27),(t 28),(t 29),(t 30)])])
 (r 0 [MA 32 10,MA 33 11,UA 34 (b .sub d (t 32) (t 33)),MA 10 34])) (q (r 0 [MA 35 0,MA 36 2,MA 37 10,UA 38 (b .sub d (t 36) (t 37)),MA 39 2,
 (MA 40 11),UA 41 (b .add d (t 39) (t 40)),MA 42 10,UA 43 (b .sub d (t 41) (t 42)),MA 44 10,MA 45 4,UA 46 (.call 210 [(t 35),(t 38),(t 43),(t 44),(t 45)])]) (r 0 [
 (MA 47 11),MA 48 10,UA 49 (b .sub d (t 47) (t 48)),MA 11 49])))))
def c181:LCode:=(q (r 0 [MA 12 2,MA 13 1,UA 14 (b .sub d (t 12) (t 13)),MA 10 14]) (q (r 0 [MA 15 3,MA 16 2,UA 17 (b .sub d (t 15) (t 16)),MA 11 17])
 (q (z 0 (.loop c181l0)) (r 0 [MA 50 0,MA 51 2,MA 52 10,UA 53 (b .sub d (t 51) (t 52)),MA 54 2,MA 55 10,MA 56 4,UA 57 (.call 210 [(t 50),(t 53),(t 54),(t 55),(t 56)])]))))

open Go Go.Fx Go.Proofs
theorem lw10:rlF Tryz.prog 10 c10=some (c10,[.tmp 6],146):=by kernel_rfl
theorem lw16:rlF Tryz.prog 16 c16=some (c16,[.tmp 4],8):=by kernel_rfl
theorem lw35:rlF Tryz.prog 35 c35=some (c35,[.tmp 2],8):=by kernel_rfl
theorem lw49:rlF Tryz.prog 49 c49=some (c49,[.tmp 4],11):=by kernel_rfl
theorem lw66:rlF Tryz.prog 66 c66=some (c66,[.tmp 4],26):=by kernel_rfl
theorem lw78:rlF Tryz.prog 78 c78=some (c78,[.tmp 4,.tmp 5],22):=by kernel_rfl
theorem lw86:rlF Tryz.prog 86 c86=some (c86,[.tmp 4],6):=by kernel_rfl
theorem lw122:rlF Tryz.prog 122 c122=some (c122,[],46):=by kernel_rfl
theorem lw126:rlF Tryz.prog 126 c126=some (c126,[.cell 2 (some 16)],37):=by kernel_rfl
theorem lw155:rlF Tryz.prog 155 c155=some (c155,[],53):=by kernel_rfl
theorem lw159:rlF Tryz.prog 159 c159=some (c159,[.cell 4 (some 8)],116):=by kernel_rfl
theorem lw162:rlF Tryz.prog 162 c162=some (c162,[.tmp 4],13):=by kernel_rfl
theorem lw181:rlF Tryz.prog 181 c181=some (c181,[],58):=by kernel_rfl
end Go.Fx.H
namespace Go.Fx.H
open Go Go.Fx
open Go.Operand renaming tmp → t, const → k
open Go.Value renaming int → i, bool → y
open Go.IntKind renaming i64 → j
open Option renaming some → s, none → o
open Go.Fx.LOp renaming mov → m, load → l, fld → f, bin → b, idx → x, store → w, pick → p, len → n, box → u
open Go.Fx.LCode renaming seq → q, reg → r, cond → c, block → z
open Go.Fx.LPlan renaming take → v, alt → h
open Bool renaming false → g, true → d
end Go.Fx.H
