import Derived.Test.YtpnikndmidcedaaDoorKLow1
import Derived.Test.YtpnikndmidcedaaDoorProg
set_option linter.unusedVariables false
set_option linter.unusedSimpArgs false
set_option linter.unusedSectionVars false
open Array renaming replicate → yaa
namespace Go.Fx.K
open Go Go.Fx
open Go.Operand renaming tmp → t, const → k
open Go.Value renaming int → i, bool → y
open Go.IntKind renaming i64 → j
open Option renaming some → s, none → o
open Go.Fx.LOp renaming mov → m, load → l, fld → f, bin → b, idx → x, store → w, pick → p, len → n, box → u
open Go.Fx.LCode renaming seq → q, reg → r, cond → c, block → z
open Go.Fx.LPlan renaming take → v, alt → h
open Bool renaming false → g, true → d
def c5:LCode:=(q (r 0 [UA 0 (m (k (y g)))]) (q (r 0 [UA 14 (.call 4 [(k (i j 300))]),MA 1 14]) (q (q (r 0 [MA 15 1,UA 16 (.prim (.peq g) [(t 15),(k (.pointer o))])]) (c (t 16)
 (q (r 0 [UA 0 (m (k (y g)))]) .ret) .skip)) (q (r 0 [MA 18 1,UA 19 (.call 9 [(t 18)]),MA 17 19,UA 20 (.ext (t 17) 0),UA 21 (.ext (t 17) 1),MA 2 20,MA 3 21])
 (q (q (r 0 [MA 22 3,UA 23 (b .neq g (t 22) (k (i j 0))),MA 24 23,GA 25 (m (t 2)) 24 g,GA 26 (.prim (.peq g) [(t 25),(k (.pointer o))]) 24 g,UA 27 (p (t 24) (k (y d)) (t 26)),
 (MA 28 27),GA 29 (m (t 2)) 28 g,GA 30 (.call 10 [(t 29)]) 28 g,GA 31 (b .neq g (t 30) (k (i j 2))) 28 g,UA 32 (p (t 28) (k (y d)) (t 31)),MA 33 32,GA 34 (m (t 2)) 33 g,
 (GA 35 (.call 14 [(t 34)]) 33 g),GA 36 (b .neq g (t 35) (k (i j 2))) 33 g,UA 37 (p (t 33) (k (y d)) (t 36)),MA 38 37,GA 39 (m (t 2)) 38 g,GA 40 (.call 11 [(t 39)]) 38 g,
 (GA 41 (n (t 40)) 38 g),GA 42 (b .neq g (t 41) (k (i j 0))) 38 g,UA 43 (p (t 38) (k (y d)) (t 42))]) (c (t 43) (q (r 0 [UA 0 (m (k (y g)))]) .ret) .skip)) (q (r 1 [MA 45 2,UA 46 (.call 15 [(t 45),(k (.string ⟨#[107]⟩)),(k (.string ⟨#[97,98,99]⟩))]),
 (MA 44 46),UA 47 (.ext (t 44) 0),UA 48 (.ext (t 44) 1),UA 4 (.alloc 0 (.agg #[i j 0,i j 0,i j 0])),WA 3 4 47,MA 5 48]) (q (r 2 [MA 50 2,UA 51 (.mk 0 1 1 [.int .u8 0] (k (i j 361)) (k (i j 361))),
 (UA 52 (.eff .b2s 0 [(t 51)])),UA 53 (.call 15 [(t 50),(k (.string ⟨#[107]⟩)),(t 52)]),MA 49 53,UA 54 (.ext (t 49) 0),UA 55 (.ext (t 49) 1),UA 6 (.alloc 1 (.agg #[i j 0,i j 0,i j 0])),
 (WA 3 6 54),MA 7 55]) (q (r 0 [MA 57 2,SA 58 3 4,UA 59 (.call 12 [(t 57),(t 58)]),MA 56 59,UA 60 (.ext (t 56) 0),UA 61 (.ext (t 56) 1),UA 62 (.ext (t 56) 2),
 (MA 8 60),MA 9 61,MA 10 62]) (q (q (r 0 [MA 63 5,UA 64 (b .neq g (t 63) (k (i j 0))),MA 65 64,GA 66 (m (t 7)) 65 g,GA 67 (b .neq g (t 66) (k (i j 2))) 65 g,
 (UA 68 (p (t 65) (k (y d)) (t 67))),MA 69 68,GA 70 (m (t 10)) 69 g,GA 71 (b .neq g (t 70) (k (i j 0))) 69 g,UA 72 (p (t 69) (k (y d)) (t 71)),MA 73 72,GA 74 (f 0 (t 4)) 73 g,
 (GA 75 (l o (t 74)) 73 g),GA 76 (b .neq g (t 75) (k (i j 0))) 73 g,UA 77 (p (t 73) (k (y d)) (t 76)),MA 78 77,GA 79 (f 1 (t 4)) 78 g,GA 80 (l o (t 79)) 78 g,GA 81 (b .neq g (t 80) (k (i j 0))) 78 g,
 (UA 82 (p (t 78) (k (y d)) (t 81))),MA 83 82,GA 84 (m (t 8)) 83 g,GA 85 (.prim (.sbin .neq) [(t 84),(k (.string ⟨#[107]⟩))]) 83 g,UA 86 (p (t 83) (k (y d)) (t 85)),MA 87 86,
 (GA 88 (m (t 9)) 87 g),GA 89 (.prim (.sbin .neq) [(t 88),(k (.string ⟨#[97,98,99]⟩))]) 87 g,UA 90 (p (t 87) (k (y d)) (t 89)),MA 91 90,GA 92 (m (t 2)) 91 g,GA 93 (.call 14 [(t 92)]) 91 g,
 (GA 94 (b .neq g (t 93) (k (i j 1))) 91 g),UA 95 (p (t 91) (k (y d)) (t 94)),MA 96 95,GA 97 (m (t 2)) 96 g,GA 98 (.call 11 [(t 97)]) 96 g,GA 99 (n (t 98)) 96 g,GA 100 (b .neq g (t 99) (k (i j 1))) 96 g,
 (UA 101 (p (t 96) (k (y d)) (t 100)))]) (c (t 101) (q (r 0 [UA 0 (m (k (y g)))]) .ret) .skip)) (q (r 0 [MA 102 1,UA 103 (.call 16 [(t 102),(k (.slice o 0 0))]),MA 1 103]) (q (r 0 [
 (MA 105 1),UA 106 (.call 9 [(t 105)]),MA 104 106,UA 107 (.ext (t 104) 0),UA 108 (.ext (t 104) 1),MA 2 107,MA 3 108]) (q (q (r 0 [MA 109 3,UA 110 (b .neq g (t 109) (k (i j 0))),
 (MA 111 110),GA 112 (m (t 2)) 111 g,GA 113 (.call 11 [(t 112)]) 111 g,GA 114 (n (t 113)) 111 g,GA 115 (b .neq g (t 114) (k (i j 1))) 111 g,UA 116 (p (t 111) (k (y d)) (t 115))])
 (c (t 116) (q (r 0 [UA 0 (m (k (y g)))]) .ret) .skip)) (q (r 1 [MA 118 2,UA 119 (.call 15 [(t 118),(k (.string ⟨#[108]⟩)),(k (.string ⟨#[]⟩))]),MA 117 119,UA 120 (.ext (t 117) 0),
 (UA 121 (.ext (t 117) 1)),UA 11 (.alloc 0 (.agg #[i j 0,i j 0,i j 0])),WA 3 11 120,MA 12 121]) (q (r 0 [MA 122 2,UA 123 (.call 13 [(t 122),(k (i j 0))]),MA 13 123])
 (q (r 0 [MA 125 1,UA 126 (.call 16 [(t 125),(k (.slice o 0 0))]),UA 127 (.call 9 [(t 126)]),MA 124 127,UA 128 (.ext (t 124) 0),UA 129 (.ext (t 124) 1),MA 2 128,MA 3 129])
 (q (r 0 [MA 130 12,UA 131 (b .eql g (t 130) (k (i j 0))),MA 132 131,GA 133 (m (t 13)) 132 d,GA 134 (b .eql g (t 133) (k (i j 0))) 132 d,UA 135 (p (t 132) (t 134) (k (y g))),
 (MA 136 135),GA 137 (f 0 (t 11)) 136 d,GA 138 (l o (t 137)) 136 d,GA 139 (b .eql g (t 138) (k (i j 1))) 136 d,UA 140 (p (t 136) (t 139) (k (y g))),MA 141 140,GA 142 (f 1 (t 11)) 141 d,
 (GA 143 (l o (t 142)) 141 d),GA 144 (b .eql g (t 143) (k (i j 0))) 141 d,UA 145 (p (t 141) (t 144) (k (y g))),MA 146 145,GA 147 (m (t 3)) 146 d,GA 148 (b .eql g (t 147) (k (i j 0))) 146 d,
 (UA 149 (p (t 146) (t 148) (k (y g)))),MA 150 149,GA 151 (m (t 2)) 150 d,GA 152 (.call 11 [(t 151)]) 150 d,GA 153 (n (t 152)) 150 d,GA 154 (b .eql g (t 153) (k (i j 1))) 150 d,
 (UA 155 (p (t 150) (t 154) (k (y g)))),MA 156 155,GA 157 (m (t 2)) 156 d,GA 158 (.call 11 [(t 157)]) 156 d,GA 159 (x 4 (t 158) (k (i j 0))) 156 d,GA 160 (f 3 (t 159)) 156 d,
 (GA 161 (l o (t 160)) 156 d),GA 162 (.prim (.sbin .eql) [(t 161),(k (.string ⟨#[108]⟩))]) 156 d,UA 163 (p (t 156) (t 162) (k (y g))),MA 0 163]) .ret))))))))))))))))
def c15l0:LCode:=q (r 0 [UA 80 (b .lss g (t 79) (k (i j 8)))]) (q (c (t 80) .skip (.exit 0)) (q (z 1 (q (r 0 [MA 81 79,MA 12 81]) (r 2 [MA 82 11,MA 83 12,
 (UA 84 (b .mul d (t 83) (k (i j 64)))),MA 85 12,UA 86 (b .add d (t 85) (k (i j 1))),UA 87 (b .mul d (t 86) (k (i j 64))),UA 88 (.prim (.pslc 512 d d g) [(t 10),(t 84),(t 87)]),UA 89 (.prim (.s2a 64) [(t 88)]),
 (SA 90 64 89),UA 91 (.lits 0 64 1 (List.replicate 64 (.int .u8 0)) [(0,(t 90))]),UA 92 (.append 1 64 64 (t 82) (t 91)),MA 11 92]))) (r 0 [UA 93 (b .add d (t 79) (k (i j 1))),
 (MA 79 93)])))
def c15:LCode:=(q (r 1 [UA 6 (.alloc 0 (.agg #[i j 0,i j 0,i j 0])),CA 7 0]) (q (q (r 0 [MA 14 1,UA 15 (.lens (t 14)),UA 16 (b .gtr g (t 15) (k (i j 100))),MA 17 16,
 (GA 18 (m (t 2)) 17 g),GA 19 (.lens (t 18)) 17 g,GA 20 (b .gtr g (t 19) (k (i j 360))) 17 g,UA 21 (p (t 17) (k (y d)) (t 20))]) (c (t 21) (q (r 0 [UA 22 (.build [i j 0,i j 0,i j 0] []),
 (WA 3 6 22),CA 7 2]) .ret) .skip)) (q (q (r 0 [MA 23 0,UA 24 (.nilc (t 23)),FA 25 5 24,LA 26 25,UA 27 (b .lss g (t 26) (k (i j 0))),MA 28 27,
 (GA 29 (m (t 0)) 28 g),GA 30 (.nilc (t 29)) 28 g,GA 31 (f 6 (t 30)) 28 g,GA 32 (l o (t 31)) 28 g,GA 33 (b .eql g (t 32) (k (i j 16))) 28 g,UA 34 (p (t 28) (k (y d)) (t 33))])
 (c (t 34) (q (r 0 [MA 35 0,UA 36 (.call 36 [(t 35)]),MA 8 36]) (q (r 0 [MA 37 8,UA 38 (b .neq g (t 37) (k (i j 0)))]) (c (t 38) (q (r 0 [UA 39 (.build [i j 0,i j 0,i j 0] []),
 (MA 40 8),WA 3 6 39,MA 7 40]) .ret) .skip))) .skip)) (q (r 0 [MA 41 0,UA 42 (.nilc (t 41)),FA 43 3 42,LA 44 43,UA 45 (b .add d (t 44) (k (i j 1))),
 (UA 46 (.nilc (t 41))),FA 47 3 46,WA 1 47 45]) (q (.tree 1 (v 0 [1,2,3,12,14] (MA 48 0) (v 1 [2,3,12,14] (UA 49 (.nilc (t 48))) (v 2 [3,12,14] (FA 50 5 49) (v 3 [12,14] (LA 51 50)
 (v 4 [5,6,7,12,14] (MA 52 0) (v 5 [6,7,12,14] (UA 53 (.nilc (t 52))) (v 6 [7,12,14] (FA 54 6 53) (v 7 [12,14] (LA 55 54) (v 8 [9,10,11,12,14] (MA 56 0) (v 9 [10,11,12,14] (UA 57 (.nilc (t 56)))
 (v 10 [11,12,14] (FA 58 3 57) (v 11 [12,14] (LA 59 58) (v 12 [14] (UA 60 (.build [i j 0,i j 0,i j 0] [(0,1,(t 51)),(1,1,(t 55)),(2,1,(t 59))])) (h 13 (UA 9 (.alloc 0 (.agg #[i j 0,i j 0,i j 0]))) d
 (h 14 (WA 3 9 60) g .done .none) .none))))))))))))))) (q (.tree 1 (v 0 [1,17,19] (FA 61 0 9) (v 1 [17,19] (LA 62 61) (v 2 [3,17,19] (FA 63 1 9) (v 3 [17,19] (LA 64 63)
 (v 4 [5,6,7,10,11,16,17,19] (MA 65 0) (v 5 [6,7,10,11,16,17,19] (UA 66 (.nilc (t 65))) (v 6 [7,10,11,16,17,19] (FA 67 1 66) (v 7 [10,11,16,17,19] (LA 68 67) (v 8 [9,10,11,16,17,19] (FA 69 0 9)
 (v 9 [10,11,16,17,19] (LA 70 69) (v 10 [11,16,17,19] (XA 71 1 68 70) (v 11 [16,17,19] (LA 72 71) (v 12 [13,16,17,19] (FA 73 2 9) (v 13 [16,17,19] (LA 74 73)
 (v 14 [16,17,19] (MA 75 1) (v 15 [16,17,19] (MA 76 2) (v 16 [17,19] (UA 77 (.build [i j 0,i j 0,.string ⟨#[]⟩,.string ⟨#[]⟩] [(0,1,(t 72)),(1,1,(t 74)),(2,1,(t 75)),(3,1,(t 76))])) (h 17 (UA 78 (.call 37 [(t 62),(t 64),(t 77)])) g
 (h 18 (UA 10 (.alloc 0 (.agg (yaa 512 (.int .u8 0))))) d (h 19 (WA 512 10 78) g .done .none) .none) (h 18 (UA 10 (.alloc 0 (.agg (yaa 512 (.int .u8 0))))) d (h 17 (UA 78 (.call 37 [(t 62),(t 64),(t 77)])) g
 (h 19 (WA 512 10 78) g .done .none) .none) .none)))))))))))))))))))) (q (r 0 [UA 11 (m (k (.slice o 0 0)))]) (q (q (r 0 [CA 79 0]) (z 0 (.loop c15l0))) (q (r 0 [MA 94 0,
 (UA 95 (.nilc (t 94))),FA 96 6 95,LA 97 96,UA 98 (b .add d (t 97) (k (i j 1))),UA 99 (.nilc (t 94)),FA 100 6 99,WA 1 100 98]) (q (q (r 0 [MA 101 0,
 (FA 102 0 9),LA 103 102,FA 104 1 9,LA 105 104,UA 106 (.call 39 [(t 103),(t 105)]),MA 107 11,UA 108 (.call 38 [(t 101),(t 106),(t 107)]),MA 13 108])
 (q (r 0 [MA 109 13,UA 110 (b .neq g (t 109) (k (i j 0)))]) (c (t 110) (q (r 0 [UA 111 (.build [i j 0,i j 0,i j 0] []),MA 112 13,WA 3 6 111,MA 7 112]) .ret)
 .skip))) (q (.tree 2 (v 0 [10,11,12] (MA 113 0) (v 1 [2,3,4,9,10,11,12] (MA 114 0) (v 2 [3,4,9,10,11,12] (UA 115 (.nilc (t 114))) (v 3 [4,9,10,11,12] (FA 116 4 115) (v 4 [9,10,11,12] (LA 117 116)
 (v 5 [7,8,9,10,11,12] (SA 118 3 9) (v 6 [7,8,9,10,11,12] (MA 119 1) (v 7 [8,9,10,11,12] (UA 120 (.build [i j 0,i j 0,i j 0,.string ⟨#[]⟩] [(0,3,(t 118)),(3,1,(t 119))])) (h 8 (UA 121 (.lits 0 4 1 [i j 0,i j 0,i j 0,.string ⟨#[]⟩] [(0,(t 120))])) d
 (h 9 (UA 122 (.append 1 4 40 (t 117) (t 121))) g (v 10 [11,12] (UA 123 (.nilc (t 113))) (v 11 [12] (FA 124 4 123) (h 12 (WA 1 124 122) g .done .none))) .none) .none)))))))))) (q (r 0 [
 (SA 125 3 9),WA 3 6 125,CA 7 0]) .ret))))))))))))
def c19:LCode:=(q (r 0 [CA 2 0]) (q (r 0 [MA 3 0,UA 4 (.nilc (t 3)),FA 5 0 4,LA 6 5,UA 7 (n (t 6)),MA 2 7]) .ret))
def c37:LCode:=(q (r 2 [UA 5 (u 0 (t 2)),UA 6 (.alloc 1 (.agg (yaa 512 (.int .u8 0))))]) (q (.tree 0 (v 0 [1,2,3,6,7] (FA 9 2 5) (v 1 [2,3,6,7] (LA 10 9) (v 4 [5,6,7] (FA 13 3 5)
 (v 5 [6,7] (LA 14 13) (h 2 (UA 11 (.call 53 [(t 10)])) d (h 3 (UA 12 (.eff .b2s 0 [(t 11)])) d (v 6 [7] (UA 15 (.prim (.sbin .add) [(t 12),(t 14)])) (v 7 [] (MA 7 15) .done)) .none) .none))))))
 (q (r 1 [MA 16 0,MA 17 1,FA 18 0 5,LA 19 18,FA 20 1 5,LA 21 20,MA 22 7,UA 23 (.call 47 [(t 16),(t 17),(t 19),(t 21),(t 22)]),
 (UA 8 (.alloc 0 (.agg (yaa 16 (.int .u8 0))))),WA 16 8 23]) (q (.tail 2 0 [UA 24 (.prim (.pslc 512 g g g) [(t 6)]),UA 25 (.prim (.pslc 16 g g g) [(t 8)]),UA 26 (.copy 1 (t 24) (t 25))])
 (q (.tail 3 0 [UA 27 (.prim (.pslc 512 d d d) [(t 6),(k (i j 16)),(k (i j 24)),(k (i j 24))]),FA 28 0 5,LA 29 28,UA 30 (.call 42 [(t 27),(t 29)])]) (q (.tail 3 0 [UA 31 (.prim (.pslc 512 d d d) [(t 6),(k (i j 24)),(k (i j 32)),(k (i j 32))]),
 (FA 32 1 5),LA 33 32,UA 34 (.call 42 [(t 31),(t 33)])]) (q (r 0 [UA 35 (.prim (.pslc 512 d d d) [(t 6),(k (i j 32)),(k (i j 34)),(k (i j 34))]),MA 36 7,UA 37 (.lens (t 36)),
 (UA 38 (.call 42 [(t 35),(t 37)]))]) (q (r 0 [UA 39 (.prim (.pslc 512 d g g) [(t 6),(k (i j 34))]),MA 40 7,UA 41 (.eff .cps 0 [(t 39),(t 40)])]) (q (r 0 [SA 42 512 6,WA 512 6 42])
 .ret)))))))))
def c38l0:LCode:=q (r 0 [UA 13 (b .lss g (t 12) (t 11))]) (q (c (t 13) .skip (.exit 0)) (q (z 1 (q (r 1 [MA 14 12,XA 15 64 10 12,SA 16 64 15,UA 8 (.alloc 0 (.agg (yaa 64 (.int .u8 0)))),
 (MA 7 14),WA 64 8 16]) (q (.tail 8 0 [MA 17 0,UA 18 (.nilc (t 17)),FA 19 0 18,LA 20 19,MA 21 1,MA 22 7,UA 23 (b .add d (t 21) (t 22)),
 (SA 24 64 8),UA 25 (.call 6 [(t 20),(t 23),(t 24)]),MA 9 25]) (q (r 0 [MA 26 9,UA 27 (b .neq g (t 26) (k (i j 0)))]) (c (t 27) (q (r 0 [MA 28 9,MA 6 28])
 .ret) .skip))))) (r 0 [UA 29 (b .add d (t 12) (k (i j 1))),MA 12 29])))
def c38:LCode:=(q (r 0 [CA 6 0]) (q (q (r 0 [MA 10 2,UA 11 (n (t 10)),CA 12 0]) (z 0 (.loop c38l0))) (q (r 0 [MA 30 0,UA 31 (.nilc (t 30)),FA 32 0 31,
 (LA 33 32),UA 34 (.call 7 [(t 33)]),MA 6 34]) .ret)))
def c42l0:LCode:=q (q (r 0 [MA 8 4,UA 9 (b .geq g (t 8) (k (i j 0)))]) (c (t 9) .skip (.exit 0))) (q (z 1 (q (r 0 [MA 12 0,MA 13 4,MA 14 1,UA 15 (.conv g .u8 (t 14)),
 (XA 16 1 12 13),WA 1 16 15]) (r 0 [MA 17 1,UA 18 (.shift .shr (t 17) (k (.int .u64 8))),MA 1 18]))) (r 0 [MA 10 4,UA 11 (b .sub d (t 10) (k (i j 1))),
 (MA 4 11)]))
def c42:LCode:=(q (r 0 [MA 5 0,UA 6 (n (t 5)),UA 7 (b .sub d (t 6) (k (i j 1))),MA 4 7]) (z 0 (.loop c42l0)))
def c44:LCode:=(q (r 0 [UA 2 (m (k (.slice o 0 0)))]) (q (r 0 [MA 3 0,UA 4 (.call 58 [(t 3),(.func 59)]),MA 2 4]) .ret))
def c56l0:LCode:=q (q (r 0 [MA 7 1,UA 8 (.prim (.sbin .neq) [(t 7),(k (.string ⟨#[]⟩))])]) (c (t 8) .skip (.exit 0))) (z 1 (q (r 0 [FA 9 72 2,LA 10 9,UA 11 (b .rem g (t 10) (k (.int .u64 64))),
 (UA 12 (.conv g .i64 (t 11))),MA 5 12]) (q (r 0 [FA 13 8 2,MA 14 5,UA 15 (.prim (.pslc 64 d g g) [(t 13),(t 14)]),MA 16 1,UA 17 (.eff .cps 0 [(t 15),(t 16)]),
 (MA 6 17)]) (q (r 0 [MA 18 1,MA 19 6,UA 20 (.prim (.sslc d g) [(t 18),(t 19)]),MA 1 20]) (q (r 0 [FA 21 72 2,LA 22 21,MA 23 6,UA 24 (.conv g .u64 (t 23)),
 (UA 25 (b .add g (t 22) (t 24))),FA 26 72 2,WA 1 26 25]) (q (r 0 [MA 27 5,MA 28 6,UA 29 (b .add d (t 27) (t 28)),UA 30 (b .eql g (t 29) (k (i j 64)))]) (c (t 30)
 (.tail 4 0 [FA 31 0 2,SA 32 8 31,FA 33 8 2,UA 34 (.prim (.pslc 64 g g g) [(t 33)]),UA 35 (.call 72 [(t 32),(t 34)]),FA 36 0 2,WA 8 36 35])
 .skip)))))))
def c56:LCode:=(q (r 2 [UA 2 (u 0 (t 0)),UA 4 (.alloc 1 (.agg nT))]) (q (z 0 (.loop c56l0)) (q (r 0 [SA 37 73 2,WA 73 4 37]) .ret)))
def c58l0:LCode:=q (r 0 [UA 14 (b .lss g (t 13) (t 12))]) (q (c (t 14) .skip (.exit 0)) (q (z 1 (q (r 0 [XA 15 1 11 13,LA 16 15,MA 7 16]) (r 1 [MA 17 5,
 (MA 18 1),MA 19 7,UA 20 (.callv (t 18) [(t 19)]),UA 21 (.append 0 1 1 (t 17) (t 20)),MA 5 21]))) (r 0 [UA 22 (b .add d (t 13) (k (i j 1))),MA 13 22])))
def c58:LCode:=(q (r 0 [UA 4 (m (k (.slice o 0 0)))]) (q (r 0 [MA 8 0,UA 9 (n (t 8)),UA 10 (.call 59 [(t 9)]),MA 5 10]) (q (q (r 0 [MA 11 0,UA 12 (n (t 11)),CA 13 0])
 (z 0 (.loop c58l0))) (q (r 0 [MA 23 5,MA 4 23]) .ret))))
def c59l0:LCode:=q (q (r 0 [MA 12 3,UA 13 (b .gtr g (t 12) (k (.int .u64 127)))]) (c (t 13) .skip (.exit 0))) (q (z 1 (r 2 [MA 16 4,MA 17 3,UA 18 (.conv g .u8 (t 17)),
 (UA 19 (b .or g (t 18) (k (.int .u8 128)))),UA 20 (.lits 0 1 1 [.int .u8 0] [(0,(t 19))]),UA 21 (.append 1 1 1 (t 16) (t 20)),MA 4 21])) (r 0 [MA 14 3,UA 15 (.shift .shr (t 14) (k (.int .u64 7))),
 (MA 3 15)]))
def c59:LCode:=(q (r 0 [UA 2 (m (k (.slice o 0 0)))]) (q (r 0 [MA 5 0,UA 6 (.conv g .u64 (t 5)),UA 7 (.shift .shl (t 6) (k (.int .u64 1))),MA 8 0,UA 9 (.shift .shr (t 8) (k (.int .u64 63))),
 (UA 10 (.conv g .u64 (t 9))),UA 11 (b .xor g (t 7) (t 10)),MA 3 11]) (q (r 0 [UA 4 (m (k (.slice o 0 0)))]) (q (z 0 (.loop c59l0)) (q (r 2 [MA 22 4,MA 23 3,UA 24 (.conv g .u8 (t 23)),
 (UA 25 (.lits 0 1 1 [.int .u8 0] [(0,(t 24))])),UA 26 (.append 1 1 1 (t 22) (t 25)),MA 2 26]) .ret)))))
def c60:LCode:=(q (r 0 [CA 4 0,CA 5 0,CA 6 0]) (q (r 0 [MA 11 0,UA 12 (.call 73 [(t 11)]),MA 10 12,UA 13 (.ext (t 10) 0),UA 14 (.ext (t 10) 1),
 (UA 15 (.ext (t 10) 2)),MA 7 13,MA 8 14,MA 9 15]) (q (z 0 (q (r 0 [MA 17 9,UA 18 (b .neq g (t 17) (k (i j 0))),MA 16 18]) (c (t 16) (q (r 0 [MA 19 9,
 (CA 4 0),CA 5 0,MA 6 19]) .ret) (q (r 0 [MA 21 7,UA 22 (b .lss g (t 21) (k (i j 0))),MA 20 22]) (c (t 20) (q (r 0 [CA 4 0,
 (CA 5 0),CA 6 11]) .ret) (q (r 0 [MA 24 7,MA 25 0,UA 26 (n (t 25)),MA 27 8,UA 28 (b .sub d (t 26) (t 27)),MA 29 1,UA 30 (b .quo d (t 28) (t 29)),
 (UA 31 (b .gtr g (t 24) (t 30))),MA 23 31]) (c (t 23) (q (r 0 [CA 4 0,CA 5 0,CA 6 10]) .ret) .skip))))))) (q (r 0 [MA 32 7,MA 33 8,
 (MA 4 32),MA 5 33,CA 6 0]) .ret))))
def c88l1:LCode:=q (r 0 [UA 25 (b .lss g (t 24) (t 23))]) (q (c (t 25) .skip (.exit 2)) (q (z 3 (q (r 0 [XA 26 1 22 24,LA 27 26,MA 6 27]) (r 0 [MA 28 4,
 (MA 29 4),UA 30 (.prim (.pidx 64 1) [(t 3),(t 29)]),LA 31 30,UA 32 (.shift .shl (t 31) (k (.int .u64 8))),MA 33 6,UA 34 (.conv d .u32 (t 33)),UA 35 (b .or g (t 32) (t 34)),
 (UA 36 (.prim (.pidx 64 1) [(t 3),(t 28)])),WA 1 36 35]))) (r 0 [UA 37 (b .add d (t 24) (k (i j 1))),MA 24 37])))
def c88l0:LCode:=q (r 0 [UA 12 (b .lss g (t 11) (k (i j 64)))]) (q (c (t 12) .skip (.exit 0)) (q (z 1 (q (r 0 [MA 13 11,MA 4 13]) (q (q (r 0 [MA 14 4,UA 15 (b .lss g (t 14) (k (i j 16)))])
 (c (t 15) (q (q (r 0 [MA 16 0,MA 17 4,UA 18 (b .mul d (k (i j 4)) (t 17)),MA 19 4,UA 20 (b .mul d (k (i j 4)) (t 19)),UA 21 (b .add d (t 20) (k (i j 4))),UA 22 (.slice 1 (t 16) (s (t 18)) (s (t 21)) o),
 (UA 23 (n (t 22))),CA 24 0]) (z 2 (.loop c88l1))) (.exit 1)) .skip)) (q (.qui 0 [MA 38 4,UA 39 (b .sub d (t 38) (k (i j 15))),UA 40 (.prim (.pidx 64 1) [(t 3),(t 39)]),LA 41 40,
 (MA 42 4),UA 43 (b .sub d (t 42) (k (i j 2))),UA 44 (.prim (.pidx 64 1) [(t 3),(t 43)]),LA 45 44,MA 7 41,MA 8 45]) (q (r 0 [MA 46 7,UA 47 (.call 94 [(t 46),(k (.int .i64 (-7)))]),
 (MA 48 7),UA 49 (.call 94 [(t 48),(k (.int .i64 (-18)))]),UA 50 (b .xor g (t 47) (t 49)),MA 51 7,UA 52 (.shift .shr (t 51) (k (.int .u64 3))),UA 53 (b .xor g (t 50) (t 52)),MA 9 53])
 (q (r 0 [MA 54 8,UA 55 (.call 94 [(t 54),(k (.int .i64 (-17)))]),MA 56 8,UA 57 (.call 94 [(t 56),(k (.int .i64 (-19)))]),UA 58 (b .xor g (t 55) (t 57)),MA 59 8,UA 60 (.shift .shr (t 59) (k (.int .u64 10))),
 (UA 61 (b .xor g (t 58) (t 60))),MA 10 61]) (.tail 15 0 [MA 62 4,MA 63 4,UA 64 (b .sub d (t 63) (k (i j 16))),UA 65 (.prim (.pidx 64 1) [(t 3),(t 64)]),LA 66 65,
 (MA 67 9),UA 68 (b .add g (t 66) (t 67)),MA 69 4,UA 70 (b .sub d (t 69) (k (i j 7))),UA 71 (.prim (.pidx 64 1) [(t 3),(t 70)]),LA 72 71,UA 73 (b .add g (t 68) (t 72)),
 (MA 74 10),UA 75 (b .add g (t 73) (t 74)),UA 76 (.prim (.pidx 64 1) [(t 3),(t 62)]),WA 1 76 75]))))))) (r 0 [UA 77 (b .add d (t 11) (k (i j 1))),MA 11 77])))
def c88:LCode:=(q (r 1 [UA 2 (.alloc 0 (.agg (yaa 64 (.int .u32 0))))]) (q (r 1 [UA 3 (.alloc 0 (.agg (yaa 64 (.int .u32 0))))]) (q (q (r 0 [CA 11 0]) (z 0
 (.loop c88l0))) (q (r 0 [SA 78 64 3,WA 64 2 78]) .ret))))
def c89:LCode:=(q (r 0 [UA 8 (m (k (.int .u32 0)))]) (q (r 0 [MA 9 0,MA 10 1,UA 11 (.neg (t 10)),UA 12 (.call 94 [(t 9),(t 11)]),MA 13 0,MA 14 2,UA 15 (.neg (t 14)),
 (UA 16 (.call 94 [(t 13),(t 15)])),UA 17 (b .xor g (t 12) (t 16)),MA 18 0,MA 19 3,UA 20 (.neg (t 19)),UA 21 (.call 94 [(t 18),(t 20)]),UA 22 (b .xor g (t 17) (t 21)),MA 8 22])
 .ret))
open Go Go.Fx Go.Proofs
theorem lw5:rlF Tryd.prog 5 c5=some (c5,[.tmp 0],164):=by kernel_rfl
theorem lw15:rlF Tryd.prog 15 c15=some (c15,[.cell 6 (some 3),.tmp 7],126):=by kernel_rfl
theorem lw19:rlF Tryd.prog 19 c19=some (c19,[.tmp 2],8):=by kernel_rfl
theorem lw37:rlF Tryd.prog 37 c37=some (c37,[.cell 6 (some 512)],43):=by kernel_rfl
theorem lw38:rlF Tryd.prog 38 c38=some (c38,[.tmp 6],35):=by kernel_rfl
theorem lw42:rlF Tryd.prog 42 c42=some (c42,[],19):=by kernel_rfl
theorem lw44:rlF Tryd.prog 44 c44=some (c44,[.tmp 2],5):=by kernel_rfl
theorem lw56:rlF Tryd.prog 56 c56=some (c56,[.cell 4 (some 73)],38):=by kernel_rfl
theorem lw58:rlF Tryd.prog 58 c58=some (c58,[.tmp 4],24):=by kernel_rfl
theorem lw59:rlF Tryd.prog 59 c59=some (c59,[.tmp 2],27):=by kernel_rfl
theorem lw60:rlF Tryd.prog 60 c60=some (c60,[.tmp 4,.tmp 5,.tmp 6],34):=by kernel_rfl
theorem lw88:rlF Tryd.prog 88 c88=some (c88,[.cell 2 (some 64)],79):=by kernel_rfl
theorem lw89:rlF Tryd.prog 89 c89=some (c89,[.tmp 8],23):=by kernel_rfl
end Go.Fx.K
namespace Go.Fx.K
open Go Go.Fx
open Go.Operand renaming tmp → t, const → k
open Go.Value renaming int → i, bool → y
open Go.IntKind renaming i64 → j
open Option renaming some → s, none → o
open Go.Fx.LOp renaming mov → m, load → l, fld → f, bin → b, idx → x, store → w, pick → p, len → n, box → u
open Go.Fx.LCode renaming seq → q, reg → r, cond → c, block → z
open Go.Fx.LPlan renaming take → v, alt → h
open Bool renaming false → g, true → d
def c3l0:LCode:=q (q (r 0 [MA 42 9,MA 43 1,UA 44 (n (t 43)),UA 45 (b .lss g (t 42) (t 44)),MA 46 45,GA 47 (m (t 9)) 46 d,GA 48 (m (t 2)) 46 d,GA 49 (n (t 48)) 46 d,
 (GA 50 (b .lss g (t 47) (t 49)) 46 d),UA 51 (p (t 46) (t 50) (k (y g)))]) (c (t 51) .skip (.exit 0))) (q (z 1 (.tail 12 0 [MA 54 8,MA 55 1,MA 56 9,XA 57 1 55 56,
 (LA 58 57),UA 59 (.conv d .i64 (t 58)),MA 60 7,UA 61 (b .rem g (t 59) (t 60)),MA 62 2,MA 63 9,XA 64 64 62 63,SA 65 64 64,UA 66 (.call 6 [(t 54),(t 61),(t 65)])]))
 (r 0 [MA 52 9,UA 53 (b .add d (t 52) (k (i j 1))),MA 9 53]))
def c3l1:LCode:=q (q (r 0 [MA 100 14,MA 101 13,UA 102 (n (t 101)),UA 103 (b .lss g (t 100) (t 102))]) (c (t 103) .skip (.exit 2))) (q (z 3 (q (r 0 [MA 107 11,MA 108 13,
 (MA 109 14),XA 110 4 108 109,FA 111 0 110,SA 112 3 111,UA 113 (.call 12 [(t 107),(t 112)]),MA 106 113,UA 114 (.ext (t 106) 0),UA 115 (.ext (t 106) 1),
 (UA 116 (.ext (t 106) 2)),MA 15 114,MA 16 115,MA 17 116]) (q (r 0 [MA 117 17,UA 118 (b .neq g (t 117) (k (i j 0)))]) (c (t 118) (q (r 0 [UA 6 (m (k (y g)))])
 .ret) .skip)))) (r 0 [MA 104 14,UA 105 (b .add d (t 104) (k (i j 1))),MA 14 105]))
def c3l2:LCode:=q (q (r 0 [MA 119 18,MA 120 11,UA 121 (.call 10 [(t 120)]),UA 122 (b .lss g (t 119) (t 121))]) (c (t 122) .skip (.exit 4))) (q (z 5 (q (r 0 [MA 125 11,
 (MA 126 18),UA 127 (.call 13 [(t 125),(t 126)]),UA 128 (b .neq g (t 127) (k (i j 0)))]) (c (t 128) (q (r 0 [UA 6 (m (k (y g)))]) .ret) .skip))) (r 0 [MA 123 18,UA 124 (b .add d (t 123) (k (i j 1))),
 (MA 18 124)]))
def c3l3:LCode:=q (q (r 0 [MA 140 19,MA 141 11,UA 142 (.call 10 [(t 141)]),UA 143 (b .mul d (k (i j 16)) (t 142)),UA 144 (b .lss g (t 140) (t 143))]) (c (t 144) .skip (.exit 6)))
 (q (z 7 (q (r 1 [MA 148 11,UA 149 (.call 15 [(t 148),(k (.string ⟨#[107]⟩)),(k (.string ⟨#[118]⟩))]),MA 147 149,UA 150 (.ext (t 147) 0),UA 151 (.ext (t 147) 1),UA 20 (.alloc 0 (.agg #[i j 0,i j 0,i j 0])),
 (WA 3 20 150),MA 21 151]) (q (r 0 [MA 152 21,UA 153 (b .neq g (t 152) (k (i j 0)))]) (c (t 153) (q (r 0 [UA 6 (m (k (y g)))]) .ret) .skip)))) (r 0 [MA 145 19,
 (UA 146 (b .add d (t 145) (k (i j 1)))),MA 19 146]))
def c3:LCode:=(q (r 0 [UA 6 (m (k (y g)))]) (q (r 0 [MA 24 0,UA 25 (.conv d .i64 (t 24)),UA 26 (b .rem g (t 25) (k (i j 400))),UA 27 (b .add d (k (i j 1)) (t 26)),MA 7 27])
 (q (r 0 [MA 28 7,UA 29 (.call 4 [(t 28)]),MA 8 29]) (q (q (r 0 [MA 30 8,UA 31 (.prim (.peq g) [(t 30),(k (.pointer o))]),MA 32 31,GA 33 (m (t 1)) 32 g,
 (GA 34 (n (t 33)) 32 g),GA 35 (b .gtr g (t 34) (k (i j 20))) 32 g,UA 36 (p (t 32) (k (y d)) (t 35))]) (c (t 36) (q (r 0 [UA 37 (.call 5 []),MA 38 37,GA 39 (m (t 8)) 38 d,
 (GA 40 (.prim (.peq d) [(t 39),(k (.pointer o))]) 38 d),UA 41 (p (t 38) (t 40) (k (y g))),MA 6 41]) .ret) .skip)) (q (q (r 0 [CA 9 0]) (z 0 (.loop c3l0))) (q (r 0 [MA 67 8,
 (UA 68 (.call 7 [(t 67)]))]) (q (r 0 [MA 69 8,UA 70 (.call 8 [(t 69)]),MA 10 70]) (q (r 0 [MA 72 8,UA 73 (.call 9 [(t 72)]),MA 71 73,UA 74 (.ext (t 71) 0),
 (UA 75 (.ext (t 71) 1)),MA 11 74,MA 12 75]) (q (q (r 0 [MA 76 7,UA 77 (b .lss g (t 76) (k (i j 129)))]) (c (t 77) (q (r 0 [UA 78 (.call 5 []),MA 79 78,GA 80 (m (t 12)) 79 d,
 (GA 81 (b .eql g (t 80) (k (i j 1))) 79 d),UA 82 (p (t 79) (t 81) (k (y g))),MA 6 82]) .ret) .skip)) (q (q (r 0 [MA 83 12,UA 84 (b .neq g (t 83) (k (i j 0))),MA 85 84,
 (GA 86 (m (t 8)) 85 g),GA 87 (.call 8 [(t 86)]) 85 g,GA 88 (m (t 10)) 85 g,GA 89 (b .neq g (t 87) (t 88)) 85 g,UA 90 (p (t 85) (k (y d)) (t 89)),MA 91 90,GA 92 (m (t 11)) 91 g,
 (GA 93 (.call 10 [(t 92)]) 91 g),GA 94 (m (t 7)) 91 g,GA 95 (b .quo d (t 94) (k (i j 129))) 91 g,GA 96 (b .neq g (t 93) (t 95)) 91 g,UA 97 (p (t 91) (k (y d)) (t 96))]) (c (t 97)
 (q (r 0 [UA 6 (m (k (y g)))]) .ret) .skip)) (q (r 0 [MA 98 11,UA 99 (.call 11 [(t 98)]),MA 13 99]) (q (q (r 0 [CA 14 0]) (z 2 (.loop c3l1))) (q (q (r 0 [CA 18 0])
 (z 4 (.loop c3l2))) (q (q (r 0 [MA 129 11,UA 130 (.call 11 [(t 129)]),UA 131 (n (t 130)),UA 132 (b .neq g (t 131) (k (i j 0))),MA 133 132,GA 134 (m (t 11)) 133 g,GA 135 (.call 14 [(t 134)]) 133 g,
 (GA 136 (m (t 11)) 133 g),GA 137 (.call 10 [(t 136)]) 133 g,GA 138 (b .neq g (t 135) (t 137)) 133 g,UA 139 (p (t 133) (k (y d)) (t 138))]) (c (t 139) (q (r 0 [UA 6 (m (k (y g)))]) .ret)
 .skip)) (q (q (r 0 [CA 19 0]) (z 6 (.loop c3l3))) (q (r 1 [MA 155 11,UA 156 (.call 15 [(t 155),(k (.string ⟨#[107]⟩)),(k (.string ⟨#[118]⟩))]),MA 154 156,UA 157 (.ext (t 154) 0),
 (UA 158 (.ext (t 154) 1)),UA 22 (.alloc 0 (.agg #[i j 0,i j 0,i j 0])),WA 3 22 157,MA 23 158]) (q (r 0 [UA 159 (.call 5 []),MA 160 159,GA 161 (m (t 23)) 160 d,
 (GA 162 (b .eql g (t 161) (k (i j 140))) 160 d),UA 163 (p (t 160) (t 162) (k (y g))),MA 6 163]) .ret)))))))))))))))))
def c4:LCode:=(q (r 0 [UA 2 (m (k (.pointer o)))]) (q (q (r 0 [MA 3 0,UA 4 (b .lss g (t 3) (k (i j 1))),MA 5 4,GA 6 (m (t 0)) 5 g,GA 7 (b .gtr g (t 6) (k (i j 65536))) 5 g,
 (UA 8 (p (t 5) (k (y d)) (t 7)))]) (c (t 8) (q (r 0 [UA 2 (m (k (.pointer o)))]) .ret) .skip)) (q (r 3 [MA 9 0,UA 10 (.mk 0 65 65 [.int .u8 0,.int .u8 0,.int .u8 0,.int .u8 0,.int .u8 0,.int .u8 0,.int .u8 0,.int .u8 0,.int .u8 0,.int .u8 0,.int .u8 0,.int .u8 0,.int .u8 0,.int .u8 0,.int .u8 0,.int .u8 0,.int .u8 0,.int .u8 0,.int .u8 0,.int .u8 0,.int .u8 0,.int .u8 0,.int .u8 0,.int .u8 0,.int .u8 0,.int .u8 0,.int .u8 0,.int .u8 0,.int .u8 0,.int .u8 0,.int .u8 0,.int .u8 0,.int .u8 0,.int .u8 0,.int .u8 0,.int .u8 0,.int .u8 0,.int .u8 0,.int .u8 0,.int .u8 0,.int .u8 0,.int .u8 0,.int .u8 0,.int .u8 0,.int .u8 0,.int .u8 0,.int .u8 0,.int .u8 0,.int .u8 0,.int .u8 0,.int .u8 0,.int .u8 0,.int .u8 0,.int .u8 0,.int .u8 0,.int .u8 0,.int .u8 0,.int .u8 0,.int .u8 0,.int .u8 0,.int .u8 0,.int .u8 0,.int .u8 0,.int .u8 0,.bool g] (t 9) (t 9)),
 (UA 11 (.mkmap 1 o)),UA 12 (.build [.slice o 0 0,.map o,i j 0,i j 0,.bool g] [(0,1,(t 10)),(1,1,(t 11)),(3,1,(k (.int .i64 (-1))))]),UA 13 (u 2 (t 12)),MA 2 13]) .ret)))
def c8:LCode:=(q (r 0 [CA 2 0]) (q (r 0 [MA 3 0,UA 4 (.nilc (t 3)),FA 5 2 4,LA 6 5,MA 2 6]) .ret))
def c16l0:LCode:=q (r 0 [UA 28 (b .lss g (t 27) (t 26))]) (q (c (t 28) .skip (.exit 0)) (q (z 1 (q (r 0 [MA 29 27,XA 30 1 25 27,LA 31 30,MA 6 29,MA 7 31])
 (q (r 0 [CA 8 0]) (q (q (r 0 [MA 32 1,UA 33 (n (t 32)),UA 34 (b .gtr g (t 33) (k (i j 0)))]) (c (t 34) (r 0 [MA 35 1,MA 36 6,MA 37 1,UA 38 (n (t 37)),
 (UA 39 (b .rem g (t 36) (t 38))),XA 40 1 35 39,LA 41 40,MA 8 41]) .skip)) (.tree 0 (v 0 [1,2,3,20,21] (MA 42 5) (v 1 [2,3,20,21] (UA 43 (.nilc (t 42))) (v 2 [3,20,21] (FA 44 0 43)
 (v 3 [20,21] (LA 45 44) (v 4 [20,21] (MA 46 7) (v 5 [6,7,8,10,11,19,20,21] (MA 47 0) (v 6 [7,8,10,11,19,20,21] (UA 48 (.nilc (t 47))) (v 7 [8,10,11,19,20,21] (FA 49 0 48)
 (v 8 [10,11,19,20,21] (LA 50 49) (v 9 [10,11,19,20,21] (MA 51 7) (v 10 [11,19,20,21] (XA 52 65 50 51) (v 11 [19,20,21] (SA 53 65 52) (v 12 [13,14,15,17,19,20,21] (MA 54 0)
 (v 13 [14,15,17,19,20,21] (UA 55 (.nilc (t 54))) (v 14 [15,17,19,20,21] (FA 56 1 55) (v 15 [17,19,20,21] (LA 57 56) (v 16 [17,19,20,21] (MA 58 7) (v 18 [19,20,21] (MA 60 8)
 (h 17 (UA 59 (.lookup (.int .i64) (.slice o 0 0) g (t 57) (t 58))) d (h 19 (UA 61 (.call 41 [(t 53),(t 59),(t 60)])) d (v 20 [21] (XA 62 65 45 46) (h 21 (WA 65 62 61) g .done .none))
 .none) .none)))))))))))))))))))))))) (r 0 [UA 63 (b .add d (t 27) (k (i j 1))),MA 27 63])))
def c16:LCode:=(q (r 0 [UA 4 (m (k (.pointer o)))]) (q (r 0 [MA 9 0,UA 10 (.nilc (t 9)),FA 11 0 10,LA 12 11,UA 13 (n (t 12)),UA 14 (.call 4 [(t 13)]),MA 5 14])
 (q (.tail 8 0 [MA 15 5,UA 16 (.nilc (t 15)),FA 17 0 16,LA 18 17,MA 19 0,UA 20 (.nilc (t 19)),FA 21 0 20,LA 22 21,UA 23 (.copy 65 (t 18) (t 22))])
 (q (q (r 0 [MA 24 0,UA 25 (.call 40 [(t 24)]),UA 26 (n (t 25)),CA 27 0]) (z 0 (.loop c16l0))) (q (r 0 [MA 64 5,MA 4 64]) .ret)))))
def c17:LCode:=(q (r 0 [CA 4 0]) (q (z 0 (q (r 0 [MA 6 0,UA 7 (.nilc (t 6)),FA 8 4 7,LA 9 8,MA 5 9]) (c (t 5) (q (r 0 [CA 4 130])
 .ret) (q (r 0 [MA 11 1,UA 12 (b .lss g (t 11) (k (i j 0))),MA 13 12,GA 14 (m (t 1)) 13 g,GA 15 (m (t 0)) 13 g,GA 16 (.nilc (t 15)) 13 g,GA 17 (f 0 (t 16)) 13 g,
 (GA 18 (l o (t 17)) 13 g),GA 19 (n (t 18)) 13 g,GA 20 (b .geq g (t 14) (t 19)) 13 g,UA 21 (p (t 13) (k (y d)) (t 20)),MA 10 21]) (c (t 10) (q (r 0 [CA 4 1])
 .ret) .skip))))) (q (r 0 [CA 4 0]) .ret)))
def c22l0:LCode:=q (r 0 [UA 9 (b .lss g (t 8) (t 7))]) (q (c (t 9) .skip (.exit 0)) (q (z 1 (q (r 0 [XA 10 1 6 8,LA 11 10,MA 5 11]) (r 0 [MA 12 3,UA 13 (.shift .shl (t 12) (k (.int .u64 8))),
 (MA 14 5),UA 15 (.conv d .i64 (t 14)),UA 16 (b .or g (t 13) (t 15)),MA 3 16]))) (r 0 [UA 17 (b .add d (t 8) (k (i j 1))),MA 8 17])))
def c22:LCode:=(q (r 0 [CA 2 0]) (q (r 0 [CA 3 0]) (q (q (r 0 [MA 6 0,UA 7 (n (t 6)),CA 8 0]) (z 0 (.loop c22l0))) (q (r 0 [MA 18 3,
 (MA 2 18)]) .ret))))
def c24l0:LCode:=q (r 0 [UA 12 (b .lss g (t 11) (k (i j 8)))]) (q (c (t 12) .skip (.exit 0)) (q (z 1 (q (r 0 [MA 13 11,MA 8 13]) (q (r 1 [MA 15 0,MA 16 1,
 (MA 17 2),UA 18 (.call 39 [(t 16),(t 17)]),MA 19 8,UA 20 (b .add d (t 18) (t 19)),UA 21 (.call 21 [(t 15),(t 20)]),MA 14 21,UA 22 (.ext (t 14) 0),UA 23 (.ext (t 14) 1),
 (UA 9 (.alloc 0 (.agg (yaa 64 (.int .u8 0))))),WA 64 9 22,MA 10 23]) (q (q (r 0 [MA 24 10,UA 25 (b .neq g (t 24) (k (i j 0)))]) (c (t 25) (q (r 0 [SA 26 512 6,
 (MA 27 10),WA 512 6 26,MA 7 27]) .ret) .skip)) (.tail 4 0 [MA 28 8,UA 29 (b .mul d (t 28) (k (i j 64))),UA 30 (.prim (.pslc 512 d g g) [(t 6),(t 29)]),UA 31 (.prim (.pslc 64 g g g) [(t 9)]),
 (UA 32 (.copy 1 (t 30) (t 31)))]))))) (r 0 [UA 33 (b .add d (t 11) (k (i j 1))),MA 11 33])))
def c24:LCode:=(q (r 1 [UA 6 (.alloc 0 (.agg (yaa 512 (.int .u8 0)))),CA 7 0]) (q (q (r 0 [CA 11 0]) (z 0 (.loop c24l0))) (q (r 0 [SA 34 512 6,
 (WA 512 6 34),CA 7 0]) .ret)))
def c34:LCode:=(q (r 1 [UA 2 (u 0 (t 0)),UA 3 (m (k (y g)))]) (q (r 0 [FA 4 0 2,FA 5 0 4,LA 6 5,LA 7 1,UA 8 (b .eql g (t 6) (t 7)),MA 3 8])
 .ret))
def c47:LCode:=(q (r 1 [UA 10 (.alloc 0 (.agg (yaa 16 (.int .u8 0))))]) (q (r 2 [MA 11 0,MA 12 1,MA 13 2,MA 14 3,UA 15 (.lits 0 1 4 [i j 0] [(0,(t 11)),(1,(t 12)),(2,(t 13)),(3,(t 14))]),
 (UA 16 (.call 44 [(t 15)])),UA 17 (.eff .b2s 0 [(t 16)]),MA 18 4,UA 19 (.lits 1 1 2 [.string ⟨#[]⟩] [(0,(t 17)),(1,(t 18))]),UA 20 (.call 43 [(k (i j 141)),(t 19)]),WA 16 10 20])
 .ret))
def c48:LCode:=(q (r 0 [UA 2 (m (k (.string ⟨#[]⟩))),CA 3 0,CA 4 0]) (q (r 0 [MA 9 0,UA 10 (.call 60 [(t 9),(k (i j 1))]),MA 8 10,UA 11 (.ext (t 8) 0),
 (UA 12 (.ext (t 8) 1)),UA 13 (.ext (t 8) 2),MA 5 11,MA 6 12,MA 7 13]) (q (q (r 0 [MA 14 7,UA 15 (b .neq g (t 14) (k (i j 0)))]) (c (t 15) (q (r 0 [MA 16 7,
 (UA 2 (m (k (.string ⟨#[]⟩)))),CA 3 0,MA 4 16]) .ret) .skip)) (q (r 0 [MA 17 0,MA 18 6,MA 19 6,MA 20 5,UA 21 (b .add d (t 19) (t 20)),
 (UA 22 (.slice 1 (t 17) (s (t 18)) (s (t 21)) o)),UA 23 (.eff .b2s 0 [(t 22)]),MA 24 6,MA 25 5,UA 26 (b .add d (t 24) (t 25)),MA 2 23,MA 3 26,CA 4 0])
 .ret))))
def c53:LCode:=(q (r 0 [UA 2 (m (k (.slice o 0 0)))]) (q (r 1 [MA 3 0,UA 4 (.lens (t 3)),UA 5 (.call 59 [(t 4)]),MA 6 0,UA 7 (.eff (.aps 1) 0 [(t 5),(t 6)]),MA 2 7])
 .ret))
def c55:LCode:=(q (r 1 [UA 0 (.alloc 0 (.agg nT))]) (q (r 0 [UA 1 (.build [.int .u32 0,.int .u32 0,.int .u32 0,.int .u32 0,.int .u32 0,.int .u32 0,.int .u32 0,.int .u32 0] [(0,1,(k (.int .u32 1779033703))),(1,1,(k (.int .u32 3144134277))),(2,1,(k (.int .u32 1013904242))),(3,1,(k (.int .u32 2773480762))),(4,1,(k (.int .u32 1359893119))),(5,1,(k (.int .u32 2600822924))),(6,1,(k (.int .u32 528734635))),(7,1,(k (.int .u32 1541459225)))]),
 (UA 2 (.build [.int .u32 0,.int .u32 0,.int .u32 0,.int .u32 0,.int .u32 0,.int .u32 0,.int .u32 0,.int .u32 0,.int .u8 0,.int .u8 0,.int .u8 0,.int .u8 0,.int .u8 0,.int .u8 0,.int .u8 0,.int .u8 0,.int .u8 0,.int .u8 0,.int .u8 0,.int .u8 0,.int .u8 0,.int .u8 0,.int .u8 0,.int .u8 0,.int .u8 0,.int .u8 0,.int .u8 0,.int .u8 0,.int .u8 0,.int .u8 0,.int .u8 0,.int .u8 0,.int .u8 0,.int .u8 0,.int .u8 0,.int .u8 0,.int .u8 0,.int .u8 0,.int .u8 0,.int .u8 0,.int .u8 0,.int .u8 0,.int .u8 0,.int .u8 0,.int .u8 0,.int .u8 0,.int .u8 0,.int .u8 0,.int .u8 0,.int .u8 0,.int .u8 0,.int .u8 0,.int .u8 0,.int .u8 0,.int .u8 0,.int .u8 0,.int .u8 0,.int .u8 0,.int .u8 0,.int .u8 0,.int .u8 0,.int .u8 0,.int .u8 0,.int .u8 0,.int .u8 0,.int .u8 0,.int .u8 0,.int .u8 0,.int .u8 0,.int .u8 0,.int .u8 0,.int .u8 0,.int .u64 0] [(0,8,(t 1))])),
 (WA 73 0 2)]) .ret))
def c57l0:LCode:=q (q (r 0 [FA 12 72 1,LA 13 12,UA 14 (.conv g .i64 (t 13)),MA 15 4,UA 16 (n (t 15)),UA 17 (b .add d (t 14) (t 16)),UA 18 (b .rem g (t 17) (k (i j 64))),
 (UA 19 (b .neq g (t 18) (k (i j 56))))]) (c (t 19) .skip (.exit 0))) (z 1 (r 2 [MA 20 4,UA 21 (.lits 0 1 1 [.int .u8 0] [(0,(k (.int .u8 0)))]),UA 22 (.append 1 1 1 (t 20) (t 21)),MA 4 22]))
def c57l1:LCode:=q (r 0 [UA 24 (b .lss g (t 23) (k (i j 8)))]) (q (c (t 24) .skip (.exit 2)) (q (z 3 (q (r 0 [MA 25 23,MA 5 25]) (r 2 [MA 26 4,MA 27 3,MA 28 5,
 (UA 29 (b .mul d (k (i j 8)) (t 28))),UA 30 (b .sub d (k (i j 56)) (t 29)),UA 31 (.shift .shr (t 27) (t 30)),UA 32 (.conv g .u8 (t 31)),UA 33 (.lits 0 1 1 [.int .u8 0] [(0,(t 32))]),UA 34 (.append 1 1 1 (t 26) (t 33)),
 (MA 4 34)]))) (r 0 [UA 35 (b .add d (t 23) (k (i j 1))),MA 23 35])))
def c57l2:LCode:=q (r 0 [UA 41 (b .lss g (t 40) (k (i j 32)))]) (q (c (t 41) .skip (.exit 4)) (q (z 5 (q (r 0 [MA 42 40,MA 7 42]) (r 0 [MA 43 7,MA 44 7,UA 45 (b .quo d (t 44) (k (i j 4))),
 (FA 46 0 1),UA 47 (.prim (.pidx 8 1) [(t 46),(t 45)]),LA 48 47,MA 49 7,UA 50 (b .rem g (t 49) (k (i j 4))),UA 51 (b .mul d (k (i j 8)) (t 50)),UA 52 (b .sub d (k (i j 24)) (t 51)),
 (UA 53 (.shift .shr (t 48) (t 52))),UA 54 (.conv g .u8 (t 53)),UA 55 (.prim (.pidx 32 1) [(t 6),(t 43)]),WA 1 55 54]))) (r 0 [UA 56 (b .add d (t 40) (k (i j 1))),MA 40 56])))
def c57:LCode:=(q (r 2 [UA 1 (u 0 (t 0)),UA 2 (.alloc 1 (.agg (yaa 32 (.int .u8 0))))]) (q (r 0 [FA 8 72 1,LA 9 8,UA 10 (b .mul g (k (.int .u64 8)) (t 9)),MA 3 10])
 (q (r 1 [UA 11 (.lits 0 1 1 [.int .u8 0] [(0,(k (.int .u8 128)))]),MA 4 11]) (q (z 0 (.loop c57l0)) (q (q (r 0 [CA 23 0]) (z 2 (.loop c57l1))) (q (r 0 [SA 36 73 1,
 (MA 37 4),UA 38 (.eff .b2s 0 [(t 37)]),UA 39 (.call 56 [(t 36),(t 38)]),WA 73 1 39]) (q (r 1 [UA 6 (.alloc 0 (.agg (yaa 32 (.int .u8 0))))]) (q (q (r 0 [CA 40 0])
 (z 4 (.loop c57l2))) (q (r 0 [SA 57 32 6,WA 32 2 57]) .ret)))))))))
def c72l0:LCode:=q (r 0 [UA 23 (b .lss g (t 22) (k (i j 64)))]) (q (c (t 23) .skip (.exit 0)) (q (z 1 (q (r 0 [MA 24 22,UA 25 (.prim (.aidx 64 1 g) [(t 21),(t 22)]),MA 8 24,
 (MA 9 25)]) (q (.tree 0 (v 0 [1,5,18,20,24,25] (UA 26 (.prim (.pidx 4 1) [(t 7),(k (i j 3))])) (v 1 [5,18,20,24,25] (LA 27 26) (v 2 [3,4,5,18,20,24,25] (UA 28 (.prim (.pidx 4 1) [(t 7),(k (i j 0))]))
 (v 3 [4,5,18,20,24,25] (LA 29 28) (v 6 [7,10,17,18,20,24,25] (UA 32 (.prim (.pidx 4 1) [(t 7),(k (i j 0))])) (v 7 [10,17,18,20,24,25] (LA 33 32) (v 8 [9,10,17,18,20,24,25] (UA 34 (.prim (.pidx 4 1) [(t 7),(k (i j 1))]))
 (v 9 [10,17,18,20,24,25] (LA 35 34) (v 10 [17,18,20,24,25] (UA 36 (b .and g (t 33) (t 35))) (v 11 [12,13,16,17,18,20,24,25] (UA 37 (.prim (.pidx 4 1) [(t 7),(k (i j 0))])) (v 12 [13,16,17,18,20,24,25] (LA 38 37)
 (v 13 [16,17,18,20,24,25] (UA 39 (.prim .cpl [(t 38)])) (v 14 [15,16,17,18,20,24,25] (UA 40 (.prim (.pidx 4 1) [(t 7),(k (i j 2))])) (v 15 [16,17,18,20,24,25] (LA 41 40) (v 16 [17,18,20,24,25] (UA 42 (b .and g (t 39) (t 41)))
 (v 17 [18,20,24,25] (UA 43 (b .xor g (t 36) (t 42))) (v 19 [20,24,25] (MA 45 9) (v 21 [22,23,24,25] (MA 47 8) (v 22 [23,24,25] (UA 48 (.prim (.pidx 64 1) [(t 5),(t 47)])) (v 23 [24,25] (LA 49 48)
 (h 4 (UA 30 (.call 89 [(t 29),(k (i j 6)),(k (i j 11)),(k (i j 25))])) d (v 5 [18,20,24,25] (UA 31 (b .add g (t 27) (t 30))) (v 18 [20,24,25] (UA 44 (b .add g (t 31) (t 43))) (v 20 [24,25] (UA 46 (b .add g (t 44) (t 45)))
 (v 24 [25] (UA 50 (b .add g (t 46) (t 49))) (v 25 [] (MA 10 50) .done))))) .none)))))))))))))))))))))) (q (.tree 0 (v 0 [1,2,20,21] (UA 51 (.prim (.pidx 4 1) [(t 6),(k (i j 0))])) (v 1 [2,20,21] (LA 52 51)
 (v 3 [4,7,13,19,20,21] (UA 54 (.prim (.pidx 4 1) [(t 6),(k (i j 0))])) (v 4 [7,13,19,20,21] (LA 55 54) (v 5 [6,7,13,19,20,21] (UA 56 (.prim (.pidx 4 1) [(t 6),(k (i j 1))])) (v 6 [7,13,19,20,21] (LA 57 56)
 (v 7 [13,19,20,21] (UA 58 (b .and g (t 55) (t 57))) (v 8 [9,12,13,19,20,21] (UA 59 (.prim (.pidx 4 1) [(t 6),(k (i j 0))])) (v 9 [12,13,19,20,21] (LA 60 59) (v 10 [11,12,13,19,20,21] (UA 61 (.prim (.pidx 4 1) [(t 6),(k (i j 2))]))
 (v 11 [12,13,19,20,21] (LA 62 61) (v 12 [13,19,20,21] (UA 63 (b .and g (t 60) (t 62))) (v 13 [19,20,21] (UA 64 (b .xor g (t 58) (t 63))) (v 14 [15,18,19,20,21] (UA 65 (.prim (.pidx 4 1) [(t 6),(k (i j 1))]))
 (v 15 [18,19,20,21] (LA 66 65) (v 16 [17,18,19,20,21] (UA 67 (.prim (.pidx 4 1) [(t 6),(k (i j 2))])) (v 17 [18,19,20,21] (LA 68 67) (v 18 [19,20,21] (UA 69 (b .and g (t 66) (t 68))) (v 19 [20,21] (UA 70 (b .xor g (t 64) (t 69)))
 (h 2 (UA 53 (.call 89 [(t 52),(k (i j 2)),(k (i j 13)),(k (i j 22))])) d (v 20 [21] (UA 71 (b .add g (t 53) (t 70))) (v 21 [] (MA 11 71) .done)) .none))))))))))))))))))))) (q (r 0 [UA 72 (.prim (.pidx 4 1) [(t 6),(k (i j 3))]),
 (LA 73 72),MA 74 10,UA 75 (b .add g (t 73) (t 74)),UA 76 (.prim (.pidx 4 1) [(t 7),(k (i j 0))]),LA 77 76,UA 78 (.prim (.pidx 4 1) [(t 7),(k (i j 1))]),LA 79 78,
 (UA 80 (.prim (.pidx 4 1) [(t 7),(k (i j 2))])),LA 81 80,UA 82 (.build [.int .u32 0,.int .u32 0,.int .u32 0,.int .u32 0] [(0,1,(t 75)),(1,1,(t 77)),(2,1,(t 79)),(3,1,(t 81))]),WA 4 7 82])
 (r 0 [MA 83 10,MA 84 11,UA 85 (b .add g (t 83) (t 84)),UA 86 (.prim (.pidx 4 1) [(t 6),(k (i j 0))]),LA 87 86,UA 88 (.prim (.pidx 4 1) [(t 6),(k (i j 1))]),LA 89 88,
 (UA 90 (.prim (.pidx 4 1) [(t 6),(k (i j 2))])),LA 91 90,UA 92 (.build [.int .u32 0,.int .u32 0,.int .u32 0,.int .u32 0] [(0,1,(t 85)),(1,1,(t 87)),(2,1,(t 89)),(3,1,(t 91))]),WA 4 6 92]))))))
 (r 0 [UA 93 (b .add d (t 22) (k (i j 1))),MA 22 93])))
def c72l1:LCode:=q (r 0 [UA 95 (b .lss g (t 94) (k (i j 4)))]) (q (c (t 95) .skip (.exit 2)) (q (z 3 (q (r 0 [MA 96 94,MA 12 96]) (q (.tail 8 0 [MA 97 12,UA 98 (.prim (.pidx 8 1) [(t 2),(t 97)]),
 (LA 99 98),MA 100 12,UA 101 (.prim (.pidx 4 1) [(t 6),(t 100)]),LA 102 101,UA 103 (b .add g (t 99) (t 102)),UA 104 (.prim (.pidx 8 1) [(t 2),(t 97)]),WA 1 104 103])
 (.tail 9 0 [MA 105 12,UA 106 (b .add d (t 105) (k (i j 4))),UA 107 (.prim (.pidx 8 1) [(t 2),(t 106)]),LA 108 107,MA 109 12,UA 110 (.prim (.pidx 4 1) [(t 7),(t 109)]),
 (LA 111 110),UA 112 (b .add g (t 108) (t 111)),UA 113 (.prim (.pidx 8 1) [(t 2),(t 106)]),WA 1 113 112])))) (r 0 [UA 114 (b .add d (t 94) (k (i j 1))),MA 94 114])))
def c72:LCode:=(q (r 2 [UA 2 (u 0 (t 0)),UA 4 (.alloc 1 (.agg #[.int .u32 0,.int .u32 0,.int .u32 0,.int .u32 0,.int .u32 0,.int .u32 0,.int .u32 0,.int .u32 0]))]) (q (r 1 [MA 13 1,
 (UA 14 (.call 88 [(t 13)])),UA 5 (.alloc 0 (.agg (yaa 64 (.int .u32 0)))),WA 64 5 14]) (q (.tree 2 (v 0 [1,2,8,9] (UA 15 (.prim (.pslc 8 g d g) [(t 2),(k (i j 4))])) (v 1 [2,8,9] (UA 16 (.prim (.s2a 4) [(t 15)]))
 (v 2 [8,9] (SA 17 4 16) (v 3 [4,5,9] (UA 18 (.prim (.pslc 8 d g g) [(t 2),(k (i j 4))])) (v 4 [5,9] (UA 19 (.prim (.s2a 4) [(t 18)])) (v 5 [9] (SA 20 4 19) (h 6 (UA 6 (.alloc 0 (.agg #[.int .u32 0,.int .u32 0,.int .u32 0,.int .u32 0]))) d
 (h 7 (UA 7 (.alloc 1 (.agg #[.int .u32 0,.int .u32 0,.int .u32 0,.int .u32 0]))) d (h 8 (WA 4 6 17) d (h 9 (WA 4 7 20) g .done .none) .none) .none) (h 7 (UA 7 (.alloc 1 (.agg #[.int .u32 0,.int .u32 0,.int .u32 0,.int .u32 0]))) d
 (h 6 (UA 6 (.alloc 0 (.agg #[.int .u32 0,.int .u32 0,.int .u32 0,.int .u32 0]))) d (h 8 (WA 4 6 17) d (h 9 (WA 4 7 20) g .done .none) .none) .none) .none))))))))) (q (q (r 0 [UA 21 (.eff (.gload 0 64) 0 []),
 (CA 22 0)]) (z 0 (.loop c72l0))) (q (q (r 0 [CA 94 0]) (z 2 (.loop c72l1))) (q (r 0 [SA 115 8 2,WA 8 4 115]) .ret))))))
open Go Go.Fx Go.Proofs
theorem lw3:rlF Tryd.prog 3 c3=some (c3,[.tmp 6],164):=by kernel_rfl
theorem lw4:rlF Tryd.prog 4 c4=some (c4,[.tmp 2],14):=by kernel_rfl
theorem lw8:rlF Tryd.prog 8 c8=some (c8,[.tmp 2],7):=by kernel_rfl
theorem lw16:rlF Tryd.prog 16 c16=some (c16,[.tmp 4],65):=by kernel_rfl
theorem lw17:rlF Tryd.prog 17 c17=some (c17,[.tmp 4],22):=by kernel_rfl
theorem lw22:rlF Tryd.prog 22 c22=some (c22,[.tmp 2],19):=by kernel_rfl
theorem lw24:rlF Tryd.prog 24 c24=some (c24,[.cell 6 (some 512),.tmp 7],35):=by kernel_rfl
theorem lw34:rlF Tryd.prog 34 c34=some (c34,[.tmp 3],9):=by kernel_rfl
theorem lw47:rlF Tryd.prog 47 c47=some (c47,[.cell 10 (some 16)],21):=by kernel_rfl
theorem lw48:rlF Tryd.prog 48 c48=some (c48,[.tmp 2,.tmp 3,.tmp 4],27):=by kernel_rfl
theorem lw53:rlF Tryd.prog 53 c53=some (c53,[.tmp 2],8):=by kernel_rfl
theorem lw55:rlF Tryd.prog 55 c55=some (c55,[.cell 0 (some 73)],3):=by kernel_rfl
theorem lw57:rlF Tryd.prog 57 c57=some (c57,[.cell 2 (some 32)],58):=by kernel_rfl
theorem lw72:rlF Tryd.prog 72 c72=some (c72,[.cell 4 (some 8)],116):=by kernel_rfl
end Go.Fx.K
namespace Go.Fx.K
open Go Go.Fx
open Go.Operand renaming tmp → t, const → k
open Go.Value renaming int → i, bool → y
open Go.IntKind renaming i64 → j
open Option renaming some → s, none → o
open Go.Fx.LOp renaming mov → m, load → l, fld → f, bin → b, idx → x, store → w, pick → p, len → n, box → u
open Go.Fx.LCode renaming seq → q, reg → r, cond → c, block → z
open Go.Fx.LPlan renaming take → v, alt → h
open Bool renaming false → g, true → d
end Go.Fx.K
