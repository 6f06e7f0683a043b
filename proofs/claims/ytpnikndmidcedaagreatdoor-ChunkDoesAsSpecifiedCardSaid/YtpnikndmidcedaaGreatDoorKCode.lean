import Derived.Test.YtpnikndmidcedaaGreatDoorKLow1
import Derived.Test.YtpnikndmidcedaaGreatDoorProg
set_option linter.unusedVariables false
set_option linter.unusedSimpArgs false
set_option linter.unusedSectionVars false
open Array renaming replicate → yaa
namespace Go.Fx.K
open Go Go.Fx
open Go.Operand renaming tmp → t, const → k
open Go.Value renaming int → i, bool → y
open Go.IntKind renaming i64 → j
open Option renaming some → s, none → o
open Go.Fx.LOp renaming mov → m, load → l, fld → f, bin → b, idx → x, store → w, pick → p, len → n, box → u
open Go.Fx.LCode renaming seq → q, reg → r, cond → c, block → z
open Go.Fx.LPlan renaming take → v, alt → h
open Bool renaming false → g, true → d
def c4l0:LCode:=q (q (r 0 [MA 4 3,MA 5 0,UA 6 (n (t 5)),UA 7 (b .lss g (t 4) (t 6))]) (c (t 7) .skip (.exit 0))) (q (z 1 (q (r 0 [MA 10 0,MA 11 3,XA 12 5 10 11,
 (FA 13 3 12),LA 14 13,UA 15 (.lens (t 14)),UA 16 (b .gtr g (t 15) (k (i j 120))),MA 17 16,GA 18 (m (t 0)) 17 g,GA 19 (m (t 3)) 17 g,GA 20 (x 5 (t 18) (t 19)) 17 g,
 (GA 21 (f 4 (t 20)) 17 g),GA 22 (l o (t 21)) 17 g,GA 23 (.lens (t 22)) 17 g,GA 24 (b .gtr g (t 23) (k (i j 400))) 17 g,UA 25 (p (t 17) (k (y d)) (t 24))]) (c (t 25) (q (r 0 [UA 2 (m (k (y g)))])
 .ret) .skip))) (r 0 [MA 8 3,UA 9 (b .add d (t 8) (k (i j 1))),MA 3 9]))
def c4:LCode:=(q (r 0 [UA 2 (m (k (y g)))]) (q (q (r 0 [CA 3 0]) (z 0 (.loop c4l0))) (q (r 0 [MA 26 0,UA 27 (n (t 26)),UA 28 (b .leq g (t 27) (k (i j 80))),MA 2 28])
 .ret)))
def c11l0:LCode:=q (q (r 0 [MA 5 4,FA 6 1 1,LA 7 6,UA 8 (b .lss g (t 5) (t 7))]) (c (t 8) .skip (.exit 0))) (q (z 1 (q (r 0 [MA 11 4,FA 12 2 1,
 (LA 13 12),UA 14 (b .neq g (t 11) (t 13)),MA 15 14,GA 16 (l (s 4) (t 1)) 15 d,GA 17 (m (t 4)) 15 d,GA 18 (.call 29 [(t 16),(t 17)]) 15 d,GA 19 (b .eql g (t 18) (k (i j 0))) 15 d,
 (UA 20 (p (t 15) (t 19) (k (y g))))]) (c (t 20) (r 0 [MA 21 3,UA 22 (b .add d (t 21) (k (i j 1))),MA 3 22]) .skip))) (r 0 [MA 9 4,UA 10 (b .add d (t 9) (k (i j 1))),MA 4 10]))
def c11:LCode:=(q (r 1 [UA 1 (u 0 (t 0)),CA 2 0]) (q (r 0 [CA 3 0]) (q (q (r 0 [CA 4 0]) (z 0 (.loop c11l0))) (q (r 0 [MA 23 3,MA 2 23])
 .ret))))
def c12:LCode:=(q (r 0 [CA 2 0]) (q (r 0 [MA 3 0,UA 4 (.nilc (t 3)),FA 5 1 4,LA 6 5,UA 7 (n (t 6)),MA 2 7]) .ret))
def c13l0:LCode:=q (q (r 0 [MA 16 3,MA 17 0,UA 18 (.nilc (t 17)),FA 19 2 18,FA 20 0 19,LA 21 20,UA 22 (n (t 21)),UA 23 (b .lss g (t 16) (t 22))])
 (c (t 23) .skip (.exit 0))) (q (z 1 (q (r 1 [MA 26 0,UA 27 (.nilc (t 26)),FA 28 2 27,FA 29 0 28,LA 30 29,MA 31 3,XA 32 5 30 31,SA 33 5 32,
 (UA 4 (.alloc 0 (.agg #[i j 0,i j 0,i j 0,.string ⟨#[]⟩,.string ⟨#[]⟩]))),WA 5 4 33]) (q (.tree 0 (v 0 [1,2,3,7,8,9,10,11,12,13,14] (MA 35 0) (v 1 [2,3,7,8,9,10,11,12,13,14] (UA 36 (.nilc (t 35)))
 (v 2 [3,7,8,9,10,11,12,13,14] (FA 37 1 36) (v 3 [7,8,9,10,11,12,13,14] (LA 38 37) (v 4 [5,6,7,8,9,10,11,12,13,14] (FA 39 0 4) (v 5 [6,7,8,9,10,11,12,13,14] (FA 40 0 39) (v 6 [7,8,9,10,11,12,13,14] (SA 41 3 40)
 (h 7 (UA 42 (.call 17 [(t 38),(t 41)])) g (v 8 [9,10,11,12,13,14] (MA 34 42) (v 9 [12,13,14] (UA 43 (.ext (t 34) 0)) (v 10 [13,14] (UA 44 (.ext (t 34) 1)) (v 11 [14] (UA 45 (.ext (t 34) 2)) (v 12 [13,14] (MA 5 43)
 (v 13 [14] (MA 6 44) (v 14 [] (MA 7 45) .done))))))) .none))))))))) (q (r 0 [MA 46 7,UA 47 (b .neq g (t 46) (k (i j 0))),MA 48 47,GA 49 (m (t 5)) 48 g,GA 50 (f 0 (t 4)) 48 g,
 (GA 51 (f 3 (t 50)) 48 g),GA 52 (l o (t 51)) 48 g,GA 53 (.prim (.sbin .neq) [(t 49),(t 52)]) 48 g,UA 54 (p (t 48) (k (y d)) (t 53)),MA 55 54,GA 56 (m (t 6)) 55 g,GA 57 (f 4 (t 4)) 55 g,
 (GA 58 (l o (t 57)) 55 g),GA 59 (.prim (.sbin .neq) [(t 56),(t 58)]) 55 g,UA 60 (p (t 55) (k (y d)) (t 59))]) (c (t 60) (q (r 0 [UA 2 (m (k (y g)))]) .ret) .skip))))) (r 0 [MA 24 3,
 (UA 25 (b .add d (t 24) (k (i j 1)))),MA 3 25]))
def c13:LCode:=(q (r 0 [UA 2 (m (k (y g)))]) (q (q (r 0 [MA 11 0,UA 12 (.nilc (t 11)),FA 13 0 12,LA 14 13,UA 15 (.call 21 [(t 14)])]) (c (t 15) (q (r 0 [UA 2 (m (k (y d)))])
 .ret) .skip)) (q (q (r 0 [CA 3 0]) (z 0 (.loop c13l0))) (q (r 0 [MA 62 0,UA 63 (.nilc (t 62)),FA 64 1 63,LA 65 64,UA 66 (.build [i j 0,i j 0,i j 0] [(0,1,(k (i j 0))),(1,1,(k (i j 0))),(2,1,(k (i j 1125899906842624)))]),
 (UA 67 (.call 17 [(t 65),(t 66)])),MA 61 67,UA 68 (.ext (t 61) 0),UA 69 (.ext (t 61) 1),UA 70 (.ext (t 61) 2),MA 8 68,MA 9 69,MA 10 70]) (q (r 0 [MA 71 10,
 (UA 72 (b .eql g (t 71) (k (i j 5)))),MA 2 72]) .ret)))))
def c22:LCode:=(q (r 0 [UA 6 (m (k (y g)))]) (q (r 1 [MA 10 0,UA 11 (.nilc (t 10)),FA 12 2 11,SA 13 4 12,MA 14 1,MA 15 2,UA 16 (.call 50 [(t 13),(t 14),(t 15)]),
 (UA 7 (.alloc 0 (.agg #[i j 0,i j 0,i j 0]))),WA 3 7 16]) (q (r 1 [MA 18 0,UA 19 (.nilc (t 18)),FA 20 1 19,LA 21 20,MA 22 1,MA 23 2,
 (UA 24 (.call 16 [(t 21),(t 22),(t 23)])),MA 17 24,UA 25 (.ext (t 17) 0),UA 26 (.ext (t 17) 1),UA 8 (.alloc 0 (.agg #[i j 0,i j 0,i j 0])),WA 3 8 25,MA 9 26]) (q
 (q (r 0 [MA 27 9,UA 28 (b .eql g (t 27) (k (i j 130)))]) (c (t 28) (q (.tree 2 (v 0 [16,17,18] (MA 29 0) (v 1 [2,3,4,15,16,17,18] (MA 30 0) (v 2 [3,4,15,16,17,18] (UA 31 (.nilc (t 30)))
 (v 3 [4,15,16,17,18] (FA 32 6 31) (v 4 [15,16,17,18] (LA 33 32) (v 5 [6,9,11,13,14,15,16,17,18] (FA 34 0 7) (v 6 [9,11,13,14,15,16,17,18] (LA 35 34) (v 7 [8,9,11,13,14,15,16,17,18] (FA 36 1 7)
 (v 8 [9,11,13,14,15,16,17,18] (LA 37 36) (v 9 [11,13,14,15,16,17,18] (UA 38 (.build [i j 0,i j 0,i j 0] [(0,1,(t 35)),(1,1,(t 37))])) (v 10 [11,13,14,15,16,17,18] (MA 39 1) (v 11 [13,14,15,16,17,18] (UA 40 (.build [i j 0,i j 0,i j 0,.string ⟨#[]⟩] [(0,3,(t 38)),(3,1,(t 39))]))
 (v 12 [13,14,15,16,17,18] (MA 41 2) (v 13 [14,15,16,17,18] (UA 42 (.build [i j 0,i j 0,i j 0,.string ⟨#[]⟩,.string ⟨#[]⟩] [(0,4,(t 40)),(4,1,(t 41))])) (h 14 (UA 43 (.lits 0 5 1 [i j 0,i j 0,i j 0,.string ⟨#[]⟩,.string ⟨#[]⟩] [(0,(t 42))])) d
 (h 15 (UA 44 (.append 1 5 56 (t 33) (t 43))) g (v 16 [17,18] (UA 45 (.nilc (t 29))) (v 17 [18] (FA 46 6 45) (h 18 (WA 1 46 44) g .done .none))) .none) .none)))))))))))))))) (q (r 0 [FA 47 2 7,
 (LA 48 47),UA 49 (b .eql g (t 48) (k (i j 0))),MA 50 49,GA 51 (m (t 0)) 50 d,GA 52 (.nilc (t 51)) 50 d,GA 53 (f 0 (t 52)) 50 d,GA 54 (l o (t 53)) 50 d,GA 55 (.call 21 [(t 54)]) 50 d,
 (UA 56 (p (t 50) (t 55) (k (y g)))),MA 6 56]) .ret)) .skip)) (q (q (r 0 [MA 57 9,FA 58 2 7,LA 59 58,UA 60 (b .neq g (t 57) (t 59))]) (c (t 60) (q (r 0 [UA 6 (m (k (y g)))])
 .ret) .skip)) (q (q (r 0 [MA 61 9,UA 62 (b .neq g (t 61) (k (i j 0)))]) (c (t 62) (q (r 0 [SA 63 3 8,UA 64 (.build [i j 0,i j 0,i j 0] []),UA 65 (.eqf g [(0,(.int .i64)),(1,(.int .i64)),(2,(.int .i64))] (t 63) (t 64)),
 (MA 6 65)]) .ret) .skip)) (q (q (.qui 0 [FA 66 0 8,LA 67 66,FA 68 0 7,LA 69 68,UA 70 (b .neq g (t 67) (t 69)),MA 71 70,GA 72 (f 1 (t 8)) 71 g,
 (GA 73 (l o (t 72)) 71 g),GA 74 (f 1 (t 7)) 71 g,GA 75 (l o (t 74)) 71 g,GA 76 (b .neq g (t 73) (t 75)) 71 g,UA 77 (p (t 71) (k (y d)) (t 76)),MA 78 77,GA 79 (f 2 (t 8)) 78 g,
 (GA 80 (l o (t 79)) 78 g),GA 81 (b .lss g (t 80) (k (i j 1))) 78 g,UA 82 (p (t 78) (k (y d)) (t 81)),MA 83 82,GA 84 (m (t 0)) 83 g,GA 85 (.nilc (t 84)) 83 g,GA 86 (f 2 (t 85)) 83 g,
 (GA 87 (f 0 (t 86)) 83 g),GA 88 (l o (t 87)) 83 g,GA 89 (n (t 88)) 83 g,GA 90 (b .gtr g (t 89) (k (i j 0))) 83 g,GA 91 (m (t 90)) 83 g,GA 92 (f 2 (t 8)) 91 d,GA 93 (l o (t 92)) 91 d,
 (GA 94 (m (t 0)) 91 d),GA 95 (.nilc (t 94)) 91 d,GA 96 (f 2 (t 95)) 91 d,GA 97 (f 0 (t 96)) 91 d,GA 98 (l o (t 97)) 91 d,GA 99 (m (t 0)) 91 d,GA 100 (.nilc (t 99)) 91 d,
 (GA 101 (f 2 (t 100)) 91 d),GA 102 (f 0 (t 101)) 91 d,GA 103 (l o (t 102)) 91 d,GA 104 (n (t 103)) 91 d,GA 105 (b .sub d (t 104) (k (i j 1))) 91 d,GA 106 (x 5 (t 98) (t 105)) 91 d,
 (GA 107 (f 0 (t 106)) 91 d),GA 108 (f 0 (t 107)) 91 d,GA 109 (f 2 (t 108)) 91 d,GA 110 (l o (t 109)) 91 d,GA 111 (b .leq g (t 93) (t 110)) 91 d,GA 112 (p (t 91) (t 111) (k (y g))) 83 g,
 (UA 113 (p (t 83) (k (y d)) (t 112)))]) (c (t 113) (q (r 0 [UA 6 (m (k (y g)))]) .ret) .skip)) (q (.tree 0 (v 0 [9,10,11] (MA 114 0) (v 1 [2,3,4,8,9,10,11] (MA 115 0) (v 2 [3,4,8,9,10,11] (UA 116 (.nilc (t 115)))
 (v 3 [4,8,9,10,11] (FA 117 2 116) (v 4 [8,9,10,11] (SA 118 4 117) (v 5 [8,9,10,11] (SA 119 3 8) (v 6 [8,9,10,11] (MA 120 1) (v 7 [8,9,10,11] (MA 121 2) (h 8 (UA 122 (.call 51 [(t 118),(t 119),(t 120),(t 121)])) g
 (v 9 [10,11] (UA 123 (.nilc (t 114))) (v 10 [11] (FA 124 2 123) (h 11 (WA 4 124 122) g .done .none))) .none)))))))))) (q (r 0 [UA 6 (m (k (y d)))]) .ret)))))))))
def c27:LCode:=(q (r 0 [UA 2 (m (k (.slice o 0 0)))]) (q (q (r 0 [MA 3 0,UA 4 (.eqn g (t 3) (k (.slice o 0 0)))]) (c (t 4) (q (r 0 [UA 2 (m (k (.slice o 0 0)))]) .ret) .skip)) (q (r 2 [
 (UA 5 (.lits 0 4 0 [i j 0,i j 0,i j 0,.string ⟨#[]⟩] [])),MA 6 0,UA 7 (.append 1 4 40 (t 5) (t 6)),MA 2 7]) .ret)))
def c34l0:LCode:=q (r 0 [UA 12 (b .lss g (t 11) (k (i j 8)))]) (q (c (t 12) .skip (.exit 0)) (q (z 1 (q (r 0 [MA 13 11,MA 8 13]) (q (r 1 [MA 15 0,MA 16 1,
 (MA 17 2),UA 18 (.call 42 [(t 16),(t 17)]),MA 19 8,UA 20 (b .add d (t 18) (t 19)),UA 21 (.call 31 [(t 15),(t 20)]),MA 14 21,UA 22 (.ext (t 14) 0),UA 23 (.ext (t 14) 1),
 (UA 9 (.alloc 0 (.agg (yaa 64 (.int .u8 0))))),WA 64 9 22,MA 10 23]) (q (q (r 0 [MA 24 10,UA 25 (b .neq g (t 24) (k (i j 0)))]) (c (t 25) (q (r 0 [SA 26 512 6,
 (MA 27 10),WA 512 6 26,MA 7 27]) .ret) .skip)) (.tail 4 0 [MA 28 8,UA 29 (b .mul d (t 28) (k (i j 64))),UA 30 (.prim (.pslc 512 d g g) [(t 6),(t 29)]),UA 31 (.prim (.pslc 64 g g g) [(t 9)]),
 (UA 32 (.copy 1 (t 30) (t 31)))]))))) (r 0 [UA 33 (b .add d (t 11) (k (i j 1))),MA 11 33])))
def c34:LCode:=(q (r 1 [UA 6 (.alloc 0 (.agg (yaa 512 (.int .u8 0)))),CA 7 0]) (q (q (r 0 [CA 11 0]) (z 0 (.loop c34l0))) (q (r 0 [SA 34 512 6,
 (WA 512 6 34),CA 7 0]) .ret)))
def c40:LCode:=(q (r 2 [UA 5 (u 0 (t 2)),UA 6 (.alloc 1 (.agg (yaa 512 (.int .u8 0))))]) (q (.tree 0 (v 0 [1,2,3,6,7] (FA 9 2 5) (v 1 [2,3,6,7] (LA 10 9) (v 4 [5,6,7] (FA 13 3 5)
 (v 5 [6,7] (LA 14 13) (h 2 (UA 11 (.call 71 [(t 10)])) d (h 3 (UA 12 (.eff .b2s 0 [(t 11)])) d (v 6 [7] (UA 15 (.prim (.sbin .add) [(t 12),(t 14)])) (v 7 [] (MA 7 15) .done)) .none) .none))))))
 (q (r 1 [MA 16 0,MA 17 1,FA 18 0 5,LA 19 18,FA 20 1 5,LA 21 20,MA 22 7,UA 23 (.call 66 [(t 16),(t 17),(t 19),(t 21),(t 22)]),
 (UA 8 (.alloc 0 (.agg (yaa 16 (.int .u8 0))))),WA 16 8 23]) (q (.tail 2 0 [UA 24 (.prim (.pslc 512 g g g) [(t 6)]),UA 25 (.prim (.pslc 16 g g g) [(t 8)]),UA 26 (.copy 1 (t 24) (t 25))])
 (q (.tail 3 0 [UA 27 (.prim (.pslc 512 d d d) [(t 6),(k (i j 16)),(k (i j 24)),(k (i j 24))]),FA 28 0 5,LA 29 28,UA 30 (.call 61 [(t 27),(t 29)])]) (q (.tail 3 0 [UA 31 (.prim (.pslc 512 d d d) [(t 6),(k (i j 24)),(k (i j 32)),(k (i j 32))]),
 (FA 32 1 5),LA 33 32,UA 34 (.call 61 [(t 31),(t 33)])]) (q (r 0 [UA 35 (.prim (.pslc 512 d d d) [(t 6),(k (i j 32)),(k (i j 34)),(k (i j 34))]),MA 36 7,UA 37 (.lens (t 36)),
 (UA 38 (.call 61 [(t 35),(t 37)]))]) (q (r 0 [UA 39 (.prim (.pslc 512 d g g) [(t 6),(k (i j 34))]),MA 40 7,UA 41 (.eff .cps 0 [(t 39),(t 40)])]) (q (r 0 [SA 42 512 6,WA 512 6 42])
 .ret)))))))))
def c43l0:LCode:=q (r 0 [UA 9 (b .lss g (t 8) (t 7))]) (q (c (t 9) .skip (.exit 0)) (q (z 1 (q (r 0 [MA 10 8,MA 5 10]) (q (r 0 [MA 11 1,MA 12 0,MA 13 5,
 (XA 14 4 12 13),SA 15 4 14,UA 16 (.callv (t 11) [(t 15)])]) (c (t 16) (q (r 0 [MA 17 5,MA 4 17]) .ret) .skip)))) (r 0 [UA 18 (b .add d (t 8) (k (i j 1))),
 (MA 8 18)])))
def c43:LCode:=(q (r 0 [CA 4 0]) (q (q (r 0 [MA 6 0,UA 7 (n (t 6)),CA 8 0]) (z 0 (.loop c43l0))) (q (r 0 [UA 4 (m (k (.int .i64 (-1))))]) .ret)))
def c44:LCode:=(q (r 1 [UA 2 (u 0 (t 0)),UA 3 (m (k (y g)))]) (q (r 0 [FA 4 0 2,SA 5 3 4,SA 6 3 1,UA 7 (.eqf g [(0,(.int .i64)),(1,(.int .i64)),(2,(.int .i64))] (t 5) (t 6)),
 (MA 3 7)]) .ret))
def c51:LCode:=(q (r 3 [UA 4 (u 0 (t 0)),UA 5 (u 1 (t 1)),UA 8 (.alloc 2 (.agg #[.slice o 0 0,i j 0,i j 0,i j 0]))]) (q (.tree 4 (v 1 [2,3,10,11,12] (FA 10 0 4) (v 2 [3,10,11,12] (LA 11 10)
 (v 4 [6,8,9,10,11,12] (SA 13 3 5) (v 5 [6,8,9,10,11,12] (MA 14 2) (v 6 [8,9,10,11,12] (UA 15 (.build [i j 0,i j 0,i j 0,.string ⟨#[]⟩] [(0,3,(t 13)),(3,1,(t 14))])) (v 7 [8,9,10,11,12] (MA 16 3)
 (v 8 [9,10,11,12] (UA 17 (.build [i j 0,i j 0,i j 0,.string ⟨#[]⟩,.string ⟨#[]⟩] [(0,4,(t 15)),(4,1,(t 16))])) (h 0 (UA 9 (.lits 0 5 0 [i j 0,i j 0,i j 0,.string ⟨#[]⟩,.string ⟨#[]⟩] [])) d (h 3 (UA 12 (.append 1 5 56 (t 9) (t 11))) d
 (h 9 (UA 18 (.lits 2 5 1 [i j 0,i j 0,i j 0,.string ⟨#[]⟩,.string ⟨#[]⟩] [(0,(t 17))])) d (h 10 (UA 19 (.append 3 5 56 (t 12) (t 18))) g (v 11 [12] (FA 20 0 4) (h 12 (WA 1 20 19) g .done
 .none)) .none) .none) (h 9 (UA 18 (.lits 2 5 1 [i j 0,i j 0,i j 0,.string ⟨#[]⟩,.string ⟨#[]⟩] [(0,(t 17))])) d (h 3 (UA 12 (.append 1 5 56 (t 9) (t 11))) d (h 10 (UA 19 (.append 3 5 56 (t 12) (t 18))) g
 (v 11 [12] (FA 20 0 4) (h 12 (WA 1 20 19) g .done .none)) .none) .none) .none)) (h 9 (UA 18 (.lits 2 5 1 [i j 0,i j 0,i j 0,.string ⟨#[]⟩,.string ⟨#[]⟩] [(0,(t 17))])) d (h 0 (UA 9 (.lits 0 5 0 [i j 0,i j 0,i j 0,.string ⟨#[]⟩,.string ⟨#[]⟩] [])) d
 (h 3 (UA 12 (.append 1 5 56 (t 9) (t 11))) d (h 10 (UA 19 (.append 3 5 56 (t 12) (t 18))) g (v 11 [12] (FA 20 0 4) (h 12 (WA 1 20 19) g .done .none)) .none) .none) .none) .none))))))))))
 (q (r 0 [FA 21 0 5,LA 22 21,FA 23 2 4,WA 1 23 22]) (q (r 0 [FA 24 1 5,LA 25 24,UA 26 (b .add d (t 25) (k (i j 1))),FA 27 3 4,
 (WA 1 27 26)]) (q (r 0 [SA 28 4 4,WA 4 8 28]) .ret)))))
def c54l0:LCode:=q (q (r 0 [MA 7 6,FA 8 0 2,LA 9 8,UA 10 (n (t 9)),UA 11 (b .lss g (t 7) (t 10))]) (c (t 11) .skip (.exit 0))) (q (z 1 (q (r 0 [FA 14 0 2,
 (LA 15 14),MA 16 6,XA 17 5 15 16,FA 18 0 17,FA 19 0 18,FA 20 0 19,LA 21 20,MA 22 1,UA 23 (b .eql g (t 21) (t 22))])
 (c (t 23) (r 2 [MA 24 5,FA 25 0 2,LA 26 25,MA 27 6,XA 28 5 26 27,SA 29 5 28,UA 30 (.lits 0 5 1 [i j 0,i j 0,i j 0,.string ⟨#[]⟩,.string ⟨#[]⟩] [(0,(t 29))]),
 (UA 31 (.append 1 5 56 (t 24) (t 30))),MA 5 31]) .skip))) (r 0 [MA 12 6,UA 13 (b .add d (t 12) (k (i j 1))),MA 6 13]))
def c54:LCode:=(q (r 1 [UA 2 (u 0 (t 0)),UA 4 (m (k (.slice o 0 0)))]) (q (r 0 [UA 5 (m (k (.slice o 0 0)))]) (q (q (r 0 [CA 6 0]) (z 0 (.loop c54l0))) (q (r 0 [MA 32 5,
 (MA 4 32)]) .ret))))
def c60:LCode:=(q (r 0 [CA 4 0]) (q (z 0 (q (r 0 [MA 6 0,UA 7 (.nilc (t 6)),FA 8 4 7,LA 9 8,MA 5 9]) (c (t 5) (q (r 0 [CA 4 130])
 .ret) (q (r 0 [MA 11 1,UA 12 (b .lss g (t 11) (k (i j 0))),MA 13 12,GA 14 (m (t 1)) 13 g,GA 15 (m (t 0)) 13 g,GA 16 (.nilc (t 15)) 13 g,GA 17 (f 0 (t 16)) 13 g,
 (GA 18 (l o (t 17)) 13 g),GA 19 (n (t 18)) 13 g,GA 20 (b .geq g (t 14) (t 19)) 13 g,UA 21 (p (t 13) (k (y d)) (t 20)),MA 10 21]) (c (t 10) (q (r 0 [CA 4 1])
 .ret) .skip))))) (q (r 0 [CA 4 0]) .ret)))
def c63:LCode:=(q (r 0 [UA 2 (m (k (.slice o 0 0)))]) (q (r 0 [MA 3 0,UA 4 (.call 79 [(t 3),(.func 80)]),MA 2 4]) .ret))
def c72:LCode:=(q (r 1 [UA 5 (u 0 (t 2)),CA 6 0]) (q (r 0 [MA 8 0,MA 9 1,UA 10 (.call 60 [(t 8),(t 9)]),MA 7 10]) (q (q (r 0 [MA 11 7,UA 12 (b .eql g (t 11) (k (i j 0)))])
 (c (t 12) (r 0 [MA 13 0,UA 14 (.call 92 [(t 13)]),MA 7 14]) .skip)) (q (q (r 0 [MA 15 7,UA 16 (b .eql g (t 15) (k (i j 0)))]) (c (t 16) (.tree 2 (v 0 [1,2,3,14] (MA 17 0)
 (v 1 [2,3,14] (UA 18 (.nilc (t 17))) (v 2 [3,14] (FA 19 1 18) (v 3 [14] (LA 20 19) (v 4 [14] (MA 21 1) (v 5 [6,7,8,10,13,14] (MA 22 0) (v 6 [7,8,10,13,14] (UA 23 (.nilc (t 22)))
 (v 7 [8,10,13,14] (FA 24 1 23) (v 8 [10,13,14] (LA 25 24) (v 9 [10,13,14] (MA 26 1) (v 11 [12,13,14] (SA 28 64 5) (h 10 (UA 27 (.lookup (.int .i64) (.slice o 0 0) g (t 25) (t 26))) d
 (h 12 (UA 29 (.lits 0 64 1 (List.replicate 64 (.int .u8 0)) [(0,(t 28))])) d (h 13 (UA 30 (.append 1 64 64 (t 27) (t 29))) d (h 14 ⟨o,.mset (.int .i64) (t 20) (t 21) (t 30),o⟩ g .done .none) .none) .none)
 (h 12 (UA 29 (.lits 0 64 1 (List.replicate 64 (.int .u8 0)) [(0,(t 28))])) d (h 10 (UA 27 (.lookup (.int .i64) (.slice o 0 0) g (t 25) (t 26))) d (h 13 (UA 30 (.append 1 64 64 (t 27) (t 29))) d (h 14 ⟨o,.mset (.int .i64) (t 20) (t 21) (t 30),o⟩ g
 .done .none) .none) .none) .none)))))))))))))) .skip)) (q (r 0 [MA 31 7,MA 6 31]) .ret)))))
def c75l0:LCode:=q (q (r 0 [MA 4 3,FA 5 1 1,LA 6 5,UA 7 (b .lss g (t 4) (t 6))]) (c (t 7) .skip (.exit 0))) (q (z 1 (q (r 0 [MA 10 3,FA 11 2 1,
 (LA 12 11),UA 13 (b .neq g (t 10) (t 12)),MA 14 13,GA 15 (l (s 4) (t 1)) 14 d,GA 16 (m (t 3)) 14 d,GA 17 (.call 29 [(t 15),(t 16)]) 14 d,GA 18 (b .eql g (t 17) (k (i j 0))) 14 d,
 (UA 19 (p (t 14) (t 18) (k (y g))))]) (c (t 19) (q (r 0 [MA 20 3,MA 2 20]) .ret) .skip))) (r 0 [MA 8 3,UA 9 (b .add d (t 8) (k (i j 1))),MA 3 9]))
def c75:LCode:=(q (r 1 [UA 1 (u 0 (t 0)),CA 2 0]) (q (q (r 0 [CA 3 0]) (z 0 (.loop c75l0))) (q (r 0 [UA 2 (m (k (.int .i64 (-1))))]) .ret)))
def c94l0:LCode:=q (r 0 [UA 23 (b .lss g (t 22) (k (i j 64)))]) (q (c (t 23) .skip (.exit 0)) (q (z 1 (q (r 0 [MA 24 22,UA 25 (.prim (.aidx 64 1 g) [(t 21),(t 22)]),MA 8 24,
 (MA 9 25)]) (q (.tree 0 (v 0 [1,5,18,20,24,25] (UA 26 (.prim (.pidx 4 1) [(t 7),(k (i j 3))])) (v 1 [5,18,20,24,25] (LA 27 26) (v 2 [3,4,5,18,20,24,25] (UA 28 (.prim (.pidx 4 1) [(t 7),(k (i j 0))]))
 (v 3 [4,5,18,20,24,25] (LA 29 28) (v 6 [7,10,17,18,20,24,25] (UA 32 (.prim (.pidx 4 1) [(t 7),(k (i j 0))])) (v 7 [10,17,18,20,24,25] (LA 33 32) (v 8 [9,10,17,18,20,24,25] (UA 34 (.prim (.pidx 4 1) [(t 7),(k (i j 1))]))
 (v 9 [10,17,18,20,24,25] (LA 35 34) (v 10 [17,18,20,24,25] (UA 36 (b .and g (t 33) (t 35))) (v 11 [12,13,16,17,18,20,24,25] (UA 37 (.prim (.pidx 4 1) [(t 7),(k (i j 0))])) (v 12 [13,16,17,18,20,24,25] (LA 38 37)
 (v 13 [16,17,18,20,24,25] (UA 39 (.prim .cpl [(t 38)])) (v 14 [15,16,17,18,20,24,25] (UA 40 (.prim (.pidx 4 1) [(t 7),(k (i j 2))])) (v 15 [16,17,18,20,24,25] (LA 41 40) (v 16 [17,18,20,24,25] (UA 42 (b .and g (t 39) (t 41)))
 (v 17 [18,20,24,25] (UA 43 (b .xor g (t 36) (t 42))) (v 19 [20,24,25] (MA 45 9) (v 21 [22,23,24,25] (MA 47 8) (v 22 [23,24,25] (UA 48 (.prim (.pidx 64 1) [(t 5),(t 47)])) (v 23 [24,25] (LA 49 48)
 (h 4 (UA 30 (.call 111 [(t 29),(k (i j 6)),(k (i j 11)),(k (i j 25))])) d (v 5 [18,20,24,25] (UA 31 (b .add g (t 27) (t 30))) (v 18 [20,24,25] (UA 44 (b .add g (t 31) (t 43))) (v 20 [24,25] (UA 46 (b .add g (t 44) (t 45)))
 (v 24 [25] (UA 50 (b .add g (t 46) (t 49))) (v 25 [] (MA 10 50) .done))))) .none)))))))))))))))))))))) (q (.tree 0 (v 0 [1,2,20,21] (UA 51 (.prim (.pidx 4 1) [(t 6),(k (i j 0))])) (v 1 [2,20,21] (LA 52 51)
 (v 3 [4,7,13,19,20,21] (UA 54 (.prim (.pidx 4 1) [(t 6),(k (i j 0))])) (v 4 [7,13,19,20,21] (LA 55 54) (v 5 [6,7,13,19,20,21] (UA 56 (.prim (.pidx 4 1) [(t 6),(k (i j 1))])) (v 6 [7,13,19,20,21] (LA 57 56)
 (v 7 [13,19,20,21] (UA 58 (b .and g (t 55) (t 57))) (v 8 [9,12,13,19,20,21] (UA 59 (.prim (.pidx 4 1) [(t 6),(k (i j 0))])) (v 9 [12,13,19,20,21] (LA 60 59) (v 10 [11,12,13,19,20,21] (UA 61 (.prim (.pidx 4 1) [(t 6),(k (i j 2))]))
 (v 11 [12,13,19,20,21] (LA 62 61) (v 12 [13,19,20,21] (UA 63 (b .and g (t 60) (t 62))) (v 13 [19,20,21] (UA 64 (b .xor g (t 58) (t 63))) (v 14 [15,18,19,20,21] (UA 65 (.prim (.pidx 4 1) [(t 6),(k (i j 1))]))
 (v 15 [18,19,20,21] (LA 66 65) (v 16 [17,18,19,20,21] (UA 67 (.prim (.pidx 4 1) [(t 6),(k (i j 2))])) (v 17 [18,19,20,21] (LA 68 67) (v 18 [19,20,21] (UA 69 (b .and g (t 66) (t 68))) (v 19 [20,21] (UA 70 (b .xor g (t 64) (t 69)))
 (h 2 (UA 53 (.call 111 [(t 52),(k (i j 2)),(k (i j 13)),(k (i j 22))])) d (v 20 [21] (UA 71 (b .add g (t 53) (t 70))) (v 21 [] (MA 11 71) .done)) .none))))))))))))))))))))) (q (r 0 [UA 72 (.prim (.pidx 4 1) [(t 6),(k (i j 3))]),
 (LA 73 72),MA 74 10,UA 75 (b .add g (t 73) (t 74)),UA 76 (.prim (.pidx 4 1) [(t 7),(k (i j 0))]),LA 77 76,UA 78 (.prim (.pidx 4 1) [(t 7),(k (i j 1))]),LA 79 78,
 (UA 80 (.prim (.pidx 4 1) [(t 7),(k (i j 2))])),LA 81 80,UA 82 (.build [.int .u32 0,.int .u32 0,.int .u32 0,.int .u32 0] [(0,1,(t 75)),(1,1,(t 77)),(2,1,(t 79)),(3,1,(t 81))]),WA 4 7 82])
 (r 0 [MA 83 10,MA 84 11,UA 85 (b .add g (t 83) (t 84)),UA 86 (.prim (.pidx 4 1) [(t 6),(k (i j 0))]),LA 87 86,UA 88 (.prim (.pidx 4 1) [(t 6),(k (i j 1))]),LA 89 88,
 (UA 90 (.prim (.pidx 4 1) [(t 6),(k (i j 2))])),LA 91 90,UA 92 (.build [.int .u32 0,.int .u32 0,.int .u32 0,.int .u32 0] [(0,1,(t 85)),(1,1,(t 87)),(2,1,(t 89)),(3,1,(t 91))]),WA 4 6 92]))))))
 (r 0 [UA 93 (b .add d (t 22) (k (i j 1))),MA 22 93])))
def c94l1:LCode:=q (r 0 [UA 95 (b .lss g (t 94) (k (i j 4)))]) (q (c (t 95) .skip (.exit 2)) (q (z 3 (q (r 0 [MA 96 94,MA 12 96]) (q (.tail 8 0 [MA 97 12,UA 98 (.prim (.pidx 8 1) [(t 2),(t 97)]),
 (LA 99 98),MA 100 12,UA 101 (.prim (.pidx 4 1) [(t 6),(t 100)]),LA 102 101,UA 103 (b .add g (t 99) (t 102)),UA 104 (.prim (.pidx 8 1) [(t 2),(t 97)]),WA 1 104 103])
 (.tail 9 0 [MA 105 12,UA 106 (b .add d (t 105) (k (i j 4))),UA 107 (.prim (.pidx 8 1) [(t 2),(t 106)]),LA 108 107,MA 109 12,UA 110 (.prim (.pidx 4 1) [(t 7),(t 109)]),
 (LA 111 110),UA 112 (b .add g (t 108) (t 111)),UA 113 (.prim (.pidx 8 1) [(t 2),(t 106)]),WA 1 113 112])))) (r 0 [UA 114 (b .add d (t 94) (k (i j 1))),MA 94 114])))
def c94:LCode:=(q (r 2 [UA 2 (u 0 (t 0)),UA 4 (.alloc 1 (.agg #[.int .u32 0,.int .u32 0,.int .u32 0,.int .u32 0,.int .u32 0,.int .u32 0,.int .u32 0,.int .u32 0]))]) (q (r 1 [MA 13 1,
 (UA 14 (.call 110 [(t 13)])),UA 5 (.alloc 0 (.agg (yaa 64 (.int .u32 0)))),WA 64 5 14]) (q (.tree 2 (v 0 [1,2,8,9] (UA 15 (.prim (.pslc 8 g d g) [(t 2),(k (i j 4))])) (v 1 [2,8,9] (UA 16 (.prim (.s2a 4) [(t 15)]))
 (v 2 [8,9] (SA 17 4 16) (v 3 [4,5,9] (UA 18 (.prim (.pslc 8 d g g) [(t 2),(k (i j 4))])) (v 4 [5,9] (UA 19 (.prim (.s2a 4) [(t 18)])) (v 5 [9] (SA 20 4 19) (h 6 (UA 6 (.alloc 0 (.agg #[.int .u32 0,.int .u32 0,.int .u32 0,.int .u32 0]))) d
 (h 7 (UA 7 (.alloc 1 (.agg #[.int .u32 0,.int .u32 0,.int .u32 0,.int .u32 0]))) d (h 8 (WA 4 6 17) d (h 9 (WA 4 7 20) g .done .none) .none) .none) (h 7 (UA 7 (.alloc 1 (.agg #[.int .u32 0,.int .u32 0,.int .u32 0,.int .u32 0]))) d
 (h 6 (UA 6 (.alloc 0 (.agg #[.int .u32 0,.int .u32 0,.int .u32 0,.int .u32 0]))) d (h 8 (WA 4 6 17) d (h 9 (WA 4 7 20) g .done .none) .none) .none) .none))))))))) (q (q (r 0 [UA 21 (.eff (.gload 0 64) 0 []),
 (CA 22 0)]) (z 0 (.loop c94l0))) (q (q (r 0 [CA 94 0]) (z 2 (.loop c94l1))) (q (r 0 [SA 115 8 2,WA 8 4 115]) .ret))))))
def c95l0:LCode:=q (r 0 [UA 12 (b .lss g (t 11) (t 10))]) (q (c (t 12) .skip (.exit 0)) (q (z 1 (q (r 0 [MA 13 11,XA 14 1 9 11,LA 15 14,MA 7 13,MA 8 15])
 (q (z 2 (q (q (r 0 [MA 25 7,UA 26 (b .eql g (t 25) (k (i j 9))),MA 27 26,GA 28 (m (t 8)) 27 d,GA 29 (b .gtr g (t 28) (k (.int .u8 1))) 27 d,UA 30 (p (t 27) (t 29) (k (y g))),
 (MA 24 30)]) (c (t 24) .skip (r 0 [MA 31 7,UA 32 (b .gtr g (t 31) (k (i j 0))),MA 33 32,GA 34 (m (t 8)) 33 d,GA 35 (b .eql g (t 34) (k (.int .u8 0))) 33 d,UA 36 (p (t 33) (t 35) (k (y g))),
 (MA 24 36)]))) (c (t 24) (q (r 0 [CA 2 0,CA 3 0,CA 4 11]) .ret) (r 0 [MA 16 5,MA 17 8,UA 18 (b .and g (t 17) (k (.int .u8 127))),
 (UA 19 (.conv d .u64 (t 18))),MA 20 7,UA 21 (b .mul d (k (i j 7)) (t 20)),UA 22 (.shift .shl (t 19) (t 21)),UA 23 (b .or g (t 16) (t 22)),MA 5 23])))) (q (r 0 [MA 37 8,
 (UA 38 (b .lss g (t 37) (k (.int .u8 128))))]) (c (t 38) (q (r 0 [MA 39 7,UA 40 (b .add d (t 39) (k (i j 1))),MA 6 40]) (.exit 0)) .skip))))) (r 0 [UA 41 (b .add d (t 11) (k (i j 1))),
 (MA 11 41)])))
def c95:LCode:=(q (r 0 [CA 2 0,CA 3 0,CA 4 0]) (q (r 0 [UA 5 (m (k (.int .u64 0)))]) (q (r 0 [CA 6 0]) (q .skip (q (q (r 0 [MA 9 0,
 (UA 10 (n (t 9))),CA 11 0]) (z 0 (.loop c95l0))) (q (q (r 0 [MA 42 6,UA 43 (b .eql g (t 42) (k (i j 0)))]) (c (t 43) (q (r 0 [CA 2 0,CA 3 0,
 (CA 4 10)]) .ret) .skip)) (q (r 0 [MA 44 5,UA 45 (.shift .shr (t 44) (k (.int .u64 1))),UA 46 (.conv g .i64 (t 45)),MA 47 5,UA 48 (b .and g (t 47) (k (.int .u64 1))),
 (UA 49 (.conv g .i64 (t 48))),UA 50 (.neg (t 49)),UA 51 (b .xor g (t 46) (t 50)),MA 52 6,MA 2 51,MA 3 52,CA 4 0]) .ret)))))))
def c111:LCode:=(q (r 0 [UA 8 (m (k (.int .u32 0)))]) (q (r 0 [MA 9 0,MA 10 1,UA 11 (.neg (t 10)),UA 12 (.call 116 [(t 9),(t 11)]),MA 13 0,MA 14 2,UA 15 (.neg (t 14)),
 (UA 16 (.call 116 [(t 13),(t 15)])),UA 17 (b .xor g (t 12) (t 16)),MA 18 0,MA 19 3,UA 20 (.neg (t 19)),UA 21 (.call 116 [(t 18),(t 20)]),UA 22 (b .xor g (t 17) (t 21)),MA 8 22])
 .ret))
open Go Go.Fx Go.Proofs
theorem lw4:rlF Tryz.prog 4 c4=some (c4,[.tmp 2],29):=by kernel_rfl
theorem lw11:rlF Tryz.prog 11 c11=some (c11,[.tmp 2],24):=by kernel_rfl
theorem lw12:rlF Tryz.prog 12 c12=some (c12,[.tmp 2],8):=by kernel_rfl
theorem lw13:rlF Tryz.prog 13 c13=some (c13,[.tmp 2],73):=by kernel_rfl
theorem lw22:rlF Tryz.prog 22 c22=some (c22,[.tmp 6],125):=by kernel_rfl
theorem lw27:rlF Tryz.prog 27 c27=some (c27,[.tmp 2],8):=by kernel_rfl
theorem lw34:rlF Tryz.prog 34 c34=some (c34,[.cell 6 (some 512),.tmp 7],35):=by kernel_rfl
theorem lw40:rlF Tryz.prog 40 c40=some (c40,[.cell 6 (some 512)],43):=by kernel_rfl
theorem lw43:rlF Tryz.prog 43 c43=some (c43,[.tmp 4],19):=by kernel_rfl
theorem lw44:rlF Tryz.prog 44 c44=some (c44,[.tmp 3],8):=by kernel_rfl
theorem lw51:rlF Tryz.prog 51 c51=some (c51,[.cell 8 (some 4)],29):=by kernel_rfl
theorem lw54:rlF Tryz.prog 54 c54=some (c54,[.tmp 4],33):=by kernel_rfl
theorem lw60:rlF Tryz.prog 60 c60=some (c60,[.tmp 4],22):=by kernel_rfl
theorem lw63:rlF Tryz.prog 63 c63=some (c63,[.tmp 2],5):=by kernel_rfl
theorem lw72:rlF Tryz.prog 72 c72=some (c72,[.tmp 6],32):=by kernel_rfl
theorem lw75:rlF Tryz.prog 75 c75=some (c75,[.tmp 2],21):=by kernel_rfl
theorem lw94:rlF Tryz.prog 94 c94=some (c94,[.cell 4 (some 8)],116):=by kernel_rfl
theorem lw95:rlF Tryz.prog 95 c95=some (c95,[.tmp 2,.tmp 3,.tmp 4],53):=by kernel_rfl
theorem lw111:rlF Tryz.prog 111 c111=some (c111,[.tmp 8],23):=by kernel_rfl
end Go.Fx.K
namespace Go.Fx.K
open Go Go.Fx
open Go.Operand renaming tmp → t, const → k
open Go.Value renaming int → i, bool → y
open Go.IntKind renaming i64 → j
open Option renaming some → s, none → o
open Go.Fx.LOp renaming mov → m, load → l, fld → f, bin → b, idx → x, store → w, pick → p, len → n, box → u
open Go.Fx.LCode renaming seq → q, reg → r, cond → c, block → z
open Go.Fx.LPlan renaming take → v, alt → h
open Bool renaming false → g, true → d
def c3l0:LCode:=q (q (r 0 [MA 19 7,MA 20 1,UA 21 (n (t 20)),UA 22 (b .lss g (t 19) (t 21))]) (c (t 22) .skip (.exit 0))) (q (z 1 (q (r 0 [MA 25 1,MA 26 7,
 (XA 27 5 25 26),FA 28 0 27,LA 29 28,UA 30 (b .rem g (t 29) (k (.int .u8 6))),UA 31 (b .lss g (t 30) (k (.int .u8 4)))]) (c (t 31) (q (r 0 [MA 32 1,MA 33 7,
 (XA 34 5 32 33),SA 35 5 34,UA 36 (.call 7 [(t 6),(t 35)]),MA 8 36]) (q (.tree 0 (v 0 [1,2,3,4,5,6,7,8,9,10,11,12,13,14,15,16,17,18,19,20,21,22,23,24,25,26,27,28] (MA 37 8)
 (v 1 [2,3,4,5,6,7,8,9,10,11,12,13,14,15,16,17,18,19,20,21,22,23,24,25,26,27,28] (UA 38 (.not (t 37))) (v 2 [3,4,5,6,7,8,9,10,11,12,13,14,15,16,17,18,19,20,21,22,23,24,25,26,27,28] (MA 39 38) (v 3 [4,8,9,10,11,12,13,14,15,16,17,18,19,20,21,22,23,24,25,26,27,28] (GA 40 (f 2 (t 6)) 39 g)
 (v 4 [8,9,10,11,12,13,14,15,16,17,18,19,20,21,22,23,24,25,26,27,28] (GA 41 (l (s 4) (t 40)) 39 g) (v 5 [6,7,8,9,10,11,12,13,14,15,16,17,18,19,20,21,22,23,24,25,26,27,28] (GA 42 (f 1 (t 6)) 39 g)
 (v 6 [7,8,9,10,11,12,13,14,15,16,17,18,19,20,21,22,23,24,25,26,27,28] (GA 43 (l o (t 42)) 39 g) (h 7 (GA 44 (.call 9 [(t 43)]) 39 g) d (h 8 (GA 45 (.call 8 [(t 41),(t 44)]) 39 g) g (v 9 [10,11,12,13,14,15,16,17,18,19,20,21,22,23,24,25,26,27,28] (GA 46 (.not (t 45)) 39 g)
 (v 10 [11,12,13,14,15,16,17,18,19,20,21,22,23,24,25,26,27,28] (UA 47 (p (t 39) (k (y d)) (t 46))) (v 11 [12,13,14,15,16,17,18,19,20,21,22,23,24,25,26,27,28] (MA 48 47) (v 12 [13,14,17,18,19,20,21,22,23,24,25,26,27,28] (GA 49 (f 1 (t 6)) 48 g)
 (v 13 [14,17,18,19,20,21,22,23,24,25,26,27,28] (GA 50 (l o (t 49)) 48 g) (v 15 [16,17,18,19,20,21,22,23,24,25,26,27,28] (GA 52 (f 2 (t 6)) 48 g) (v 16 [17,18,19,20,21,22,23,24,25,26,27,28] (GA 53 (l (s 4) (t 52)) 48 g)
 (h 14 (GA 51 (.call 10 [(t 50)]) 48 g) d (h 17 (GA 54 (.call 11 [(t 53)]) 48 g) g (v 18 [19,20,21,22,23,24,25,26,27,28] (GA 55 (b .neq g (t 51) (t 54)) 48 g) (v 19 [20,21,22,23,24,25,26,27,28] (UA 56 (p (t 48) (k (y d)) (t 55)))
 (v 20 [21,22,23,24,25,26,27,28] (MA 57 56) (v 21 [22,23,27,28] (GA 58 (f 1 (t 6)) 57 g) (v 22 [23,27,28] (GA 59 (l o (t 58)) 57 g) (v 24 [25,26,27,28] (GA 61 (f 2 (t 6)) 57 g) (v 25 [26,27,28] (GA 62 (f 1 (t 61)) 57 g)
 (v 26 [27,28] (GA 63 (l o (t 62)) 57 g) (h 23 (GA 60 (.call 12 [(t 59)]) 57 g) d (v 27 [28] (GA 64 (b .neq g (t 60) (t 63)) 57 g) (v 28 [] (UA 65 (p (t 57) (k (y d)) (t 64))) .done)) .none)))))))))
 .none) .none)))))))) .none) .none))))))))) (c (t 65) (q (r 0 [UA 4 (m (k (y g)))]) .ret) .skip))) .skip))) (r 0 [MA 23 7,UA 24 (b .add d (t 23) (k (i j 1))),MA 7 24]))
def c3:LCode:=(q (r 0 [UA 4 (m (k (y g)))]) (q (r 0 [MA 9 1,UA 10 (.call 4 [(t 9)]),MA 5 10]) (q (q (r 0 [MA 11 5,UA 12 (.not (t 11))]) (c (t 12) (q (r 0 [UA 13 (.call 5 []),
 (MA 4 13)]) .ret) .skip)) (q (r 1 [MA 14 0,UA 15 (.conv d .i64 (t 14)),UA 16 (b .rem g (t 15) (k (i j 5))),UA 17 (b .add d (k (i j 1)) (t 16)),UA 18 (.call 6 [(t 17)]),UA 6 (.alloc 0 (.agg #[.pointer o,.pointer o,.slice o 0 0,i j 0,i j 0,i j 0,.slice o 0 0,.slice o 0 0,i j 0])),
 (WA 9 6 18)]) (q (q (r 0 [CA 7 0]) (z 0 (.loop c3l0))) (q (r 0 [UA 66 (.call 5 []),MA 67 66,GA 68 (.call 13 [(t 6)]) 67 d,UA 69 (p (t 67) (t 68) (k (y g))),
 (MA 4 69)]) .ret))))))
def c5:LCode:=(q (r 0 [UA 0 (m (k (y g)))]) (q (r 0 [UA 14 (.call 14 [(k (i j 300))]),MA 1 14]) (q (q (r 0 [MA 15 1,UA 16 (.prim (.peq g) [(t 15),(k (.pointer o))])]) (c (t 16)
 (q (r 0 [UA 0 (m (k (y g)))]) .ret) .skip)) (q (r 0 [MA 18 1,UA 19 (.call 15 [(t 18)]),MA 17 19,UA 20 (.ext (t 17) 0),UA 21 (.ext (t 17) 1),MA 2 20,MA 3 21])
 (q (q (r 0 [MA 22 3,UA 23 (b .neq g (t 22) (k (i j 0))),MA 24 23,GA 25 (m (t 2)) 24 g,GA 26 (.prim (.peq g) [(t 25),(k (.pointer o))]) 24 g,UA 27 (p (t 24) (k (y d)) (t 26)),
 (MA 28 27),GA 29 (m (t 2)) 28 g,GA 30 (.call 12 [(t 29)]) 28 g,GA 31 (b .neq g (t 30) (k (i j 2))) 28 g,UA 32 (p (t 28) (k (y d)) (t 31)),MA 33 32,GA 34 (m (t 2)) 33 g,
 (GA 35 (.call 10 [(t 34)]) 33 g),GA 36 (b .neq g (t 35) (k (i j 2))) 33 g,UA 37 (p (t 33) (k (y d)) (t 36)),MA 38 37,GA 39 (m (t 2)) 38 g,GA 40 (.call 9 [(t 39)]) 38 g,
 (GA 41 (n (t 40)) 38 g),GA 42 (b .neq g (t 41) (k (i j 0))) 38 g,UA 43 (p (t 38) (k (y d)) (t 42))]) (c (t 43) (q (r 0 [UA 0 (m (k (y g)))]) .ret) .skip)) (q (r 1 [MA 45 2,UA 46 (.call 16 [(t 45),(k (.string ⟨#[107]⟩)),(k (.string ⟨#[97,98,99]⟩))]),
 (MA 44 46),UA 47 (.ext (t 44) 0),UA 48 (.ext (t 44) 1),UA 4 (.alloc 0 (.agg #[i j 0,i j 0,i j 0])),WA 3 4 47,MA 5 48]) (q (r 2 [MA 50 2,UA 51 (.mk 0 1 1 [.int .u8 0] (k (i j 361)) (k (i j 361))),
 (UA 52 (.eff .b2s 0 [(t 51)])),UA 53 (.call 16 [(t 50),(k (.string ⟨#[107]⟩)),(t 52)]),MA 49 53,UA 54 (.ext (t 49) 0),UA 55 (.ext (t 49) 1),UA 6 (.alloc 1 (.agg #[i j 0,i j 0,i j 0])),
 (WA 3 6 54),MA 7 55]) (q (r 0 [MA 57 2,SA 58 3 4,UA 59 (.call 17 [(t 57),(t 58)]),MA 56 59,UA 60 (.ext (t 56) 0),UA 61 (.ext (t 56) 1),UA 62 (.ext (t 56) 2),
 (MA 8 60),MA 9 61,MA 10 62]) (q (q (r 0 [MA 63 5,UA 64 (b .neq g (t 63) (k (i j 0))),MA 65 64,GA 66 (m (t 7)) 65 g,GA 67 (b .neq g (t 66) (k (i j 2))) 65 g,
 (UA 68 (p (t 65) (k (y d)) (t 67))),MA 69 68,GA 70 (m (t 10)) 69 g,GA 71 (b .neq g (t 70) (k (i j 0))) 69 g,UA 72 (p (t 69) (k (y d)) (t 71)),MA 73 72,GA 74 (f 0 (t 4)) 73 g,
 (GA 75 (l o (t 74)) 73 g),GA 76 (b .neq g (t 75) (k (i j 0))) 73 g,UA 77 (p (t 73) (k (y d)) (t 76)),MA 78 77,GA 79 (f 1 (t 4)) 78 g,GA 80 (l o (t 79)) 78 g,GA 81 (b .neq g (t 80) (k (i j 0))) 78 g,
 (UA 82 (p (t 78) (k (y d)) (t 81))),MA 83 82,GA 84 (m (t 8)) 83 g,GA 85 (.prim (.sbin .neq) [(t 84),(k (.string ⟨#[107]⟩))]) 83 g,UA 86 (p (t 83) (k (y d)) (t 85)),MA 87 86,
 (GA 88 (m (t 9)) 87 g),GA 89 (.prim (.sbin .neq) [(t 88),(k (.string ⟨#[97,98,99]⟩))]) 87 g,UA 90 (p (t 87) (k (y d)) (t 89)),MA 91 90,GA 92 (m (t 2)) 91 g,GA 93 (.call 10 [(t 92)]) 91 g,
 (GA 94 (b .neq g (t 93) (k (i j 1))) 91 g),UA 95 (p (t 91) (k (y d)) (t 94)),MA 96 95,GA 97 (m (t 2)) 96 g,GA 98 (.call 9 [(t 97)]) 96 g,GA 99 (n (t 98)) 96 g,GA 100 (b .neq g (t 99) (k (i j 1))) 96 g,
 (UA 101 (p (t 96) (k (y d)) (t 100)))]) (c (t 101) (q (r 0 [UA 0 (m (k (y g)))]) .ret) .skip)) (q (r 0 [MA 102 1,UA 103 (.call 18 [(t 102),(k (.slice o 0 0))]),MA 1 103]) (q (r 0 [
 (MA 105 1),UA 106 (.call 15 [(t 105)]),MA 104 106,UA 107 (.ext (t 104) 0),UA 108 (.ext (t 104) 1),MA 2 107,MA 3 108]) (q (q (r 0 [MA 109 3,UA 110 (b .neq g (t 109) (k (i j 0))),
 (MA 111 110),GA 112 (m (t 2)) 111 g,GA 113 (.call 9 [(t 112)]) 111 g,GA 114 (n (t 113)) 111 g,GA 115 (b .neq g (t 114) (k (i j 1))) 111 g,UA 116 (p (t 111) (k (y d)) (t 115))])
 (c (t 116) (q (r 0 [UA 0 (m (k (y g)))]) .ret) .skip)) (q (r 1 [MA 118 2,UA 119 (.call 16 [(t 118),(k (.string ⟨#[108]⟩)),(k (.string ⟨#[]⟩))]),MA 117 119,UA 120 (.ext (t 117) 0),
 (UA 121 (.ext (t 117) 1)),UA 11 (.alloc 0 (.agg #[i j 0,i j 0,i j 0])),WA 3 11 120,MA 12 121]) (q (r 0 [MA 122 2,UA 123 (.call 19 [(t 122),(k (i j 0))]),MA 13 123])
 (q (r 0 [MA 125 1,UA 126 (.call 18 [(t 125),(k (.slice o 0 0))]),UA 127 (.call 15 [(t 126)]),MA 124 127,UA 128 (.ext (t 124) 0),UA 129 (.ext (t 124) 1),MA 2 128,
 (MA 3 129)]) (q (r 0 [MA 130 12,UA 131 (b .eql g (t 130) (k (i j 0))),MA 132 131,GA 133 (m (t 13)) 132 d,GA 134 (b .eql g (t 133) (k (i j 0))) 132 d,UA 135 (p (t 132) (t 134) (k (y g))),
 (MA 136 135),GA 137 (f 0 (t 11)) 136 d,GA 138 (l o (t 137)) 136 d,GA 139 (b .eql g (t 138) (k (i j 1))) 136 d,UA 140 (p (t 136) (t 139) (k (y g))),MA 141 140,GA 142 (f 1 (t 11)) 141 d,
 (GA 143 (l o (t 142)) 141 d),GA 144 (b .eql g (t 143) (k (i j 0))) 141 d,UA 145 (p (t 141) (t 144) (k (y g))),MA 146 145,GA 147 (m (t 3)) 146 d,GA 148 (b .eql g (t 147) (k (i j 0))) 146 d,
 (UA 149 (p (t 146) (t 148) (k (y g)))),MA 150 149,GA 151 (m (t 2)) 150 d,GA 152 (.call 9 [(t 151)]) 150 d,GA 153 (n (t 152)) 150 d,GA 154 (b .eql g (t 153) (k (i j 1))) 150 d,
 (UA 155 (p (t 150) (t 154) (k (y g)))),MA 156 155,GA 157 (m (t 2)) 156 d,GA 158 (.call 9 [(t 157)]) 156 d,GA 159 (x 4 (t 158) (k (i j 0))) 156 d,GA 160 (f 3 (t 159)) 156 d,
 (GA 161 (l o (t 160)) 156 d),GA 162 (.prim (.sbin .eql) [(t 161),(k (.string ⟨#[108]⟩))]) 156 d,UA 163 (p (t 156) (t 162) (k (y g))),MA 0 163]) .ret))))))))))))))))
def c7:LCode:=(q (r 1 [UA 3 (u 0 (t 1)),UA 4 (m (k (y g)))]) (q (r 0 [FA 6 1 3,LA 7 6,UA 8 (.conv d .i64 (t 7)),UA 9 (b .rem g (t 8) (k (i j 6))),MA 5 9]) (q
 (q (r 0 [FA 10 0 3,LA 11 10,UA 12 (b .rem g (t 11) (k (.int .u8 6)))]) (z 0 (q (r 0 [UA 14 (b .eql g (t 12) (k (.int .u8 0))),MA 13 14]) (c (t 13) (q (r 0 [MA 15 0,
 (UA 16 (.nilc (t 15))),FA 17 0 16,LA 18 17,UA 19 (.call 21 [(t 18)]),MA 20 19,GA 21 (m (t 0)) 20 g,GA 22 (f 3 (t 3)) 20 g,GA 23 (l o (t 22)) 20 g,GA 24 (f 4 (t 3)) 20 g,
 (GA 25 (l o (t 24)) 20 g),GA 26 (.call 22 [(t 21),(t 23),(t 25)]) 20 g,UA 27 (p (t 20) (k (y d)) (t 26)),MA 4 27]) .ret) (q (r 0 [UA 29 (b .eql g (t 12) (k (.int .u8 1))),MA 28 29])
 (c (t 28) (q (r 0 [MA 30 0,UA 31 (.call 13 [(t 30)]),MA 4 31]) .ret) (q (r 0 [UA 33 (b .eql g (t 12) (k (.int .u8 2))),MA 32 33]) (c (t 32) (q (r 0 [MA 34 0,
 (UA 35 (.nilc (t 34))),FA 36 0 35,LA 37 36,UA 38 (.call 21 [(t 37)]),MA 39 38,GA 40 (m (t 0)) 39 g,GA 41 (m (t 5)) 39 g,GA 42 (.call 23 [(t 40),(t 41)]) 39 g,
 (UA 43 (p (t 39) (k (y d)) (t 42))),MA 4 43]) .ret) (q (r 0 [UA 45 (b .eql g (t 12) (k (.int .u8 3))),MA 44 45]) (c (t 44) (q (r 0 [MA 46 0,UA 47 (.nilc (t 46)),FA 48 0 47,
 (LA 49 48),UA 50 (.call 21 [(t 49)]),MA 51 50,GA 52 (m (t 0)) 51 g,GA 53 (m (t 5)) 51 g,GA 54 (.call 24 [(t 52),(t 53)]) 51 g,UA 55 (p (t 51) (k (y d)) (t 54)),
 (MA 4 55)]) .ret) (q (r 0 [UA 57 (b .eql g (t 12) (k (.int .u8 4))),MA 56 57]) (c (t 56) (q (r 0 [MA 58 0,FA 59 2 3,LA 60 59,UA 61 (.conv d .i64 (t 60)),
 (UA 62 (.call 25 [(t 58),(t 61)])),MA 4 62]) .ret) .skip)))))))))))) (q (.tail 8 0 [MA 63 0,UA 64 (.nilc (t 63)),FA 65 0 64,LA 66 65,FA 67 2 3,LA 68 67,
 (UA 69 (.conv d .i64 (t 68))),UA 70 (b .rem g (t 69) (k (i j 40))),UA 71 (.call 26 [(t 66),(t 70)])]) (q (r 0 [UA 4 (m (k (y d)))]) .ret)))))
def c24l0:LCode:=q (q (r 0 [MA 93 12,MA 94 7,UA 95 (n (t 94)),UA 96 (b .lss g (t 93) (t 95))]) (c (t 96) .skip (.exit 0))) (q (z 1 (q (.tree 1 (v 0 [12,14] (SA 99 4 11)
 (v 1 [3,4,5,6,12,14] (MA 100 7) (v 2 [3,4,5,6,12,14] (MA 101 12) (v 3 [4,5,6,12,14] (XA 102 5 100 101) (v 4 [5,6,12,14] (FA 103 0 102) (v 5 [6,12,14] (FA 104 3 103)
 (v 6 [12,14] (LA 105 104) (v 7 [9,10,11,12,14] (MA 106 7) (v 8 [9,10,11,12,14] (MA 107 12) (v 9 [10,11,12,14] (XA 108 5 106 107) (v 10 [11,12,14] (FA 109 4 108)
 (v 11 [12,14] (LA 110 109) (h 12 (UA 111 (.call 50 [(t 99),(t 105),(t 110)])) g (h 13 (UA 13 (.alloc 0 (.agg #[i j 0,i j 0,i j 0]))) d (h 14 (WA 3 13 111) g .done .none) .none) (h 13 (UA 13 (.alloc 0 (.agg #[i j 0,i j 0,i j 0]))) d
 (h 12 (UA 111 (.call 50 [(t 99),(t 105),(t 110)])) g (h 14 (WA 3 13 111) g .done .none) .none) .none))))))))))))))) (q (q (r 0 [FA 112 2 13,LA 113 112,UA 114 (b .neq g (t 113) (k (i j 0)))])
 (c (t 114) (q (r 0 [MA 115 0,SA 116 4 11,UA 117 (.nilc (t 115)),FA 118 2 117,WA 4 118 116]) (q (r 0 [MA 119 9,FA 120 2 13,LA 121 120,
 (UA 122 (b .eql g (t 119) (t 121))),MA 123 122,GA 124 (l (s 4) (t 11)) 123 d,GA 125 (m (t 10)) 123 d,GA 126 (.call 8 [(t 124),(t 125)]) 123 d,UA 127 (p (t 123) (t 126) (k (y g))),
 (MA 4 127)]) .ret)) .skip)) (q (r 0 [FA 128 0 11,LA 129 128,UA 130 (n (t 129)),MA 14 130]) (q (q (r 0 [MA 131 14,MA 132 10,UA 133 (n (t 132)),
 (UA 134 (b .geq g (t 131) (t 133))),MA 135 134,GA 136 (m (t 9)) 135 d,GA 137 (b .neq g (t 136) (k (i j 0))) 135 d,UA 138 (p (t 135) (t 137) (k (y g)))]) (c (t 138) (q (r 0 [UA 4 (m (k (y g)))])
 .ret) .skip)) (q (r 1 [MA 139 10,MA 140 8,MA 141 12,MA 142 14,MA 143 9,UA 144 (.call 55 [(t 139),(t 140),(t 141),(t 142),(t 143)]),UA 15 (.alloc 0 (.agg #[i j 0,i j 0,i j 0])),
 (WA 3 15 144)]) (q (q (r 0 [FA 145 0 15,LA 146 145,FA 147 0 13,LA 148 147,UA 149 (b .neq g (t 146) (t 148)),MA 150 149,GA 151 (f 1 (t 15)) 150 g,
 (GA 152 (l o (t 151)) 150 g),GA 153 (f 1 (t 13)) 150 g,GA 154 (l o (t 153)) 150 g,GA 155 (b .neq g (t 152) (t 154)) 150 g,UA 156 (p (t 150) (k (y d)) (t 155))]) (c (t 156) (q (r 0 [
 (UA 4 (m (k (y g))))]) .ret) .skip)) (.tail 13 0 [SA 157 4 11,SA 158 3 15,MA 159 7,MA 160 12,XA 161 5 159 160,FA 162 0 161,FA 163 3 162,
 (LA 164 163),MA 165 7,MA 166 12,XA 167 5 165 166,FA 168 4 167,LA 169 168,UA 170 (.call 51 [(t 157),(t 158),(t 164),(t 169)]),WA 4 11 170]))))))))
 (r 0 [MA 97 12,UA 98 (b .add d (t 97) (k (i j 1))),MA 12 98]))
def c24:LCode:=(q (r 0 [UA 4 (m (k (y g)))]) (q (q (r 0 [MA 16 1,MA 17 0,UA 18 (.nilc (t 17)),FA 19 2 18,FA 20 1 19,LA 21 20,UA 22 (b .geq g (t 16) (t 21))])
 (c (t 22) (q (r 0 [MA 24 0,UA 25 (.nilc (t 24)),FA 26 1 25,LA 27 26,MA 28 1,UA 29 (.call 53 [(t 27),(t 28)]),MA 23 29,UA 30 (.ext (t 23) 0),UA 31 (.ext (t 23) 1),
 (MA 5 30),MA 6 31]) (q (r 0 [MA 32 6,UA 33 (b .eql g (t 32) (k (i j 1))),MA 4 33]) .ret)) .skip)) (q (r 0 [MA 34 0,UA 35 (.nilc (t 34)),FA 36 2 35,
 (SA 37 4 36),MA 38 1,UA 39 (.call 54 [(t 37),(t 38)]),MA 7 39]) (q (q (r 0 [MA 40 0,UA 41 (.nilc (t 40)),FA 42 2 41,FA 43 2 42,LA 44 43,
 (MA 45 1),UA 46 (b .eql g (t 44) (t 45))]) (c (t 46) (r 0 [MA 47 0,UA 48 (.nilc (t 47)),FA 49 2 48,FA 50 2 49,⟨o,w 1 (t 50) (k (.int .i64 (-1))),o⟩]) .skip))
 (q (r 0 [MA 52 0,UA 53 (.nilc (t 52)),FA 54 1 53,LA 55 54,MA 56 1,UA 57 (.call 53 [(t 55),(t 56)]),MA 51 57,UA 58 (.ext (t 51) 0),UA 59 (.ext (t 51) 1),
 (MA 8 58),MA 9 59]) (q (r 0 [MA 60 0,UA 61 (.nilc (t 60)),FA 62 1 61,LA 63 62,UA 64 (.call 9 [(t 63)]),MA 10 64]) (q (q (r 0 [MA 65 9,
 (UA 66 (b .eql g (t 65) (k (i j 130))))]) (c (t 66) (q (r 1 [MA 67 0,MA 68 0,UA 69 (.nilc (t 68)),FA 70 6 69,LA 71 70,MA 72 7,UA 73 (.append 0 5 56 (t 71) (t 72)),
 (UA 74 (.nilc (t 67))),FA 75 6 74,WA 1 75 73]) (q (r 0 [MA 76 0,MA 77 7,UA 78 (.nilc (t 76)),FA 79 7 78,WA 1 79 77]) (q (r 0 [MA 80 0,
 (MA 81 1),UA 82 (.nilc (t 80)),FA 83 8 82,WA 1 83 81]) (q (r 0 [MA 84 0,UA 85 (.nilc (t 84)),FA 86 0 85,LA 87 86,UA 88 (.call 21 [(t 87)]),
 (MA 4 88)]) .ret)))) .skip)) (q (r 1 [MA 89 0,UA 90 (.nilc (t 89)),FA 91 2 90,SA 92 4 91,UA 11 (.alloc 0 (.agg #[.slice o 0 0,i j 0,i j 0,i j 0])),WA 4 11 92])
 (q (q (r 0 [CA 12 0]) (z 0 (.loop c24l0))) (q (r 0 [MA 171 0,SA 172 4 11,MA 173 1,UA 174 (.call 52 [(t 172),(t 173)]),UA 175 (.nilc (t 171)),FA 176 2 175,
 (WA 4 176 174)]) (q (r 0 [MA 177 9,UA 178 (b .eql g (t 177) (k (i j 0))),MA 179 178,GA 180 (m (t 8)) 179 d,GA 181 (n (t 180)) 179 d,GA 182 (m (t 7)) 179 d,
 (GA 183 (n (t 182)) 179 d),GA 184 (b .eql g (t 181) (t 183)) 179 d,UA 185 (p (t 179) (t 184) (k (y g))),MA 186 185,GA 187 (m (t 0)) 186 d,GA 188 (.nilc (t 187)) 186 d,
 (GA 189 (f 2 (t 188)) 186 d),GA 190 (l (s 4) (t 189)) 186 d,GA 191 (m (t 10)) 186 d,GA 192 (.call 8 [(t 190),(t 191)]) 186 d,UA 193 (p (t 186) (t 192) (k (y g))),MA 4 193])
 .ret)))))))))))
def c29l0:LCode:=q (q (r 0 [MA 7 6,FA 8 0 2,LA 9 8,UA 10 (n (t 9)),UA 11 (b .lss g (t 7) (t 10))]) (c (t 11) .skip (.exit 0))) (q (z 1 (q (r 0 [FA 14 0 2,
 (LA 15 14),MA 16 6,XA 17 5 15 16,FA 18 0 17,FA 19 0 18,FA 20 0 19,LA 21 20,MA 22 1,UA 23 (b .eql g (t 21) (t 22))])
 (c (t 23) (r 0 [MA 24 5,UA 25 (b .add d (t 24) (k (i j 1))),MA 5 25]) .skip))) (r 0 [MA 12 6,UA 13 (b .add d (t 12) (k (i j 1))),MA 6 13]))
def c29:LCode:=(q (r 1 [UA 2 (u 0 (t 0)),CA 4 0]) (q (r 0 [CA 5 0]) (q (q (r 0 [CA 6 0]) (z 0 (.loop c29l0))) (q (r 0 [MA 26 5,MA 4 26])
 .ret))))
def c30:LCode:=(q (r 0 [CA 2 0]) (q (r 0 [MA 3 0,UA 4 (.nilc (t 3)),FA 5 0 4,LA 6 5,UA 7 (n (t 6)),MA 2 7]) .ret))
def c33:LCode:=(q (r 1 [UA 4 (.alloc 0 (.agg (yaa 64 (.int .u8 0))))]) (q (r 0 [UA 6 (.prim (.pslc 64 g g g) [(t 4)]),UA 7 (.eff .cps 0 [(t 6),(k (.string ⟨#[87,83,69,71]⟩))])]) (q
 (r 0 [UA 8 (.prim (.pslc 64 d d d) [(t 4),(k (i j 4)),(k (i j 12)),(k (i j 12))]),MA 9 1,UA 10 (.call 61 [(t 8),(t 9)])]) (q (r 3 [MA 11 0,MA 12 1,UA 13 (.lits 0 1 2 [i j 0] [(0,(t 11)),(1,(t 12))]),
 (UA 14 (.call 63 [(t 13)])),UA 15 (.eff .b2s 0 [(t 14)]),UA 16 (.lits 1 1 1 [.string ⟨#[]⟩] [(0,(t 15))]),UA 17 (.call 62 [(k (i j 140)),(t 16)]),UA 5 (.alloc 2 (.agg (yaa 16 (.int .u8 0)))),
 (WA 16 5 17)]) (q (.tail 2 0 [UA 18 (.prim (.pslc 64 d g g) [(t 4),(k (i j 12))]),UA 19 (.prim (.pslc 16 g g g) [(t 5)]),UA 20 (.copy 1 (t 18) (t 19))]) (q (r 0 [SA 21 64 4,
 (WA 64 4 21)]) .ret))))))
def c39l0:LCode:=q (r 0 [UA 11 (b .lss g (t 10) (t 9))]) (q (c (t 11) .skip (.exit 0)) (q (z 1 (q (r 0 [MA 12 10,MA 3 12]) (q (q (r 0 [MA 13 0,MA 14 3,UA 15 (.call 28 [(t 13),(t 14)]),
 (UA 16 (.not (t 15)))]) (c (t 16) (.exit 1) .skip)) (q (q (r 0 [MA 17 0,MA 18 3,UA 19 (.call 47 [(t 17),(t 18)]),MA 4 19]) (q (r 0 [MA 20 4,UA 21 (b .neq g (t 20) (k (i j 0)))])
 (c (t 21) (q (r 0 [MA 22 4,MA 2 22]) .ret) .skip))) (q (r 0 [MA 23 0,MA 24 0,MA 25 3,UA 26 (.nilc (t 23)),FA 27 5 26,WA 1 27 25,
 (UA 28 (.nilc (t 24))),FA 29 6 28,⟨o,w 1 (t 29) (k (i j 0)),o⟩]) (q (r 0 [CA 2 0]) .ret)))))) (r 0 [UA 30 (b .add d (t 10) (k (i j 1))),MA 10 30])))
def c39:LCode:=(q (r 0 [CA 2 0]) (q (q (r 0 [MA 5 0,UA 6 (.nilc (t 5)),FA 7 1 6,LA 8 7,UA 9 (n (t 8)),CA 10 0]) (z 0 (.loop c39l0)))
 (q (r 0 [CA 2 140]) .ret)))
def c48l0:LCode:=q (q (r 0 [MA 16 6,MA 17 0,UA 18 (n (t 17)),UA 19 (b .lss g (t 16) (t 18))]) (c (t 19) .skip (.exit 0))) (q (z 1 (q (r 1 [MA 22 0,MA 23 6,
 (XA 24 4 22 23),SA 25 4 24,UA 7 (.alloc 0 (.agg #[i j 0,i j 0,i j 0,.string ⟨#[]⟩])),WA 4 7 25]) (q (r 0 [MA 26 1,SA 27 4 7,UA 28 (.callv (t 26) [(t 27)]),
 (UA 29 (.not (t 28)))]) (c (t 29) (q (r 0 [MA 30 0,MA 31 5,SA 32 4 7,XA 33 4 30 31,WA 4 33 32]) (r 0 [MA 34 5,UA 35 (b .add d (t 34) (k (i j 1))),
 (MA 5 35)])) .skip)))) (r 0 [MA 20 6,UA 21 (b .add d (t 20) (k (i j 1))),MA 6 21]))
def c48:LCode:=(q (r 0 [UA 4 (m (k (.slice o 0 0)))]) (q (r 0 [MA 8 0,MA 9 1,UA 10 (.call 43 [(t 8),(t 9)]),MA 5 10]) (q (q (r 0 [MA 11 5,UA 12 (b .eql g (t 11) (k (.int .i64 (-1))))])
 (c (t 12) (q (r 0 [MA 13 0,MA 4 13]) .ret) .skip)) (q (q (r 0 [MA 14 5,UA 15 (b .add d (t 14) (k (i j 1))),MA 6 15]) (z 0 (.loop c48l0))) (q (r 0 [MA 36 0,
 (MA 37 5),UA 38 (.slice 4 (t 36) (s (t 37)) o o),⟨o,.eff (.clr 4 [i j 0,i j 0,i j 0,.string ⟨#[]⟩]) 0 [(t 38)],o⟩]) (q (r 0 [MA 39 0,MA 40 5,UA 41 (.slice 4 (t 39) o (s (t 40)) o),
 (MA 4 41)]) .ret))))))
def c49:LCode:=(q (r 1 [UA 2 (u 0 (t 0)),UA 3 (m (k (y g)))]) (q (r 0 [FA 4 0 2,FA 5 0 4,LA 6 5,LA 7 1,UA 8 (b .eql g (t 6) (t 7)),MA 3 8])
 .ret))
def c50:LCode:=(q (r 2 [UA 3 (u 0 (t 0)),UA 6 (.alloc 1 (.agg #[i j 0,i j 0,i j 0]))]) (q (q (r 0 [MA 8 1,UA 9 (.lens (t 8)),UA 10 (b .gtr g (t 9) (k (i j 100))),MA 11 10,
 (GA 12 (m (t 2)) 11 g),GA 13 (.lens (t 12)) 11 g,GA 14 (b .gtr g (t 13) (k (i j 360))) 11 g,UA 15 (p (t 11) (k (y d)) (t 14))]) (c (t 15) (q (r 0 [UA 16 (.build [i j 0,i j 0,i j 0] [(2,1,(k (i j 2)))]),
 (WA 3 6 16)]) .ret) .skip)) (q (q (r 0 [FA 17 2 3,LA 18 17,UA 19 (b .geq g (t 18) (k (i j 0))),MA 20 19,GA 21 (f 3 (t 3)) 20 d,GA 22 (l o (t 21)) 20 d,
 (GA 23 (b .lss g (t 22) (k (i j 16))) 20 d),UA 24 (p (t 20) (t 23) (k (y g)))]) (c (t 24) (q (r 0 [FA 25 2 3,LA 26 25,FA 27 3 3,LA 28 27,UA 29 (.build [i j 0,i j 0,i j 0] [(0,1,(t 26)),(1,1,(t 28))]),
 (WA 3 6 29)]) .ret) .skip)) (q (r 0 [SA 30 4 3,UA 31 (.call 75 [(t 30)]),MA 7 31]) (q (q (r 0 [MA 32 7,UA 33 (b .lss g (t 32) (k (i j 0)))]) (c (t 33)
 (q (r 0 [UA 34 (.build [i j 0,i j 0,i j 0] [(2,1,(k (i j 140)))]),WA 3 6 34]) .ret) .skip)) (q (r 0 [MA 35 7,UA 36 (.build [i j 0,i j 0,i j 0] [(0,1,(t 35))]),WA 3 6 36])
 .ret))))))
def c53l0:LCode:=q (r 0 [UA 39 (b .lss g (t 38) (t 37))]) (q (c (t 39) .skip (.exit 0)) (q (z 1 (q (r 1 [XA 40 4 36 38,SA 41 4 40,UA 8 (.alloc 0 (.agg #[i j 0,i j 0,i j 0,.string ⟨#[]⟩])),
 (WA 4 8 41)]) (q (r 0 [MA 43 0,FA 44 0 8,SA 45 3 44,UA 46 (.call 17 [(t 43),(t 45)]),MA 42 46,UA 47 (.ext (t 42) 0),UA 48 (.ext (t 42) 1),
 (UA 49 (.ext (t 42) 2)),MA 9 47,MA 10 48,MA 11 49]) (q (q (r 0 [MA 50 11,UA 51 (b .neq g (t 50) (k (i j 0)))]) (c (t 51) (q (r 0 [MA 52 11,UA 4 (m (k (.slice o 0 0))),
 (MA 5 52)]) .ret) .skip)) (q (r 1 [MA 54 0,MA 55 9,MA 56 10,UA 57 (.call 16 [(t 54),(t 55),(t 56)]),MA 53 57,UA 58 (.ext (t 53) 0),UA 59 (.ext (t 53) 1),
 (UA 12 (.alloc 0 (.agg #[i j 0,i j 0,i j 0]))),WA 3 12 58,MA 11 59]) (q (q (r 0 [MA 60 11,UA 61 (b .neq g (t 60) (k (i j 0)))]) (c (t 61) (q (r 0 [MA 62 11,
 (UA 4 (m (k (.slice o 0 0)))),MA 5 62]) .ret) .skip)) (r 2 [MA 63 6,SA 64 3 12,UA 65 (.lits 0 3 1 [i j 0,i j 0,i j 0] [(0,(t 64))]),UA 66 (.append 1 3 24 (t 63) (t 65)),
 (MA 6 66)]))))))) (r 0 [UA 67 (b .add d (t 38) (k (i j 1))),MA 38 67])))
def c53:LCode:=(q (r 0 [UA 4 (m (k (.slice o 0 0))),CA 5 0]) (q (q (r 0 [MA 14 1,UA 15 (b .lss g (t 14) (k (i j 0))),MA 16 15,GA 17 (m (t 1)) 16 g,GA 18 (m (t 0)) 16 g,
 (GA 19 (.nilc (t 18)) 16 g),GA 20 (f 1 (t 19)) 16 g,GA 21 (l o (t 20)) 16 g,GA 22 (n (t 21)) 16 g,GA 23 (b .geq g (t 17) (t 22)) 16 g,UA 24 (p (t 16) (k (y d)) (t 23))]) (c (t 24)
 (q (r 0 [UA 4 (m (k (.slice o 0 0))),CA 5 1]) .ret) .skip)) (q (q (r 0 [MA 25 0,UA 26 (.nilc (t 25)),FA 27 5 26,LA 28 27,MA 29 1,UA 30 (b .eql g (t 28) (t 29))])
 (c (t 30) (r 0 [MA 31 0,UA 32 (.nilc (t 31)),FA 33 5 32,⟨o,w 1 (t 33) (k (.int .i64 (-1))),o⟩]) .skip)) (q (r 0 [UA 6 (m (k (.slice o 0 0)))]) (q (q (r 0 [MA 34 0,MA 35 1,
 (UA 36 (.call 59 [(t 34),(t 35)])),UA 37 (n (t 36)),CA 38 0]) (z 0 (.loop c53l0))) (q (q (r 0 [MA 68 0,MA 69 1,UA 70 (.call 19 [(t 68),(t 69)]),MA 13 70])
 (q (r 0 [MA 71 13,UA 72 (b .neq g (t 71) (k (i j 0)))]) (c (t 72) (q (r 0 [MA 73 13,UA 4 (m (k (.slice o 0 0))),MA 5 73]) .ret) .skip))) (q (r 0 [MA 74 6,MA 4 74,
 (CA 5 0)]) .ret)))))))
def c59l0:LCode:=q (r 0 [UA 14 (b .lss g (t 13) (t 12))]) (q (c (t 14) .skip (.exit 0)) (q (z 1 (q (r 1 [XA 15 4 11 13,SA 16 4 15,UA 7 (.alloc 0 (.agg #[i j 0,i j 0,i j 0,.string ⟨#[]⟩])),
 (WA 4 7 16)]) (q (r 0 [FA 17 0 7,FA 18 0 17,LA 19 18,MA 20 1,UA 21 (b .eql g (t 19) (t 20))]) (c (t 21) (r 2 [MA 22 5,SA 23 4 7,
 (UA 24 (.lits 0 4 1 [i j 0,i j 0,i j 0,.string ⟨#[]⟩] [(0,(t 23))])),UA 25 (.append 1 4 40 (t 22) (t 24)),MA 5 25]) .skip)))) (r 0 [UA 26 (b .add d (t 13) (k (i j 1))),MA 13 26])))
def c59:LCode:=(q (r 0 [UA 4 (m (k (.slice o 0 0)))]) (q (r 0 [UA 5 (m (k (.slice o 0 0)))]) (q (q (r 0 [MA 8 0,UA 9 (.nilc (t 8)),FA 10 4 9,LA 11 10,UA 12 (n (t 11)),
 (CA 13 0)]) (z 0 (.loop c59l0))) (q (r 0 [MA 27 5,MA 4 27]) .ret))))
def c61l0:LCode:=q (q (r 0 [MA 8 4,UA 9 (b .geq g (t 8) (k (i j 0)))]) (c (t 9) .skip (.exit 0))) (q (z 1 (q (r 0 [MA 12 0,MA 13 4,MA 14 1,UA 15 (.conv g .u8 (t 14)),
 (XA 16 1 12 13),WA 1 16 15]) (r 0 [MA 17 1,UA 18 (.shift .shr (t 17) (k (.int .u64 8))),MA 1 18]))) (r 0 [MA 10 4,UA 11 (b .sub d (t 10) (k (i j 1))),
 (MA 4 11)]))
def c61:LCode:=(q (r 0 [MA 5 0,UA 6 (n (t 5)),UA 7 (b .sub d (t 6) (k (i j 1))),MA 4 7]) (z 0 (.loop c61l0)))
def c66:LCode:=(q (r 1 [UA 10 (.alloc 0 (.agg (yaa 16 (.int .u8 0))))]) (q (r 2 [MA 11 0,MA 12 1,MA 13 2,MA 14 3,UA 15 (.lits 0 1 4 [i j 0] [(0,(t 11)),(1,(t 12)),(2,(t 13)),(3,(t 14))]),
 (UA 16 (.call 63 [(t 15)])),UA 17 (.eff .b2s 0 [(t 16)]),MA 18 4,UA 19 (.lits 1 1 2 [.string ⟨#[]⟩] [(0,(t 17)),(1,(t 18))]),UA 20 (.call 62 [(k (i j 141)),(t 19)]),WA 16 10 20])
 .ret))
def c73l0:LCode:=q (r 0 [UA 20 (.next (t 19)),UA 21 (.ext (t 20) 0)]) (q (c (t 21) .skip (.exit 0)) (z 1 (q (r 0 [UA 22 (.entry (t 19)),UA 23 (.ext (t 22) 0),UA 24 (.ext (t 22) 1),MA 4 23,
 (MA 5 24)]) (q (.tail 13 0 [MA 25 0,UA 26 (.nilc (t 25)),FA 27 0 26,LA 28 27,MA 29 4,MA 30 5,MA 31 5,UA 32 (n (t 31)),UA 33 (b .sub d (t 32) (k (i j 1))),
 (XA 34 64 30 33),SA 35 64 34,UA 36 (.build [.int .u8 0,.int .u8 0,.int .u8 0,.int .u8 0,.int .u8 0,.int .u8 0,.int .u8 0,.int .u8 0,.int .u8 0,.int .u8 0,.int .u8 0,.int .u8 0,.int .u8 0,.int .u8 0,.int .u8 0,.int .u8 0,.int .u8 0,.int .u8 0,.int .u8 0,.int .u8 0,.int .u8 0,.int .u8 0,.int .u8 0,.int .u8 0,.int .u8 0,.int .u8 0,.int .u8 0,.int .u8 0,.int .u8 0,.int .u8 0,.int .u8 0,.int .u8 0,.int .u8 0,.int .u8 0,.int .u8 0,.int .u8 0,.int .u8 0,.int .u8 0,.int .u8 0,.int .u8 0,.int .u8 0,.int .u8 0,.int .u8 0,.int .u8 0,.int .u8 0,.int .u8 0,.int .u8 0,.int .u8 0,.int .u8 0,.int .u8 0,.int .u8 0,.int .u8 0,.int .u8 0,.int .u8 0,.int .u8 0,.int .u8 0,.int .u8 0,.int .u8 0,.int .u8 0,.int .u8 0,.int .u8 0,.int .u8 0,.int .u8 0,.int .u8 0,.bool g] [(0,64,(t 35))]),
 (XA 37 65 28 29),WA 65 37 36]) (r 0 [MA 38 0,UA 39 (.nilc (t 38)),FA 40 1 39,LA 41 40,MA 42 4,⟨o,.mdel (.int .i64) (t 41) (t 42),o⟩])))))
def c73:LCode:=(q (r 0 [CA 2 0]) (q (r 0 [MA 6 0,UA 7 (.call 60 [(t 6),(k (i j 0))]),MA 3 7]) (q (q (r 0 [MA 8 3,UA 9 (b .eql g (t 8) (k (i j 0)))])
 (c (t 9) (r 0 [MA 10 0,UA 11 (.call 92 [(t 10)]),MA 3 11]) .skip)) (q (q (r 0 [MA 12 3,UA 13 (b .neq g (t 12) (k (i j 0)))]) (c (t 13) (q (r 0 [MA 14 3,MA 2 14])
 .ret) .skip)) (q (q (r 1 [MA 15 0,UA 16 (.nilc (t 15)),FA 17 1 16,LA 18 17,UA 19 (.range 0 (t 18))]) (z 0 (.loop c73l0))) (q (r 0 [CA 2 0]) .ret))))))

def c79l0:LCode:=q (r 0 [UA 14 (b .lss g (t 13) (t 12))]) (q (c (t 14) .skip (.exit 0)) (q (z 1 (q (r 0 [XA 15 1 11 13,LA 16 15,MA 7 16]) (r 1 [MA 17 5,
 (MA 18 1),MA 19 7,UA 20 (.callv (t 18) [(t 19)]),UA 21 (.append 0 1 1 (t 17) (t 20)),MA 5 21]))) (r 0 [UA 22 (b .add d (t 13) (k (i j 1))),MA 13 22])))
def c79:LCode:=(q (r 0 [UA 4 (m (k (.slice o 0 0)))]) (q (r 0 [MA 8 0,UA 9 (n (t 8)),UA 10 (.call 80 [(t 9)]),MA 5 10]) (q (q (r 0 [MA 11 0,UA 12 (n (t 11)),CA 13 0])
 (z 0 (.loop c79l0))) (q (r 0 [MA 23 5,MA 4 23]) .ret))))
def c92:LCode:=(q (r 0 [CA 2 0]) (q (z 0 (q (r 0 [MA 4 0,UA 5 (.nilc (t 4)),FA 6 3 5,LA 7 6,UA 8 (b .eql g (t 7) (k (i j 0))),MA 3 8])
 (c (t 3) (q (r 0 [MA 9 0,UA 10 (.nilc (t 9)),FA 11 4 10,⟨o,w 1 (t 11) (k (y d)),o⟩]) (q (r 0 [CA 2 130]) .ret)) (q (r 0 [MA 13 0,UA 14 (.nilc (t 13)),
 (FA 15 3 14),LA 16 15,UA 17 (b .gtr g (t 16) (k (i j 0))),MA 12 17]) (c (t 12) (r 0 [MA 18 0,UA 19 (.nilc (t 18)),FA 20 3 19,LA 21 20,
 (UA 22 (b .sub d (t 21) (k (i j 1)))),UA 23 (.nilc (t 18)),FA 24 3 23,WA 1 24 22]) .skip))))) (q (r 0 [MA 25 0,UA 26 (.nilc (t 25)),FA 27 2 26,LA 28 27,
 (UA 29 (b .add d (t 28) (k (i j 1)))),UA 30 (.nilc (t 25)),FA 31 2 30,WA 1 31 29]) (q (r 0 [CA 2 0]) .ret))))
open Go Go.Fx Go.Proofs
theorem lw3:rlF Tryz.prog 3 c3=some (c3,[.tmp 4],70):=by kernel_rfl
theorem lw5:rlF Tryz.prog 5 c5=some (c5,[.tmp 0],164):=by kernel_rfl
theorem lw7:rlF Tryz.prog 7 c7=some (c7,[.tmp 4],72):=by kernel_rfl
theorem lw24:rlF Tryz.prog 24 c24=some (c24,[.tmp 4],194):=by kernel_rfl
theorem lw29:rlF Tryz.prog 29 c29=some (c29,[.tmp 4],27):=by kernel_rfl
theorem lw30:rlF Tryz.prog 30 c30=some (c30,[.tmp 2],8):=by kernel_rfl
theorem lw33:rlF Tryz.prog 33 c33=some (c33,[.cell 4 (some 64)],22):=by kernel_rfl
theorem lw39:rlF Tryz.prog 39 c39=some (c39,[.tmp 2],31):=by kernel_rfl
theorem lw48:rlF Tryz.prog 48 c48=some (c48,[.tmp 4],42):=by kernel_rfl
theorem lw49:rlF Tryz.prog 49 c49=some (c49,[.tmp 3],9):=by kernel_rfl
theorem lw50:rlF Tryz.prog 50 c50=some (c50,[.cell 6 (some 3)],37):=by kernel_rfl
theorem lw53:rlF Tryz.prog 53 c53=some (c53,[.tmp 4,.tmp 5],75):=by kernel_rfl
theorem lw59:rlF Tryz.prog 59 c59=some (c59,[.tmp 4],28):=by kernel_rfl
theorem lw61:rlF Tryz.prog 61 c61=some (c61,[],19):=by kernel_rfl
theorem lw66:rlF Tryz.prog 66 c66=some (c66,[.cell 10 (some 16)],21):=by kernel_rfl
theorem lw73:rlF Tryz.prog 73 c73=some (c73,[.tmp 2],43):=by kernel_rfl
theorem lw79:rlF Tryz.prog 79 c79=some (c79,[.tmp 4],24):=by kernel_rfl
theorem lw92:rlF Tryz.prog 92 c92=some (c92,[.tmp 2],32):=by kernel_rfl
end Go.Fx.K
namespace Go.Fx.K
open Go Go.Fx
open Go.Operand renaming tmp → t, const → k
open Go.Value renaming int → i, bool → y
open Go.IntKind renaming i64 → j
open Option renaming some → s, none → o
open Go.Fx.LOp renaming mov → m, load → l, fld → f, bin → b, idx → x, store → w, pick → p, len → n, box → u
open Go.Fx.LCode renaming seq → q, reg → r, cond → c, block → z
open Go.Fx.LPlan renaming take → v, alt → h
open Bool renaming false → g, true → d
end Go.Fx.K
