import Derived.Test.YtemlboicdekgbaaFxRun
set_option linter.unusedVariables false
set_option linter.unusedSimpArgs false
set_option linter.unusedSectionVars false
namespace Go.Fx.P
open Go Go.Fx
abbrev MA (n x : Nat) : LOper := ⟨some n,.mov (.tmp x),none⟩
abbrev LA (n x : Nat) : LOper := ⟨some n,.load none (.tmp x),none⟩
abbrev FA (n k x : Nat) : LOper := ⟨some n,.fld k (.tmp x),none⟩
abbrev SA (n k x : Nat) : LOper := ⟨some n,.load (some k) (.tmp x),none⟩
abbrev XA (n k x y : Nat) : LOper := ⟨some n,.idx k (.tmp x) (.tmp y),none⟩
abbrev CA (n : Nat) (x : Int) : LOper := ⟨some n,.mov (.const (.int .i64 x)),none⟩
abbrev WA (k x y : Nat) : LOper := ⟨none,.store k (.tmp x) (.tmp y),none⟩
abbrev UA (n : Nat) (x : LOp) : LOper := ⟨some n,x,none⟩
abbrev GA (n : Nat) (x : LOp) (a : Nat) (b : Bool) : LOper := ⟨some n,x,some (a,b)⟩
open Go.Operand renaming tmp → t, const → k
open Go.Value renaming int → i, bool → y
open Go.IntKind renaming i64 → j
open Option renaming some → s, none → o
open Go.Fx.LOp renaming mov → m, load → l, fld → f, bin → b, idx → x, store → w, pick → p, len → n, box → u
open Go.Fx.LCode renaming seq → q, reg → r, cond → c, block → z
open Go.Fx.LPlan renaming take → v, alt → h
open Bool renaming false → g, true → d
def c3 : LCode :=
 (q (r 1 [UA 1 (u 0 (t 0)),UA 2 (m (k (y g)))]) (q (q (r 0 [FA 6 0 1,LA 7 6,UA 8 (n (t 7)),UA 9 (b .gtr g (t 8) (k (i j 30))),MA 10 9,GA 11 (f 0 (t 1)) 10 d,
 (GA 12 (l o (t 11)) 10 d),GA 13 (n (t 12)) 10 d,GA 14 (b .leq g (t 13) (k (i j 100))) 10 d,UA 15 (p (t 10) (t 14) (k (y g))),MA 16 15,GA 17 (f 1 (t 1)) 16 g,GA 18 (l o (t 17)) 16 g,
 (GA 19 (n (t 18)) 16 g),GA 20 (b .gtr g (t 19) (k (i j 60))) 16 g,GA 21 (m (t 20)) 16 g,GA 22 (f 1 (t 1)) 21 d,GA 23 (l o (t 22)) 21 d,GA 24 (n (t 23)) 21 d,GA 25 (b .leq g (t 24) (k (i j 1500))) 21 d,
 (GA 26 (p (t 21) (t 25) (k (y g))) 16 g),UA 27 (p (t 16) (k (y d)) (t 26)),MA 28 27,GA 29 (f 0 (t 1)) 28 g,GA 30 (l o (t 29)) 28 g,GA 31 (n (t 30)) 28 g,GA 32 (b .gtr g (t 31) (k (i j 200))) 28 g,
 (UA 33 (p (t 28) (k (y d)) (t 32))),MA 34 33,GA 35 (f 1 (t 1)) 34 g,GA 36 (l o (t 35)) 34 g,GA 37 (n (t 36)) 34 g,GA 38 (b .gtr g (t 37) (k (i j 3000))) 34 g,UA 39 (p (t 34) (k (y d)) (t 38))])
 (c (t 39) (q (r 0 [UA 40 (.call 10 []),MA 2 40]) .ret) .skip)) (q (r 0 [SA 41 2 1,UA 42 (.call 11 [(t 41)]),MA 3 42]) (q (q (r 0 [MA 43 3,SA 44 2 1,
 (UA 45 (.call 12 [(t 44)])),UA 46 (b .neq g (t 43) (t 45))]) (c (t 46) (q (r 0 [UA 2 (m (k (y g)))]) .ret) .skip)) (q (q (r 0 [MA 47 3,UA 48 (b .neq g (t 47) (k (i j 0)))]) (c (t 48) (q
 (r 1 [SA 50 2 1,UA 51 (.call 13 [(t 50)]),MA 49 51,UA 52 (.ext (t 49) 0),UA 53 (.ext (t 49) 1),UA 4 (.alloc 0 (.agg #[i j 0,i j 0,.slice o 0 0,.slice o 0 0,.slice o 0 0])),
 (WA 5 4 52),MA 5 53]) (q (r 0 [UA 54 (.call 10 []),MA 55 54,GA 56 (m (t 5)) 55 d,GA 57 (m (t 3)) 55 d,GA 58 (b .eql g (t 56) (t 57)) 55 d,UA 59 (p (t 55) (t 58) (k (y g))),
 (MA 2 59)]) .ret)) .skip)) (q (.tree 0 (h 0 (UA 60 (.call 10 [])) g (v 1 [2,3,4,5,6,7,8,9,10,11,12,13,14,15] (MA 61 60) (v 2 [3,5,6,7,8,9,10,11,12,13,14,15] (GA 62 (l (s 2) (t 1)) 61 d)
 (v 4 [5,6,7,8,9,10,11,12,13,14,15] (GA 64 (l (s 2) (t 1)) 61 d) (h 3 (GA 63 (.call 15 [(t 62)]) 61 d) d (h 5 (GA 65 (.call 16 [(t 64)]) 61 d) g (h 6 (GA 66 (.call 14 [(t 63),(t 65)]) 61 d) g
 (v 7 [8,9,10,11,12,13,14,15] (UA 67 (p (t 61) (t 66) (k (y g)))) (v 8 [9,10,11,12,13,14,15] (MA 68 67) (v 9 [10,12,13,14,15] (GA 69 (l (s 2) (t 1)) 68 d) (v 11 [12,13,14,15] (GA 71 (l (s 2) (t 1)) 68 d)
 (h 10 (GA 70 (.call 17 [(t 69)]) 68 d) d (h 12 (GA 72 (.call 18 [(t 71)]) 68 d) g (v 13 [14,15] (GA 73 (b .eql g (t 70) (t 72)) 68 d) (v 14 [15] (UA 74 (p (t 68) (t 73) (k (y g)))) (v 15 [] (MA 2 74)
 .done))) .none) .none))))) .none) .none) .none)))) .none)) .ret)))))) 
def c4l0 : LCode :=
 q (q (r 0 [MA 47 10,FA 48 0 4,LA 49 48,UA 50 (n (t 49)),UA 51 (b .leq g (t 47) (t 50))]) (c (t 51) .skip (.exit 0))) (q (z 1 (q (.tree 0 (v 0 [3,7,8] (SA 54 2 4)
 (v 1 [3,7,8] (SA 55 5 5) (v 2 [3,7,8] (MA 56 10) (v 4 [7,8] (SA 58 2 4) (v 5 [7,8] (SA 59 5 5) (v 6 [7,8] (MA 60 10) (h 3 (UA 57 (.call 22 [(t 54),(t 55),(t 56)])) d
 (h 7 (UA 61 (.call 23 [(t 58),(t 59),(t 60)])) g (v 8 [] (UA 62 (b .neq g (t 57) (t 61))) .done) .none) .none)))))))) (c (t 62) (q (r 0 [UA 8 (m (k (y g)))]) .ret) .skip))) (r 0 [MA 52 10,UA 53 (b .add d (t 52) (k (i j 1))),
 (MA 10 53)]))
def c4 : LCode :=
 (q (r 2 [UA 4 (u 0 (t 0)),UA 5 (u 1 (t 1)),UA 8 (m (k (y g)))]) (q (q (r 0 [SA 14 2 4,UA 15 (.call 19 [(t 14)]),UA 16 (.not (t 15)),MA 17 16,GA 18 (f 2 (t 5)) 17 g,
 (GA 19 (l o (t 18)) 17 g),GA 20 (n (t 19)) 17 g,GA 21 (b .gtr g (t 20) (k (i j 100))) 17 g,UA 22 (p (t 17) (k (y d)) (t 21)),MA 23 22,GA 24 (f 3 (t 5)) 23 g,GA 25 (l o (t 24)) 23 g,
 (GA 26 (n (t 25)) 23 g),GA 27 (b .gtr g (t 26) (k (i j 100))) 23 g,UA 28 (p (t 23) (k (y d)) (t 27)),MA 29 28,GA 30 (f 4 (t 5)) 29 g,GA 31 (l o (t 30)) 29 g,GA 32 (n (t 31)) 29 g,
 (GA 33 (b .gtr g (t 32) (k (i j 100))) 29 g),UA 34 (p (t 29) (k (y d)) (t 33))]) (c (t 34) (q (r 0 [UA 35 (.call 10 []),MA 8 35]) .ret) .skip)) (q (r 0 [SA 36 2 4,SA 37 5 5,
 (UA 38 (.call 20 [(t 36),(t 37)])),MA 9 38]) (q (q (r 0 [MA 39 9,SA 40 2 4,SA 41 5 5,UA 42 (.call 21 [(t 40),(t 41)]),UA 43 (b .neq g (t 39) (t 42))])
 (c (t 43) (q (r 0 [UA 8 (m (k (y g)))]) .ret) .skip)) (q (q (r 0 [MA 44 9,UA 45 (b .neq g (t 44) (k (i j 0)))]) (c (t 45) (q (r 0 [UA 46 (.call 10 []),MA 8 46]) .ret) .skip))
 (q (q (r 0 [UA 10 (m (k (.int .i64 (-1))))]) (z 0 (.loop c4l0))) (q (r 0 [SA 64 2 4,SA 65 5 5,MA 66 2,MA 67 3,UA 68 (.call 24 [(t 64),(t 65),(t 66),(t 67)]),
 (MA 63 68),UA 69 (.ext (t 63) 0),UA 70 (.ext (t 63) 1),MA 11 69,MA 12 70]) (q (r 1 [SA 71 2 4,SA 72 5 5,MA 73 2,MA 74 3,
 (UA 75 (.call 25 [(t 71),(t 72),(t 73),(t 74)])),UA 13 (.alloc 0 (.agg #[.slice o 0 0,i j 0])),WA 2 13 75]) (q (.tree 0 (h 0 (UA 76 (.call 10 [])) g (v 1 [2,3,4,5,6,7,8,9,10,11,12,13,14,15,16,17,18,19,20,21,22,23,24,25,26,27,28,29,30,31] (MA 77 76)
 (v 2 [4,7,8,9,10,11,12,13,14,15,16,17,18,19,20,21,22,23,24,25,26,27,28,29,30,31] (GA 78 (l (s 2) (t 4)) 77 d) (v 3 [4,7,8,9,10,11,12,13,14,15,16,17,18,19,20,21,22,23,24,25,26,27,28,29,30,31] (GA 79 (l (s 5) (t 5)) 77 d)
 (v 5 [7,8,9,10,11,12,13,14,15,16,17,18,19,20,21,22,23,24,25,26,27,28,29,30,31] (GA 81 (l (s 2) (t 4)) 77 d) (v 6 [7,8,9,10,11,12,13,14,15,16,17,18,19,20,21,22,23,24,25,26,27,28,29,30,31] (GA 82 (l (s 5) (t 5)) 77 d)
 (h 4 (GA 80 (.call 27 [(t 78),(t 79)]) 77 d) d (h 7 (GA 83 (.call 28 [(t 81),(t 82)]) 77 d) g (h 8 (GA 84 (.call 26 [(t 80),(t 83)]) 77 d) g (v 9 [10,11,12,13,14,15,16,17,18,19,20,21,22,23,24,25,26,27,28,29,30,31] (UA 85 (p (t 77) (t 84) (k (y g))))
 (v 10 [11,12,13,14,15,16,17,18,19,20,21,22,23,24,25,26,27,28,29,30,31] (MA 86 85) (v 11 [13,16,17,18,19,20,21,22,23,24,25,26,27,28,29,30,31] (GA 87 (l (s 2) (t 4)) 86 d) (v 12 [13,16,17,18,19,20,21,22,23,24,25,26,27,28,29,30,31] (GA 88 (l (s 5) (t 5)) 86 d)
 (v 14 [16,17,18,19,20,21,22,23,24,25,26,27,28,29,30,31] (GA 90 (l (s 2) (t 4)) 86 d) (v 15 [16,17,18,19,20,21,22,23,24,25,26,27,28,29,30,31] (GA 91 (l (s 5) (t 5)) 86 d) (h 13 (GA 89 (.call 30 [(t 87),(t 88)]) 86 d) d
 (h 16 (GA 92 (.call 31 [(t 90),(t 91)]) 86 d) g (h 17 (GA 93 (.call 29 [(t 89),(t 92)]) 86 d) g (v 18 [19,20,21,22,23,24,25,26,27,28,29,30,31] (UA 94 (p (t 86) (t 93) (k (y g)))) (v 19 [20,21,22,23,24,25,26,27,28,29,30,31] (MA 95 94)
 (v 20 [23,24,25,26,27,28,29,30,31] (GA 96 (m (t 12)) 95 d) (v 21 [22,23,24,25,26,27,28,29,30,31] (GA 97 (f 1 (t 13)) 95 d) (v 22 [23,24,25,26,27,28,29,30,31] (GA 98 (l o (t 97)) 95 d) (v 23 [24,25,26,27,28,29,30,31] (GA 99 (b .eql g (t 96) (t 98)) 95 d)
 (v 24 [25,26,27,28,29,30,31] (UA 100 (p (t 95) (t 99) (k (y g)))) (v 25 [26,27,28,29,30,31] (MA 101 100) (v 26 [29,30,31] (GA 102 (m (t 11)) 101 d) (v 27 [28,29,30,31] (GA 103 (f 0 (t 13)) 101 d)
 (v 28 [29,30,31] (GA 104 (l o (t 103)) 101 d) (h 29 (GA 105 (.call 26 [(t 102),(t 104)]) 101 d) g (v 30 [31] (UA 106 (p (t 101) (t 105) (k (y g)))) (v 31 [] (MA 8 106) .done)) .none))))))))))))
 .none) .none) .none))))))) .none) .none) .none)))))) .none)) .ret))))))))) 
def c6l0 : LCode :=
 q (r 0 [UA 36 (b .lss g (t 35) (t 34))]) (q (c (t 36) .skip (.exit 0)) (q (z 1 (q (r 1 [XA 37 4 33 35,SA 38 4 37,UA 9 (.alloc 0 (.agg #[i j 0,i j 0,i j 0,i j 0])),WA 4 9 38])
 (.tail 12 0 [FA 39 0 9,LA 40 39,FA 41 1 9,LA 42 41,UA 43 (.prim (.pidx 10 10) [(t 7),(t 40)]),UA 44 (.prim (.pidx 10 1) [(t 43),(t 42)]),LA 45 44,
 (FA 46 2 9),LA 47 46,UA 48 (b .add d (t 45) (t 47)),UA 49 (.prim (.pidx 10 10) [(t 7),(t 40)]),UA 50 (.prim (.pidx 10 1) [(t 49),(t 42)]),WA 1 50 48]))) (r 0 [UA 51 (b .add d (t 35) (k (i j 1))),
 (MA 35 51)])))
def c6l3 : LCode :=
 q (r 0 [UA 122 (b .lss g (t 121) (t 120))]) (q (c (t 122) .skip (.exit 6)) (q (z 7 (q (r 0 [MA 123 121,XA 124 1 119 121,LA 125 124,MA 18 123,MA 19 125])
 (q (q (r 0 [MA 126 19,UA 127 (.prim (.pidx 10 1) [(t 17),(t 126)]),LA 128 127]) (c (t 128) (q (r 0 [UA 4 (m (k (y g)))]) .ret) .skip)) (q (r 0 [MA 129 19,UA 130 (.prim (.pidx 10 1) [(t 17),(t 129)]),
 ⟨o,w 1 (t 130) (k (y d)),o⟩]) (q (r 0 [MA 131 19,UA 132 (.prim (.pidx 10 1) [(t 5),(t 131)]),LA 133 132,UA 134 (b .add d (t 133) (k (i j 1))),UA 135 (.prim (.pidx 10 1) [(t 5),(t 131)]),
 (WA 1 135 134)]) (q (r 0 [MA 136 18,UA 137 (b .gtr g (t 136) (k (i j 0)))]) (c (t 137) (.tail 12 0 [MA 138 15,MA 139 18,UA 140 (b .sub d (t 139) (k (i j 1))),
 (XA 141 1 138 140),LA 142 141,MA 143 19,UA 144 (.prim (.pidx 10 10) [(t 6),(t 142)]),UA 145 (.prim (.pidx 10 1) [(t 144),(t 143)]),LA 146 145,UA 147 (b .add d (t 146) (k (i j 1))),
 (UA 148 (.prim (.pidx 10 10) [(t 6),(t 142)])),UA 149 (.prim (.pidx 10 1) [(t 148),(t 143)]),WA 1 149 147]) .skip))))))) (r 0 [UA 150 (b .add d (t 121) (k (i j 1))),MA 121 150])))
def c6l2 : LCode :=
 q (r 0 [UA 81 (b .lss g (t 80) (t 79))]) (q (c (t 81) .skip (.exit 4)) (q (z 5 (q (r 0 [MA 82 80,MA 14 82]) (q (r 0 [SA 84 2 2,SA 85 5 3,MA 86 10,
 (MA 87 14),UA 88 (.call 24 [(t 84),(t 85),(t 86),(t 87)]),MA 83 88,UA 89 (.ext (t 83) 0),UA 90 (.ext (t 83) 1),MA 15 89,MA 16 90]) (q (q (.qui 0 [MA 91 16,
 (UA 92 (b .neq g (t 91) (k (i j 0)))),MA 93 92,GA 94 (m (t 15)) 93 g,GA 95 (n (t 94)) 93 g,GA 96 (b .lss g (t 95) (k (i j 2))) 93 g,UA 97 (p (t 93) (k (y d)) (t 96)),MA 98 97,
 (GA 99 (m (t 15)) 98 g),GA 100 (x 1 (t 99) (k (i j 0))) 98 g,GA 101 (l o (t 100)) 98 g,GA 102 (m (t 10)) 98 g,GA 103 (b .neq g (t 101) (t 102)) 98 g,UA 104 (p (t 98) (k (y d)) (t 103)),
 (MA 105 104),GA 106 (f 0 (t 2)) 105 g,GA 107 (l o (t 106)) 105 g,GA 108 (m (t 15)) 105 g,GA 109 (m (t 15)) 105 g,GA 110 (n (t 109)) 105 g,GA 111 (b .sub d (t 110) (k (i j 1))) 105 g,
 (GA 112 (x 1 (t 108) (t 111)) 105 g),GA 113 (l o (t 112)) 105 g,GA 114 (x 3 (t 107) (t 113)) 105 g,GA 115 (f 0 (t 114)) 105 g,GA 116 (l o (t 115)) 105 g,GA 117 (b .neq g (t 116) (k (i j 3))) 105 g,
 (UA 118 (p (t 105) (k (y d)) (t 117)))]) (c (t 118) (q (r 0 [UA 4 (m (k (y g)))]) .ret) .skip)) (q (r 1 [UA 17 (.alloc 0 (.agg (Array.replicate 10 (.bool g))))]) (q (r 0 [MA 119 15,UA 120 (n (t 119)),
 (CA 121 0)]) (z 6 (.loop c6l3)))))))) (r 0 [UA 151 (b .add d (t 80) (k (i j 1))),MA 80 151])))
def c6l1 : LCode :=
 q (r 0 [UA 56 (b .lss g (t 55) (t 54))]) (q (c (t 56) .skip (.exit 2)) (q (z 3 (q (r 1 [MA 57 55,XA 58 3 53 55,SA 59 3 58,UA 11 (.alloc 0 (.agg #[i j 0,i j 0,i j 0])),
 (MA 10 57),WA 3 11 59]) (q (q (r 0 [FA 60 0 11,LA 61 60,UA 62 (b .neq g (t 61) (k (i j 1)))]) (c (t 62) (q (q (r 0 [SA 64 2 2,SA 65 5 3,
 (MA 66 10),UA 67 (.call 24 [(t 64),(t 65),(t 66),(k (i j 0))]),MA 63 67,UA 68 (.ext (t 63) 0),UA 69 (.ext (t 63) 1),MA 12 68,MA 13 69]) (q (r 0 [MA 70 13,
 (UA 71 (b .neq g (t 70) (k (i j 5))))]) (c (t 71) (q (r 0 [UA 4 (m (k (y g)))]) .ret) .skip))) (.exit 3)) .skip)) (q (q (r 0 [FA 72 2 11,LA 73 72,UA 74 (b .gtr g (t 73) (k (i j 20)))])
 (c (t 74) (q (r 0 [UA 75 (.call 10 []),MA 4 75]) .ret) .skip)) (q (r 0 [SA 76 2 2,SA 77 5 3,MA 78 10,UA 79 (.call 22 [(t 76),(t 77),(t 78)]),CA 80 0])
 (z 4 (.loop c6l2))))))) (r 0 [UA 152 (b .add d (t 55) (k (i j 1))),MA 55 152])))
def c6l5 : LCode :=
 q (r 0 [UA 171 (b .lss g (t 170) (t 169))]) (q (c (t 171) .skip (.exit 10)) (q (z 11 (q (r 0 [MA 172 170,MA 21 172]) (q (.qui 0 [MA 173 20,MA 174 21,UA 175 (.prim (.pidx 10 10) [(t 6),(t 173)]),
 (UA 176 (.prim (.pidx 10 1) [(t 175),(t 174)])),LA 177 176,MA 178 20,MA 179 21,UA 180 (.prim (.pidx 10 10) [(t 7),(t 178)]),UA 181 (.prim (.pidx 10 1) [(t 180),(t 179)]),
 (LA 182 181),UA 183 (b .gtr g (t 177) (t 182))]) (c (t 183) (q (r 0 [UA 4 (m (k (y g)))]) .ret) .skip)))) (r 0 [UA 184 (b .add d (t 170) (k (i j 1))),MA 170 184])))
def c6l4 : LCode :=
 q (r 0 [UA 157 (b .lss g (t 156) (t 155))]) (q (c (t 157) .skip (.exit 8)) (q (z 9 (q (r 0 [MA 158 156,MA 20 158]) (q (q (.tree 0 (v 0 [1,2,7] (MA 159 20) (v 1 [2,7] (UA 160 (.prim (.pidx 10 1) [(t 5),(t 159)]))
 (v 2 [7] (LA 161 160) (v 3 [6,7] (SA 162 2 2) (v 4 [6,7] (SA 163 5 3) (v 5 [6,7] (MA 164 20) (h 6 (UA 165 (.call 22 [(t 162),(t 163),(t 164)])) d (v 7 [] (UA 166 (b .gtr g (t 161) (t 165)))
 .done) .none)))))))) (c (t 166) (q (r 0 [UA 4 (m (k (y g)))]) .ret) .skip)) (q (r 0 [FA 167 0 2,LA 168 167,UA 169 (n (t 168)),CA 170 0]) (z 10 (.loop c6l5))))))
 (r 0 [UA 185 (b .add d (t 156) (k (i j 1))),MA 156 185])))
def c6 : LCode :=
 (q (r 2 [UA 2 (u 0 (t 0)),UA 3 (u 1 (t 1)),UA 4 (m (k (y g)))]) (q (q (r 0 [SA 22 2 2,UA 23 (.call 19 [(t 22)]),UA 24 (.not (t 23)),MA 25 24,GA 26 (l (s 2) (t 2)) 25 g,
 (GA 27 (l (s 5) (t 3)) 25 g),GA 28 (.call 32 [(t 26),(t 27)]) 25 g,GA 29 (.not (t 28)) 25 g,UA 30 (p (t 25) (k (y d)) (t 29))]) (c (t 30) (q (r 0 [UA 31 (.call 10 []),MA 4 31])
 .ret) .skip)) (q (r 1 [UA 5 (.alloc 0 (.agg (Array.replicate 10 (i j 0))))]) (q (r 2 [UA 6 (.alloc 0 (.agg (Array.replicate 100 (i j 0)))),UA 7 (.alloc 1 (.agg (Array.replicate 100 (i j 0))))])
 (q (q (r 0 [FA 32 1 2,LA 33 32,UA 34 (n (t 33)),CA 35 0]) (z 0 (.loop c6l0))) (q (q (r 0 [FA 52 0 2,LA 53 52,UA 54 (n (t 53)),CA 55 0])
 (z 2 (.loop c6l1))) (q (q (r 0 [FA 153 0 2,LA 154 153,UA 155 (n (t 154)),CA 156 0]) (z 8 (.loop c6l4))) (q (r 0 [UA 186 (.call 10 []),MA 4 186]) .ret))))))))
 
def c10 : LCode :=
 (q (r 0 [UA 0 (m (k (y g)))]) (q (r 1 [UA 12 (.call 42 []),UA 1 (.alloc 0 (.agg #[.slice o 0 0,.slice o 0 0])),WA 2 1 12]) (q (r 1 [SA 14 2 1,UA 15 (.call 13 [(t 14)]),
 (MA 13 15),UA 16 (.ext (t 13) 0),UA 17 (.ext (t 13) 1),UA 2 (.alloc 0 (.agg #[i j 0,i j 0,.slice o 0 0,.slice o 0 0,.slice o 0 0])),WA 5 2 16,MA 3 17]) (q (q (r 0 [
 (MA 18 3),UA 19 (b .neq g (t 18) (k (i j 0))),MA 20 19,GA 21 (l (s 2) (t 1)) 20 g,GA 22 (l (s 5) (t 2)) 20 g,GA 23 (.call 20 [(t 21),(t 22)]) 20 g,GA 24 (b .neq g (t 23) (k (i j 0))) 20 g,
 (UA 25 (p (t 20) (k (y d)) (t 24))),MA 26 25,GA 27 (f 0 (t 2)) 26 g,GA 28 (l o (t 27)) 26 g,GA 29 (b .neq g (t 28) (k (i j 4))) 26 g,UA 30 (p (t 26) (k (y d)) (t 29)),MA 31 30,
 (GA 32 (f 1 (t 2)) 31 g),GA 33 (l o (t 32)) 31 g,GA 34 (b .neq g (t 33) (k (i j 8))) 31 g,UA 35 (p (t 31) (k (y d)) (t 34)),MA 36 35,GA 37 (l (s 2) (t 1)) 36 g,GA 38 (.call 17 [(t 37)]) 36 g,
 (GA 39 (b .neq g (t 38) (k (i j 8))) 36 g),UA 40 (p (t 36) (k (y d)) (t 39)),MA 41 40,GA 42 (l (s 2) (t 1)) 41 g,GA 43 (.call 15 [(t 42)]) 41 g,GA 44 (.field 1 o (t 43)) 41 g,
 (GA 45 (n (t 44)) 41 g),GA 46 (b .neq g (t 45) (k (i j 11))) 41 g,UA 47 (p (t 41) (k (y d)) (t 46))]) (c (t 47) (q (r 0 [UA 0 (m (k (y g)))]) .ret) .skip)) (q (q (r 1 [UA 48 (.lits 0 1 4 [i j 0] [(0,(k (i j 4))),(1,(k (i j 0))),(2,(k (i j 4))),(3,(k (i j 4)))]),
 (UA 49 (n (t 48))),CA 50 0]) (z 0 (.loop (q (r 0 [UA 51 (b .lss g (t 50) (t 49))]) (q (c (t 51) .skip (.exit 0)) (q (z 1 (q (r 0 [MA 52 50,XA 53 1 48 50,LA 54 53,
 (MA 4 52),MA 5 54]) (q (r 0 [SA 55 2 1,SA 56 5 2,MA 57 4,UA 58 (.call 22 [(t 55),(t 56),(t 57)]),MA 59 5,UA 60 (b .neq g (t 58) (t 59))])
 (c (t 60) (q (r 0 [UA 0 (m (k (y g)))]) .ret) .skip)))) (r 0 [UA 61 (b .add d (t 50) (k (i j 1))),MA 50 61]))))))) (q (r 0 [SA 63 2 1,SA 64 5 2,UA 65 (.call 24 [(t 63),(t 64),(k (i j 0)),(k (i j 3))]),
 (MA 62 65),UA 66 (.ext (t 62) 0),UA 67 (.ext (t 62) 1),MA 6 66,MA 7 67]) (q (r 0 [SA 69 2 1,SA 70 5 2,UA 71 (.call 24 [(t 69),(t 70),(k (i j 0)),(k (i j 4))]),
 (MA 68 71),UA 72 (.ext (t 68) 0),UA 73 (.ext (t 68) 1),MA 8 72,MA 9 73]) (q (r 0 [SA 74 2 1,SA 75 5 2,UA 76 (.call 30 [(t 74),(t 75)]),MA 10 76])
 (q (r 1 [MA 77 10,UA 78 (.build [i j 0,i j 0,i j 0] [(0,1,(k (i j 10))),(1,1,(k (i j 7))),(2,1,(k (i j 3)))]),UA 79 (.build [i j 0,i j 0,i j 0] [(0,1,(k (i j 11))),(1,1,(k (i j 7))),(2,1,(k (i j 3)))]),
 (UA 80 (.lits 0 3 2 [i j 0,i j 0,i j 0] [(0,(t 78)),(1,(t 79))])),UA 81 (.call 33 [(t 77),(t 80)]),MA 11 81]) (q (r 4 [MA 82 7,UA 83 (b .eql g (t 82) (k (i j 0))),MA 84 83,
 (GA 85 (m (t 9)) 84 d),GA 86 (b .eql g (t 85) (k (i j 1))) 84 d,UA 87 (p (t 84) (t 86) (k (y g))),MA 88 87,GA 89 (m (t 6)) 88 d,GA 90 (.lits 0 1 3 [i j 0] [(0,(k (i j 0))),(1,(k (i j 2))),(2,(k (i j 3)))]) 88 d,
 (GA 91 (.call 26 [(t 89),(t 90)]) 88 d),UA 92 (p (t 88) (t 91) (k (y g))),MA 93 92,GA 94 (l (s 2) (t 1)) 93 d,GA 95 (l (s 5) (t 2)) 93 d,GA 96 (.call 27 [(t 94),(t 95)]) 93 d,
 (GA 97 (.lits 1 1 2 [i j 0] [(0,(k (i j 0))),(1,(k (i j 1)))]) 93 d),GA 98 (.call 26 [(t 96),(t 97)]) 93 d,UA 99 (p (t 93) (t 98) (k (y g))),MA 100 99,GA 101 (m (t 10)) 100 d,
 (GA 102 (.build [i j 0,i j 0,i j 0] [(0,1,(k (i j 10))),(1,1,(k (i j 7))),(2,1,(k (i j 4)))]) 100 d),GA 103 (.lits 2 3 1 [i j 0,i j 0,i j 0] [(0,(t 102))]) 100 d,GA 104 (.call 29 [(t 101),(t 103)]) 100 d,
 (UA 105 (p (t 100) (t 104) (k (y g)))),MA 106 105,GA 107 (m (t 11)) 106 d,GA 108 (.build [i j 0,i j 0,i j 0] [(0,1,(k (i j 10))),(1,1,(k (i j 7))),(2,1,(k (i j 3)))]) 106 d,GA 109 (.lits 3 3 1 [i j 0,i j 0,i j 0] [(0,(t 108))]) 106 d,
 (GA 110 (.call 29 [(t 107),(t 109)]) 106 d),UA 111 (p (t 106) (t 110) (k (y g))),MA 0 111]) .ret)))))))))) 
def c11l0 : LCode :=
 q (r 0 [UA 23 (b .lss g (t 22) (t 21))]) (q (c (t 23) .skip (.exit 0)) (q (z 1 (q (r 1 [XA 24 3 20 22,SA 25 3 24,UA 5 (.alloc 0 (.agg #[i j 0,i j 0,i j 0])),WA 3 5 25])
 (q (q (r 0 [SA 26 3 5,UA 27 (.call 43 [(t 26)]),UA 28 (.not (t 27))]) (c (t 28) (q (r 0 [CA 2 400]) .ret) .skip)) (q (r 0 [FA 29 2 5,⟨o,w 1 (t 29) (k (i j 0)),o⟩])
 (q (q (r 0 [MA 30 3,SA 31 3 5,UA 32 (.eff (.look [(0,(.int .i64)),(1,(.int .i64)),(2,(.int .i64))] (.bool g) g) 0 [(t 30),(t 31)])]) (c (t 32) (q (r 0 [CA 2 6])
 .ret) .skip)) (r 0 [MA 33 3,SA 34 3 5,⟨o,.eff (.mset [(0,(.int .i64)),(1,(.int .i64)),(2,(.int .i64))]) 0 [(t 33),(t 34),(k (y d))],o⟩])))))) (r 0 [UA 35 (b .add d (t 22) (k (i j 1))),
 (MA 22 35)])))
def c11l1 : LCode :=
 q (r 0 [UA 40 (b .lss g (t 39) (t 38))]) (q (c (t 40) .skip (.exit 2)) (q (z 3 (q (r 1 [XA 41 4 37 39,SA 42 4 41,UA 7 (.alloc 0 (.agg #[i j 0,i j 0,i j 0,i j 0])),WA 4 7 42])
 (q (r 0 [FA 43 0 7,LA 44 43,FA 45 1 7,LA 46 45,FA 47 2 7,LA 48 47,FA 49 3 7,LA 50 49,UA 51 (.prim (.mm g) [(t 44),(t 46),(t 48),(t 50)]),
 (UA 52 (b .lss g (t 51) (k (i j 0)))),MA 53 52,GA 54 (f 0 (t 7)) 53 g,GA 55 (l o (t 54)) 53 g,GA 56 (f 1 (t 7)) 53 g,GA 57 (l o (t 56)) 53 g,GA 58 (.minmax d (t 55) (t 57)) 53 g,
 (GA 59 (f 0 (t 1)) 53 g),GA 60 (l o (t 59)) 53 g,GA 61 (n (t 60)) 53 g,GA 62 (b .geq g (t 58) (t 61)) 53 g,UA 63 (p (t 53) (k (y d)) (t 62)),MA 64 63,GA 65 (f 0 (t 7)) 64 g,
 (GA 66 (l o (t 65)) 64 g),GA 67 (f 1 (t 7)) 64 g,GA 68 (l o (t 67)) 64 g,GA 69 (b .eql g (t 66) (t 68)) 64 g,UA 70 (p (t 64) (k (y d)) (t 69)),MA 71 70,GA 72 (f 2 (t 7)) 71 g,
 (GA 73 (l o (t 72)) 71 g),GA 74 (b .gtr g (t 73) (k (i j 1073741824))) 71 g,UA 75 (p (t 71) (k (y d)) (t 74)),MA 76 75,GA 77 (f 3 (t 7)) 76 g,GA 78 (l o (t 77)) 76 g,
 (GA 79 (b .gtr g (t 78) (k (i j 1048576))) 76 g),UA 80 (p (t 76) (k (y d)) (t 79)),MA 81 80,GA 82 (f 0 (t 1)) 81 g,GA 83 (l o (t 82)) 81 g,GA 84 (f 0 (t 7)) 81 g,GA 85 (l o (t 84)) 81 g,
 (GA 86 (x 3 (t 83) (t 85)) 81 g),GA 87 (f 0 (t 86)) 81 g,GA 88 (l o (t 87)) 81 g,GA 89 (b .eql g (t 88) (k (i j 3))) 81 g,UA 90 (p (t 81) (k (y d)) (t 89)),MA 91 90,GA 92 (f 0 (t 1)) 91 g,
 (GA 93 (l o (t 92)) 91 g),GA 94 (f 1 (t 7)) 91 g,GA 95 (l o (t 94)) 91 g,GA 96 (x 3 (t 93) (t 95)) 91 g,GA 97 (f 0 (t 96)) 91 g,GA 98 (l o (t 97)) 91 g,GA 99 (b .eql g (t 98) (k (i j 1))) 91 g,
 (UA 100 (p (t 91) (k (y d)) (t 99)))]) (c (t 100) (q (r 0 [CA 2 400]) .ret) .skip)))) (r 0 [UA 101 (b .add d (t 39) (k (i j 1))),MA 39 101])))
def c11 : LCode :=
 (q (r 1 [UA 1 (u 0 (t 0)),CA 2 0]) (q (q (r 0 [FA 8 0 1,LA 9 8,UA 10 (n (t 9)),UA 11 (b .gtr g (t 10) (k (i j 100))),MA 12 11,GA 13 (f 1 (t 1)) 12 g,
 (GA 14 (l o (t 13)) 12 g),GA 15 (n (t 14)) 12 g,GA 16 (b .gtr g (t 15) (k (i j 1500))) 12 g,UA 17 (p (t 12) (k (y d)) (t 16))]) (c (t 17) (q (r 0 [CA 2 2]) .ret) .skip))
 (q (r 1 [UA 18 (.mkmap 0 o),MA 3 18]) (q (q (r 0 [FA 19 0 1,LA 20 19,UA 21 (n (t 20)),CA 22 0]) (z 0 (.loop c11l0))) (q (q (r 0 [FA 36 1 1,
 (LA 37 36),UA 38 (n (t 37)),CA 39 0]) (z 2 (.loop c11l1))) (q (r 0 [CA 2 0]) .ret)))))) 
def c12l1 : LCode :=
 q (q (r 0 [MA 33 5,MA 34 3,UA 35 (b .lss g (t 33) (t 34))]) (c (t 35) .skip (.exit 2))) (q (z 3 (q (.qui 0 [FA 38 0 1,LA 39 38,MA 40 5,XA 41 3 39 40,
 (FA 42 0 41),LA 43 42,FA 44 0 1,LA 45 44,MA 46 3,XA 47 3 45 46,FA 48 0 47,LA 49 48,UA 50 (b .eql g (t 43) (t 49)),
 (MA 51 50),GA 52 (f 0 (t 1)) 51 d,GA 53 (l o (t 52)) 51 d,GA 54 (m (t 5)) 51 d,GA 55 (x 3 (t 53) (t 54)) 51 d,GA 56 (f 1 (t 55)) 51 d,GA 57 (l o (t 56)) 51 d,
 (GA 58 (f 0 (t 1)) 51 d),GA 59 (l o (t 58)) 51 d,GA 60 (m (t 3)) 51 d,GA 61 (x 3 (t 59) (t 60)) 51 d,GA 62 (f 1 (t 61)) 51 d,GA 63 (l o (t 62)) 51 d,GA 64 (b .eql g (t 57) (t 63)) 51 d,
 (UA 65 (p (t 51) (t 64) (k (y g))))]) (c (t 65) (q (r 0 [CA 2 6]) .ret) .skip))) (r 0 [MA 36 5,UA 37 (b .add d (t 36) (k (i j 1))),MA 5 37]))
def c12l0 : LCode :=
 q (q (r 0 [MA 18 3,FA 19 0 1,LA 20 19,UA 21 (n (t 20)),UA 22 (b .lss g (t 18) (t 21))]) (c (t 22) .skip (.exit 0))) (q (z 1 (q (r 0 [FA 25 0 1,LA 26 25,
 (MA 27 3),XA 28 3 26 27,SA 29 3 28,UA 30 (.call 44 [(t 29)]),MA 4 30]) (q (q (r 0 [MA 31 4,UA 32 (.not (t 31))]) (c (t 32) (q (r 0 [CA 2 400])
 .ret) .skip)) (q (r 0 [CA 5 0]) (z 2 (.loop c12l1)))))) (r 0 [MA 23 3,UA 24 (b .add d (t 23) (k (i j 1))),MA 3 24]))
def c12l2 : LCode :=
 q (q (r 0 [MA 66 6,FA 67 1 1,LA 68 67,UA 69 (n (t 68)),UA 70 (b .lss g (t 66) (t 69))]) (c (t 70) .skip (.exit 4))) (q (z 5 (q (.tail 6 0 [SA 73 2 1,
 (FA 74 1 1),LA 75 74,MA 76 6,XA 77 4 75 76,SA 78 4 77,UA 79 (.call 45 [(t 73),(t 78)]),MA 7 79]) (q (r 0 [MA 80 7,UA 81 (.not (t 80))])
 (c (t 81) (q (r 0 [CA 2 400]) .ret) .skip)))) (r 0 [MA 71 6,UA 72 (b .add d (t 71) (k (i j 1))),MA 6 72]))
def c12 : LCode :=
 (q (r 1 [UA 1 (u 0 (t 0)),CA 2 0]) (q (q (r 0 [FA 8 0 1,LA 9 8,UA 10 (n (t 9)),UA 11 (b .gtr g (t 10) (k (i j 100))),MA 12 11,GA 13 (f 1 (t 1)) 12 g,
 (GA 14 (l o (t 13)) 12 g),GA 15 (n (t 14)) 12 g,GA 16 (b .gtr g (t 15) (k (i j 1500))) 12 g,UA 17 (p (t 12) (k (y d)) (t 16))]) (c (t 17) (q (r 0 [CA 2 2]) .ret) .skip))
 (q (q (r 0 [CA 3 0]) (z 0 (.loop c12l0))) (q (q (r 0 [CA 6 0]) (z 4 (.loop c12l2))) (q (r 0 [CA 2 0]) .ret))))) 
def c13 : LCode :=
 (q (r 2 [UA 1 (u 0 (t 0)),UA 2 (.alloc 1 (.agg #[i j 0,i j 0,.slice o 0 0,.slice o 0 0,.slice o 0 0])),CA 3 0]) (q (q (r 0 [SA 5 2 1,UA 6 (.call 11 [(t 5)]),MA 4 6])
 (q (r 0 [MA 7 4,UA 8 (b .neq g (t 7) (k (i j 0)))]) (c (t 8) (q (r 0 [UA 9 (.build [i j 0,i j 0,.slice o 0 0,.slice o 0 0,.slice o 0 0] []),MA 10 4,WA 5 2 9,MA 3 10])
 .ret) .skip))) (q (.tree 0 (v 0 [1,3,4,5,6,7,8] (SA 11 2 1) (v 2 [3,4,5,6,7,8] (SA 13 2 1) (h 1 (UA 12 (.call 15 [(t 11)])) d (h 3 (UA 14 (.call 17 [(t 13)])) g (h 4 (UA 15 (.call 46 [(t 12),(k (i j 0)),(k (i j 1)),(t 14)])) g
 (v 5 [7,8] (UA 16 (.ext (t 15) 0)) (v 6 [7,8] (UA 17 (.ext (t 15) 1)) (h 7 (WA 5 2 16) g (v 8 [] (MA 3 17) .done) .none))) .none) .none) .none)))) .ret))) 
def c15l0 : LCode :=
 q (r 0 [UA 22 (b .lss g (t 21) (t 20))]) (q (c (t 22) .skip (.exit 0)) (q (z 1 (q (r 1 [MA 23 21,XA 24 3 19 21,SA 25 3 24,UA 5 (.alloc 0 (.agg #[i j 0,i j 0,i j 0])),
 (MA 4 23),WA 3 5 25]) (r 2 [FA 26 1 3,LA 27 26,MA 28 4,UA 29 (b .mul d (k (i j 2)) (t 28)),UA 30 (b .add d (k (i j 2)) (t 29)),MA 31 4,
 (UA 32 (b .mul d (k (i j 2)) (t 31))),UA 33 (b .add d (k (i j 3)) (t 32)),FA 34 2 5,LA 35 34,UA 36 (.build [i j 0,i j 0,i j 0,i j 0] [(0,1,(t 30)),(1,1,(t 33)),(2,1,(t 35))]),
 (UA 37 (.lits 0 4 1 [i j 0,i j 0,i j 0,i j 0] [(0,(t 36))])),UA 38 (.append 1 4 32 (t 27) (t 37)),FA 39 1 3,WA 1 39 38]))) (r 0 [UA 40 (b .add d (t 21) (k (i j 1))),MA 21 40])))
def c15l1 : LCode :=
 q (r 0 [UA 45 (b .lss g (t 44) (t 43))]) (q (c (t 45) .skip (.exit 2)) (q (z 3 (q (r 0 [XA 46 1 42 44,LA 47 46,MA 7 47]) (.tree 2 (v 0 [1,13,14,15] (FA 48 1 3)
 (v 1 [13,14,15] (LA 49 48) (v 2 [3,4,11,12,13,14,15] (MA 50 7) (v 3 [4,11,12,13,14,15] (UA 51 (b .mul d (k (i j 2)) (t 50))) (v 4 [11,12,13,14,15] (UA 52 (b .add d (k (i j 2)) (t 51))) (v 5 [6,8,9,10,11,12,13,14,15] (FA 53 0 1)
 (v 6 [8,9,10,11,12,13,14,15] (LA 54 53) (v 7 [8,9,10,11,12,13,14,15] (MA 55 7) (v 8 [9,10,11,12,13,14,15] (XA 56 3 54 55) (v 9 [10,11,12,13,14,15] (FA 57 2 56) (v 10 [11,12,13,14,15] (LA 58 57)
 (v 11 [12,13,14,15] (UA 59 (.build [i j 0,i j 0,i j 0,i j 0] [(1,1,(t 52)),(2,1,(t 58))])) (h 12 (UA 60 (.lits 0 4 1 [i j 0,i j 0,i j 0,i j 0] [(0,(t 59))])) d (h 13 (UA 61 (.append 1 4 32 (t 49) (t 60))) g
 (v 14 [15] (FA 62 1 3) (h 15 (WA 1 62 61) g .done .none)) .none) .none)))))))))))))))) (r 0 [UA 63 (b .add d (t 44) (k (i j 1))),MA 44 63])))
def c15l2 : LCode :=
 q (r 0 [UA 68 (b .lss g (t 67) (t 66))]) (q (c (t 68) .skip (.exit 4)) (q (z 5 (q (r 0 [XA 69 1 65 67,LA 70 69,MA 9 70]) (.tree 2 (v 0 [1,13,14,15] (FA 71 1 3)
 (v 1 [13,14,15] (LA 72 71) (v 2 [3,4,11,12,13,14,15] (MA 73 9) (v 3 [4,11,12,13,14,15] (UA 74 (b .mul d (k (i j 2)) (t 73))) (v 4 [11,12,13,14,15] (UA 75 (b .add d (k (i j 3)) (t 74))) (v 5 [6,8,9,10,11,12,13,14,15] (FA 76 0 1)
 (v 6 [8,9,10,11,12,13,14,15] (LA 77 76) (v 7 [8,9,10,11,12,13,14,15] (MA 78 9) (v 8 [9,10,11,12,13,14,15] (XA 79 3 77 78) (v 9 [10,11,12,13,14,15] (FA 80 2 79) (v 10 [11,12,13,14,15] (LA 81 80)
 (v 11 [12,13,14,15] (UA 82 (.build [i j 0,i j 0,i j 0,i j 0] [(0,1,(t 75)),(1,1,(k (i j 1))),(2,1,(t 81))])) (h 12 (UA 83 (.lits 0 4 1 [i j 0,i j 0,i j 0,i j 0] [(0,(t 82))])) d (h 13 (UA 84 (.append 1 4 32 (t 72) (t 83))) g
 (v 14 [15] (FA 85 1 3) (h 15 (WA 1 85 84) g .done .none)) .none) .none)))))))))))))))) (r 0 [UA 86 (b .add d (t 67) (k (i j 1))),MA 67 86])))
def c15l3 : LCode :=
 q (r 0 [UA 91 (b .lss g (t 90) (t 89))]) (q (c (t 91) .skip (.exit 6)) (q (z 7 (q (r 1 [XA 92 4 88 90,SA 93 4 92,UA 11 (.alloc 0 (.agg #[i j 0,i j 0,i j 0,i j 0])),WA 4 11 93])
 (r 2 [FA 94 1 3,LA 95 94,FA 96 0 11,LA 97 96,UA 98 (b .mul d (k (i j 2)) (t 97)),UA 99 (b .add d (k (i j 3)) (t 98)),FA 100 1 11,LA 101 100,
 (UA 102 (b .mul d (k (i j 2)) (t 101))),UA 103 (b .add d (k (i j 2)) (t 102)),FA 104 2 11,LA 105 104,FA 106 3 11,LA 107 106,UA 108 (.build [i j 0,i j 0,i j 0,i j 0] [(0,1,(t 99)),(1,1,(t 103)),(2,1,(t 105)),(3,1,(t 107))]),
 (UA 109 (.lits 0 4 1 [i j 0,i j 0,i j 0,i j 0] [(0,(t 108))])),UA 110 (.append 1 4 32 (t 95) (t 109)),FA 111 1 3,WA 1 111 110]))) (r 0 [UA 112 (b .add d (t 90) (k (i j 1))),
 (MA 90 112)])))
def c15 : LCode :=
 (q (r 2 [UA 1 (u 0 (t 0)),UA 2 (.alloc 1 (.agg #[i j 0,.slice o 0 0]))]) (q (r 1 [FA 12 0 1,LA 13 12,UA 14 (n (t 13)),UA 15 (b .mul d (k (i j 2)) (t 14)),UA 16 (b .add d (k (i j 2)) (t 15)),
 (UA 17 (.build [i j 0,.slice o 0 0] [(0,1,(t 16))])),UA 3 (.alloc 0 (.agg #[i j 0,.slice o 0 0])),WA 2 3 17]) (q (q (r 0 [FA 18 0 1,LA 19 18,UA 20 (n (t 19)),CA 21 0])
 (z 0 (.loop c15l0))) (q (q (r 0 [SA 41 2 1,UA 42 (.call 47 [(t 41),(k (i j 1))]),UA 43 (n (t 42)),CA 44 0]) (z 2 (.loop c15l1))) (q (q (r 0 [SA 64 2 1,
 (UA 65 (.call 47 [(t 64),(k (i j 3))])),UA 66 (n (t 65)),CA 67 0]) (z 4 (.loop c15l2))) (q (q (r 0 [FA 87 1 1,LA 88 87,UA 89 (n (t 88)),CA 90 0])
 (z 6 (.loop c15l3))) (q (r 0 [SA 113 2 3,WA 2 2 113]) .ret))))))) 
def c16l0 : LCode :=
 q (q (r 0 [MA 15 4,FA 16 0 1,LA 17 16,UA 18 (n (t 17)),UA 19 (b .lss g (t 15) (t 18))]) (c (t 19) .skip (.exit 0))) (q (z 1 (.tree 2 (v 0 [1,16,17,18] (FA 22 1 3)
 (v 1 [16,17,18] (LA 23 22) (v 2 [3,4,14,15,16,17,18] (MA 24 4) (v 3 [4,14,15,16,17,18] (UA 25 (b .mul d (k (i j 2)) (t 24))) (v 4 [14,15,16,17,18] (UA 26 (b .add d (k (i j 2)) (t 25))) (v 5 [6,7,14,15,16,17,18] (MA 27 4)
 (v 6 [7,14,15,16,17,18] (UA 28 (b .mul d (k (i j 2)) (t 27))) (v 7 [14,15,16,17,18] (UA 29 (b .add d (k (i j 3)) (t 28))) (v 8 [9,11,12,13,14,15,16,17,18] (FA 30 0 1) (v 9 [11,12,13,14,15,16,17,18] (LA 31 30)
 (v 10 [11,12,13,14,15,16,17,18] (MA 32 4) (v 11 [12,13,14,15,16,17,18] (XA 33 3 31 32) (v 12 [13,14,15,16,17,18] (FA 34 2 33) (v 13 [14,15,16,17,18] (LA 35 34) (v 14 [15,16,17,18] (UA 36 (.build [i j 0,i j 0,i j 0,i j 0] [(0,1,(t 26)),(1,1,(t 29)),(2,1,(t 35))]))
 (h 15 (UA 37 (.lits 0 4 1 [i j 0,i j 0,i j 0,i j 0] [(0,(t 36))])) d (h 16 (UA 38 (.append 1 4 32 (t 23) (t 37))) g (v 17 [18] (FA 39 1 3) (h 18 (WA 1 39 38) g .done .none)) .none) .none))))))))))))))))))
 (r 0 [MA 20 4,UA 21 (b .add d (t 20) (k (i j 1))),MA 4 21]))
def c16l1 : LCode :=
 q (q (r 0 [MA 40 5,FA 41 0 1,LA 42 41,UA 43 (n (t 42)),UA 44 (b .lss g (t 40) (t 43))]) (c (t 44) .skip (.exit 2))) (q (z 3 (q (r 0 [FA 47 0 1,LA 48 47,
 (MA 49 5),XA 50 3 48 49,FA 51 0 50,LA 52 51,UA 53 (b .eql g (t 52) (k (i j 1)))]) (c (t 53) (.tree 2 (v 0 [1,13,14,15] (FA 54 1 3) (v 1 [13,14,15] (LA 55 54)
 (v 2 [3,4,11,12,13,14,15] (MA 56 5) (v 3 [4,11,12,13,14,15] (UA 57 (b .mul d (k (i j 2)) (t 56))) (v 4 [11,12,13,14,15] (UA 58 (b .add d (k (i j 2)) (t 57))) (v 5 [6,8,9,10,11,12,13,14,15] (FA 59 0 1)
 (v 6 [8,9,10,11,12,13,14,15] (LA 60 59) (v 7 [8,9,10,11,12,13,14,15] (MA 61 5) (v 8 [9,10,11,12,13,14,15] (XA 62 3 60 61) (v 9 [10,11,12,13,14,15] (FA 63 2 62) (v 10 [11,12,13,14,15] (LA 64 63)
 (v 11 [12,13,14,15] (UA 65 (.build [i j 0,i j 0,i j 0,i j 0] [(0,1,(k (i j 0))),(1,1,(t 58)),(2,1,(t 64))])) (h 12 (UA 66 (.lits 0 4 1 [i j 0,i j 0,i j 0,i j 0] [(0,(t 65))])) d (h 13 (UA 67 (.append 1 4 32 (t 55) (t 66))) g
 (v 14 [15] (FA 68 1 3) (h 15 (WA 1 68 67) g .done .none)) .none) .none)))))))))))))) .skip))) (r 0 [MA 45 5,UA 46 (b .add d (t 45) (k (i j 1))),MA 5 46]))
def c16l2 : LCode :=
 q (q (r 0 [MA 69 6,FA 70 0 1,LA 71 70,UA 72 (n (t 71)),UA 73 (b .lss g (t 69) (t 72))]) (c (t 73) .skip (.exit 4))) (q (z 5 (q (r 0 [FA 76 0 1,LA 77 76,
 (MA 78 6),XA 79 3 77 78,FA 80 0 79,LA 81 80,UA 82 (b .eql g (t 81) (k (i j 3)))]) (c (t 82) (.tree 2 (v 0 [1,13,14,15] (FA 83 1 3) (v 1 [13,14,15] (LA 84 83)
 (v 2 [3,4,11,12,13,14,15] (MA 85 6) (v 3 [4,11,12,13,14,15] (UA 86 (b .mul d (k (i j 2)) (t 85))) (v 4 [11,12,13,14,15] (UA 87 (b .add d (k (i j 3)) (t 86))) (v 5 [6,8,9,10,11,12,13,14,15] (FA 88 0 1)
 (v 6 [8,9,10,11,12,13,14,15] (LA 89 88) (v 7 [8,9,10,11,12,13,14,15] (MA 90 6) (v 8 [9,10,11,12,13,14,15] (XA 91 3 89 90) (v 9 [10,11,12,13,14,15] (FA 92 2 91) (v 10 [11,12,13,14,15] (LA 93 92)
 (v 11 [12,13,14,15] (UA 94 (.build [i j 0,i j 0,i j 0,i j 0] [(0,1,(t 87)),(1,1,(k (i j 1))),(2,1,(t 93))])) (h 12 (UA 95 (.lits 0 4 1 [i j 0,i j 0,i j 0,i j 0] [(0,(t 94))])) d (h 13 (UA 96 (.append 1 4 32 (t 84) (t 95))) g
 (v 14 [15] (FA 97 1 3) (h 15 (WA 1 97 96) g .done .none)) .none) .none)))))))))))))) .skip))) (r 0 [MA 74 6,UA 75 (b .add d (t 74) (k (i j 1))),MA 6 75]))
def c16l3 : LCode :=
 q (q (r 0 [MA 98 7,FA 99 1 1,LA 100 99,UA 101 (n (t 100)),UA 102 (b .lss g (t 98) (t 101))]) (c (t 102) .skip (.exit 6))) (q (z 7 (q (r 1 [FA 105 1 1,LA 106 105,
 (MA 107 7),XA 108 4 106 107,SA 109 4 108,UA 8 (.alloc 0 (.agg #[i j 0,i j 0,i j 0,i j 0])),WA 4 8 109]) (r 2 [FA 110 1 3,LA 111 110,
 (FA 112 0 8),LA 113 112,UA 114 (b .mul d (k (i j 2)) (t 113)),UA 115 (b .add d (k (i j 3)) (t 114)),FA 116 1 8,LA 117 116,UA 118 (b .mul d (k (i j 2)) (t 117)),
 (UA 119 (b .add d (k (i j 2)) (t 118))),FA 120 2 8,LA 121 120,FA 122 3 8,LA 123 122,UA 124 (.build [i j 0,i j 0,i j 0,i j 0] [(0,1,(t 115)),(1,1,(t 119)),(2,1,(t 121)),(3,1,(t 123))]),
 (UA 125 (.lits 0 4 1 [i j 0,i j 0,i j 0,i j 0] [(0,(t 124))])),UA 126 (.append 1 4 32 (t 111) (t 125)),FA 127 1 3,WA 1 127 126]))) (r 0 [MA 103 7,UA 104 (b .add d (t 103) (k (i j 1))),
 (MA 7 104)]))
def c16 : LCode :=
 (q (r 2 [UA 1 (u 0 (t 0)),UA 2 (.alloc 1 (.agg #[i j 0,.slice o 0 0]))]) (q (r 1 [FA 9 0 1,LA 10 9,UA 11 (n (t 10)),UA 12 (b .mul d (k (i j 2)) (t 11)),UA 13 (b .add d (k (i j 2)) (t 12)),
 (UA 14 (.build [i j 0,.slice o 0 0] [(0,1,(t 13))])),UA 3 (.alloc 0 (.agg #[i j 0,.slice o 0 0])),WA 2 3 14]) (q (q (r 0 [CA 4 0]) (z 0 (.loop c16l0))) (q (q (r 0 [CA 5 0])
 (z 2 (.loop c16l1))) (q (q (r 0 [CA 6 0]) (z 4 (.loop c16l2))) (q (q (r 0 [CA 7 0]) (z 6 (.loop c16l3))) (q (r 0 [SA 128 2 3,WA 2 2 128]) .ret)))))))
 
def c17 : LCode :=
 (q (r 1 [UA 1 (u 0 (t 0)),CA 2 0]) (q (r 0 [CA 3 0]) (q (q (r 0 [SA 6 2 1,UA 7 (.call 47 [(t 6),(k (i j 1))]),UA 8 (n (t 7)),CA 9 0])
 (z 0 (.loop (q (r 0 [UA 10 (b .lss g (t 9) (t 8))]) (q (c (t 10) .skip (.exit 0)) (q (z 1 (q (r 0 [XA 11 1 7 9,LA 12 11,MA 5 12]) (r 0 [MA 13 3,FA 14 0 1,
 (LA 15 14),MA 16 5,XA 17 3 15 16,FA 18 2 17,LA 19 18,UA 20 (b .add d (t 13) (t 19)),MA 3 20]))) (r 0 [UA 21 (b .add d (t 9) (k (i j 1))),
 (MA 9 21)]))))))) (q (r 0 [MA 22 3,MA 2 22]) .ret)))) 
def c18l0 : LCode :=
 q (q (r 0 [MA 5 4,FA 6 0 1,LA 7 6,UA 8 (n (t 7)),UA 9 (b .lss g (t 5) (t 8))]) (c (t 9) .skip (.exit 0))) (q (z 1 (q (r 0 [FA 12 0 1,LA 13 12,
 (MA 14 4),XA 15 3 13 14,FA 16 0 15,LA 17 16,UA 18 (b .eql g (t 17) (k (i j 1)))]) (c (t 18) (r 0 [MA 19 3,FA 20 0 1,LA 21 20,
 (MA 22 4),XA 23 3 21 22,FA 24 2 23,LA 25 24,UA 26 (b .add d (t 19) (t 25)),MA 3 26]) .skip))) (r 0 [MA 10 4,UA 11 (b .add d (t 10) (k (i j 1))),
 (MA 4 11)]))
def c18 : LCode :=
 (q (r 1 [UA 1 (u 0 (t 0)),CA 2 0]) (q (r 0 [CA 3 0]) (q (q (r 0 [CA 4 0]) (z 0 (.loop c18l0))) (q (r 0 [MA 27 3,MA 2 27]) .ret))))
 
def c19 : LCode :=
 (q (r 1 [UA 1 (u 0 (t 0)),UA 2 (m (k (y g)))]) (q (r 0 [SA 4 2 1,UA 5 (.call 12 [(t 4)]),MA 3 5]) (q (r 0 [MA 6 3,UA 7 (b .eql g (t 6) (k (i j 0))),MA 8 7,
 (GA 9 (f 0 (t 1)) 8 d),GA 10 (l o (t 9)) 8 d,GA 11 (n (t 10)) 8 d,GA 12 (b .leq g (t 11) (k (i j 10))) 8 d,UA 13 (p (t 8) (t 12) (k (y g))),MA 14 13,GA 15 (f 1 (t 1)) 14 d,
 (GA 16 (l o (t 15)) 14 d),GA 17 (n (t 16)) 14 d,GA 18 (b .leq g (t 17) (k (i j 25))) 14 d,UA 19 (p (t 14) (t 18) (k (y g))),MA 2 19]) .ret))) 
def c20 : LCode :=
 (q (r 2 [UA 2 (u 0 (t 0)),UA 3 (u 1 (t 1)),CA 4 0]) (q (q (r 0 [SA 6 2 2,UA 7 (.call 11 [(t 6)]),MA 5 7]) (q (r 0 [MA 8 5,UA 9 (b .neq g (t 8) (k (i j 0)))])
 (c (t 9) (q (r 0 [MA 10 5,MA 4 10]) .ret) .skip))) (q (.tree 0 (v 0 [1,3,5,6] (SA 11 2 2) (v 2 [3,5,6] (SA 13 2 2) (v 4 [5,6] (SA 15 5 3) (h 1 (UA 12 (.call 15 [(t 11)])) d
 (h 3 (UA 14 (.call 17 [(t 13)])) d (h 5 (UA 16 (.call 48 [(t 12),(k (i j 0)),(k (i j 1)),(t 14),(t 15)])) g (v 6 [] (MA 4 16) .done) .none) .none) .none))))) .ret))) 
def c21 : LCode :=
 (q (r 2 [UA 2 (u 0 (t 0)),UA 3 (u 1 (t 1)),CA 4 0]) (q (r 0 [SA 6 2 2,UA 7 (.call 12 [(t 6)]),MA 5 7]) (q (q (r 0 [MA 8 5,UA 9 (b .neq g (t 8) (k (i j 0)))])
 (c (t 9) (q (r 0 [MA 10 5,MA 4 10]) .ret) .skip)) (q (.tree 0 (v 0 [1,3,5,6] (SA 11 2 2) (v 2 [3,5,6] (SA 13 2 2) (v 4 [5,6] (SA 15 5 3) (h 1 (UA 12 (.call 16 [(t 11)])) d
 (h 3 (UA 14 (.call 18 [(t 13)])) d (h 5 (UA 16 (.call 49 [(t 12),(k (i j 0)),(k (i j 1)),(t 14),(t 15)])) g (v 6 [] (MA 4 16) .done) .none) .none) .none))))) .ret)))) 
def c22 : LCode :=
 (q (r 2 [UA 3 (u 0 (t 0)),UA 4 (u 1 (t 1)),CA 6 0]) (q (q (r 0 [MA 7 2,UA 8 (b .lss g (t 7) (k (i j 0))),MA 9 8,GA 10 (m (t 2)) 9 g,GA 11 (f 0 (t 3)) 9 g,
 (GA 12 (l o (t 11)) 9 g),GA 13 (n (t 12)) 9 g,GA 14 (b .geq g (t 10) (t 13)) 9 g,UA 15 (p (t 9) (k (y d)) (t 14))]) (c (t 15) (q (r 0 [CA 6 0]) .ret) .skip)) (q (r 0 [
 (FA 16 2 4),LA 17 16,MA 18 2,XA 19 1 17 18,LA 20 19,MA 6 20]) .ret))) 
def c24a0 : LCode :=
 q (r 0 [MA 10 38]) (r 0 [MA 11 39])
def c24r0 : LCode :=
 z 2 (q (q (r 0 [LA 40 7,MA 41 10,UA 42 (b .lss g (t 40) (t 41))]) (c (t 42) (q (r 0 [MA 43 11,WA 1 8 43,⟨o,w 1 (t 9) (k (i j 0)),o⟩]) .ret) .skip)) (r 0 [
 (LA 44 7),MA 45 10,UA 46 (b .sub d (t 44) (t 45)),WA 1 7 46]))
def c24 : LCode :=
 (q (r 5 [UA 4 (u 0 (t 0)),UA 5 (u 1 (t 1)),UA 7 (u 2 (t 3)),UA 8 (.alloc 3 (.slice o 0 0)),UA 9 (.alloc 4 (i j 0))]) (q (z 0 (q (r 0 [MA 13 2,UA 14 (b .lss g (t 13) (k (i j 0))),
 (MA 15 14),GA 16 (m (t 2)) 15 g,GA 17 (f 0 (t 4)) 15 g,GA 18 (l o (t 17)) 15 g,GA 19 (n (t 18)) 15 g,GA 20 (b .geq g (t 16) (t 19)) 15 g,UA 21 (p (t 15) (k (y d)) (t 20)),
 (MA 22 21),GA 23 (f 0 (t 4)) 22 g,GA 24 (l o (t 23)) 22 g,GA 25 (m (t 2)) 22 g,GA 26 (x 3 (t 24) (t 25)) 22 g,GA 27 (f 0 (t 26)) 22 g,GA 28 (l o (t 27)) 22 g,
 (GA 29 (b .neq g (t 28) (k (i j 1))) 22 g),UA 30 (p (t 22) (k (y d)) (t 29)),MA 12 30]) (c (t 12) (q (r 0 [⟨o,w 1 (t 8) (k (.slice o 0 0)),o⟩,⟨o,w 1 (t 9) (k (i j 5)),o⟩]) .ret) (q (r 0 [
 (LA 32 7),UA 33 (b .lss g (t 32) (k (i j 0))),MA 31 33]) (c (t 31) (q (r 0 [⟨o,w 1 (t 8) (k (.slice o 0 0)),o⟩,⟨o,w 1 (t 9) (k (i j 1)),o⟩]) .ret) .skip))))) (q (q (r 0 [SA 34 2 4,
 (SA 35 5 5),MA 36 2,UA 37 (.call 50 [(t 34),(t 35),(t 36)])]) (z 1 (.rfn (t 37) [38,39] c24a0 c24r0))) (q (r 0 [⟨o,w 1 (t 8) (k (.slice o 0 0)),o⟩,⟨o,w 1 (t 9) (k (i j 1)),o⟩])
 .ret)))) 
def c26l0 : LCode :=
 q (q (r 0 [MA 11 5,MA 12 0,UA 13 (n (t 12)),UA 14 (b .lss g (t 11) (t 13))]) (c (t 14) .skip (.exit 0))) (q (z 1 (q (.qui 0 [MA 17 0,MA 18 5,XA 19 1 17 18,
 (LA 20 19),MA 21 1,MA 22 5,XA 23 1 21 22,LA 24 23,UA 25 (b .neq g (t 20) (t 24))]) (c (t 25) (q (r 0 [UA 4 (m (k (y g)))]) .ret) .skip))) (r 0 [
 (MA 15 5),UA 16 (b .add d (t 15) (k (i j 1))),MA 5 16]))
def c26 : LCode :=
 (q (r 0 [UA 4 (m (k (y g)))]) (q (q (r 0 [MA 6 0,UA 7 (n (t 6)),MA 8 1,UA 9 (n (t 8)),UA 10 (b .neq g (t 7) (t 9))]) (c (t 10) (q (r 0 [UA 4 (m (k (y g)))]) .ret) .skip))
 (q (q (r 0 [CA 5 0]) (z 0 (.loop c26l0))) (q (r 0 [UA 4 (m (k (y d)))]) .ret)))) 
def c27 : LCode :=
 (q (r 2 [UA 2 (u 0 (t 0)),UA 3 (u 1 (t 1)),UA 4 (m (k (.slice o 0 0)))]) (q (r 0 [SA 5 2 2,UA 6 (.call 47 [(t 5),(k (i j 1))]),UA 7 (.fn 54 [(t 3),(t 2)]),UA 8 (.call 53 [(t 6),(t 7)]),
 (MA 4 8)]) .ret)) 
def c29l0 : LCode :=
 q (q (r 0 [MA 11 5,MA 12 0,UA 13 (n (t 12)),UA 14 (b .lss g (t 11) (t 13))]) (c (t 14) .skip (.exit 0))) (q (z 1 (q (.qui 0 [MA 17 0,MA 18 5,XA 19 3 17 18,
 (SA 20 3 19),MA 21 1,MA 22 5,XA 23 3 21 22,SA 24 3 23,UA 25 (.eqf d [(0,(.int .i64)),(1,(.int .i64)),(2,(.int .i64))] (t 20) (t 24))]) (c (t 25)
 (q (r 0 [UA 4 (m (k (y g)))]) .ret) .skip))) (r 0 [MA 15 5,UA 16 (b .add d (t 15) (k (i j 1))),MA 5 16]))
def c29 : LCode :=
 (q (r 0 [UA 4 (m (k (y g)))]) (q (q (r 0 [MA 6 0,UA 7 (n (t 6)),MA 8 1,UA 9 (n (t 8)),UA 10 (b .neq g (t 7) (t 9))]) (c (t 10) (q (r 0 [UA 4 (m (k (y g)))]) .ret) .skip))
 (q (q (r 0 [CA 5 0]) (z 0 (.loop c29l0))) (q (r 0 [UA 4 (m (k (y d)))]) .ret)))) 
def c30l0 : LCode :=
 q (r 0 [UA 29 (b .lss g (t 28) (t 27))]) (q (c (t 29) .skip (.exit 0)) (q (z 1 (q (r 1 [MA 30 28,XA 31 4 26 28,SA 32 4 31,UA 9 (.alloc 0 (.agg #[i j 0,i j 0,i j 0,i j 0])),
 (MA 8 30),WA 4 9 32]) (q (.tree 2 (v 0 [1,4,5,14,15] (FA 33 0 2) (v 1 [4,5,14,15] (LA 34 33) (v 2 [3,4,5,14,15] (FA 35 0 9) (v 3 [4,5,14,15] (LA 36 35)
 (v 4 [5,14,15] (XA 37 3 34 36) (v 5 [14,15] (SA 38 3 37) (v 6 [7,10,11,15] (FA 39 0 2) (v 7 [10,11,15] (LA 40 39) (v 8 [9,10,11,15] (FA 41 1 9) (v 9 [10,11,15] (LA 42 41)
 (v 10 [11,15] (XA 43 3 40 42) (v 11 [15] (SA 44 3 43) (h 12 (UA 10 (.alloc 0 (.agg #[i j 0,i j 0,i j 0]))) d (h 13 (UA 11 (.alloc 1 (.agg #[i j 0,i j 0,i j 0]))) d (h 14 (WA 3 10 38) d
 (h 15 (WA 3 11 44) g .done .none) .none) .none) (h 13 (UA 11 (.alloc 1 (.agg #[i j 0,i j 0,i j 0]))) d (h 12 (UA 10 (.alloc 0 (.agg #[i j 0,i j 0,i j 0]))) d (h 14 (WA 3 10 38) d (h 15 (WA 3 11 44) g
 .done .none) .none) .none) .none))))))))))))))) (q (q (r 0 [FA 45 0 10,LA 46 45,UA 47 (b .neq g (t 46) (k (i j 2))),MA 48 47,GA 49 (f 0 (t 11)) 48 g,GA 50 (l o (t 49)) 48 g,
 (GA 51 (b .neq g (t 50) (k (i j 3))) 48 g),UA 52 (p (t 48) (k (y d)) (t 51))]) (c (t 52) (.exit 1) .skip)) (q (r 0 [MA 54 6,FA 55 1 10,LA 56 55,FA 57 1 11,
 (LA 58 57),UA 59 (.build [i j 0,i j 0] [(0,1,(t 56)),(1,1,(t 58))]),UA 60 (.eff (.look [(0,(.int .i64)),(1,(.int .i64))] (i j 0) d) 0 [(t 54),(t 59)]),MA 53 60,UA 61 (.ext (t 53) 0),
 (UA 62 (.ext (t 53) 1)),MA 12 61,MA 13 62]) (q (q (r 0 [MA 63 13,UA 64 (.not (t 63))]) (c (t 64) (q (r 0 [MA 65 5,UA 66 (n (t 65)),MA 12 66]) (q (r 0 [
 (MA 67 6),FA 68 1 10,LA 69 68,FA 70 1 11,LA 71 70,UA 72 (.build [i j 0,i j 0] [(0,1,(t 69)),(1,1,(t 71))]),MA 73 12,⟨o,.eff (.mset [(0,(.int .i64)),(1,(.int .i64))]) 0 [(t 67),(t 72),(t 73)],o⟩])
 (r 2 [MA 74 5,FA 75 1 10,LA 76 75,FA 77 1 11,LA 78 77,UA 79 (.build [i j 0,i j 0,i j 0] [(0,1,(t 76)),(1,1,(t 78))]),UA 80 (.lits 0 3 1 [i j 0,i j 0,i j 0] [(0,(t 79))]),
 (UA 81 (.append 1 3 24 (t 74) (t 80))),MA 5 81]))) .skip)) (.tail 12 0 [MA 82 5,MA 83 12,XA 84 3 82 83,FA 85 2 84,LA 86 85,MA 87 7,
 (MA 88 8),XA 89 1 87 88,LA 90 89,UA 91 (b .add d (t 86) (t 90)),XA 92 3 82 83,FA 93 2 92,WA 1 93 91]))))))) (r 0 [UA 94 (b .add d (t 28) (k (i j 1))),
 (MA 28 94)])))
def c30 : LCode :=
 (q (r 2 [UA 2 (u 0 (t 0)),UA 3 (u 1 (t 1)),UA 4 (m (k (.slice o 0 0)))]) (q (r 0 [UA 5 (m (k (.slice o 0 0)))]) (q (r 1 [UA 14 (.mkmap 0 o),MA 6 14]) (q (r 0 [FA 15 2 3,
 (LA 16 15),FA 17 2 3,LA 18 17,UA 19 (n (t 18)),FA 20 1 2,LA 21 20,UA 22 (n (t 21)),UA 23 (b .sub d (t 19) (t 22)),UA 24 (.slice 1 (t 16) (s (t 23)) o o),
 (MA 7 24)]) (q (q (r 0 [FA 25 1 2,LA 26 25,UA 27 (n (t 26)),CA 28 0]) (z 0 (.loop c30l0))) (q (r 0 [MA 95 5,MA 4 95]) .ret)))))) 
def c32 : LCode :=
 (q (r 2 [UA 2 (u 0 (t 0)),UA 3 (u 1 (t 1)),UA 4 (m (k (y g)))]) (q (r 0 [SA 6 2 2,SA 7 5 3,UA 8 (.call 21 [(t 6),(t 7)]),MA 5 8]) (q (r 0 [MA 9 5,
 (UA 10 (b .eql g (t 9) (k (i j 0)))),MA 4 10]) .ret))) 
def c33l0 : LCode :=
 q (r 0 [UA 12 (b .lss g (t 11) (t 10))]) (q (c (t 12) .skip (.exit 0)) (q (z 1 (q (r 1 [XA 13 3 9 11,SA 14 3 13,UA 7 (.alloc 0 (.agg #[i j 0,i j 0,i j 0])),WA 3 7 14])
 (q (r 0 [MA 15 1,UA 16 (.fn 57 [(t 7)]),UA 17 (.call 56 [(t 15),(t 16)]),MA 8 17]) (q (r 0 [MA 18 8,UA 19 (b .geq g (t 18) (k (i j 0)))]) (c (t 19) (q (.tail 9 0 [
 (FA 20 2 7),LA 21 20,MA 22 1,MA 23 8,XA 24 3 22 23,FA 25 2 24,LA 26 25,UA 27 (.minmax g (t 21) (t 26)),FA 28 2 7,
 (WA 1 28 27)]) (r 2 [MA 29 5,SA 30 3 7,UA 31 (.lits 0 3 1 [i j 0,i j 0,i j 0] [(0,(t 30))]),UA 32 (.append 1 3 24 (t 29) (t 31)),MA 5 32])) .skip)))))
 (r 0 [UA 33 (b .add d (t 11) (k (i j 1))),MA 11 33])))
def c33 : LCode :=
 (q (r 0 [UA 4 (m (k (.slice o 0 0)))]) (q (r 0 [UA 5 (m (k (.slice o 0 0)))]) (q (q (r 0 [MA 9 0,UA 10 (n (t 9)),CA 11 0]) (z 0 (.loop c33l0))) (q (r 0 [MA 34 5,
 (MA 4 34)]) .ret)))) 
def c37 : LCode :=
 (q (r 1 [UA 3 (u 0 (t 0)),CA 6 0]) (q (r 0 [SA 7 2 3,MA 8 2,UA 9 (.call 60 [(t 7),(t 8)]),MA 10 1,XA 11 1 9 10,LA 12 11,
 (MA 6 12)]) .ret)) 
def c40 : LCode :=
 (q (r 1 [UA 4 (u 0 (t 0)),CA 8 0]) (q (q (r 0 [SA 13 2 4,MA 14 1,MA 15 2,UA 16 (.call 58 [(t 13),(t 14),(t 15)]),UA 17 (.not (t 16)),MA 18 17,
 (GA 19 (m (t 3)) 18 g),GA 20 (n (t 19)) 18 g,GA 21 (f 1 (t 4)) 18 g,GA 22 (l o (t 21)) 18 g,GA 23 (n (t 22)) 18 g,GA 24 (b .neq g (t 20) (t 23)) 18 g,UA 25 (p (t 18) (k (y d)) (t 24))])
 (c (t 25) (q (r 0 [CA 8 1]) .ret) .skip)) (q (q (r 0 [MA 26 3,UA 27 (n (t 26)),CA 28 0]) (z 0 (.loop (q (r 0 [UA 29 (b .lss g (t 28) (t 27))]) (q (c (t 29)
 .skip (.exit 0)) (q (z 1 (q (r 0 [MA 30 28,XA 31 1 26 28,LA 32 31,MA 9 30,MA 10 32]) (q (r 0 [MA 33 10,UA 34 (b .lss g (t 33) (k (i j 0))),
 (MA 35 34),GA 36 (m (t 10)) 35 g,GA 37 (f 1 (t 4)) 35 g,GA 38 (l o (t 37)) 35 g,GA 39 (m (t 9)) 35 g,GA 40 (x 4 (t 38) (t 39)) 35 g,GA 41 (f 2 (t 40)) 35 g,
 (GA 42 (l o (t 41)) 35 g),GA 43 (b .gtr g (t 36) (t 42)) 35 g,UA 44 (p (t 35) (k (y d)) (t 43))]) (c (t 44) (q (r 0 [CA 8 101]) .ret) .skip)))) (r 0 [UA 45 (b .add d (t 28) (k (i j 1))),
 (MA 28 45)]))))))) (q (q (r 0 [SA 46 2 4,MA 47 3,UA 48 (.call 60 [(t 46),(t 47)]),UA 49 (n (t 48)),CA 50 0]) (z 2 (.loop (q (r 0 [UA 51 (b .lss g (t 50) (t 49))])
 (q (c (t 51) .skip (.exit 2)) (q (z 3 (q (r 0 [MA 52 50,XA 53 1 48 50,LA 54 53,MA 11 52,MA 12 54]) (q (r 0 [MA 55 11,MA 56 1,
 (UA 57 (b .neq g (t 55) (t 56))),MA 58 57,GA 59 (m (t 11)) 58 d,GA 60 (m (t 2)) 58 d,GA 61 (b .neq g (t 59) (t 60)) 58 d,UA 62 (p (t 58) (t 61) (k (y g))),MA 63 62,
 (GA 64 (m (t 12)) 63 d),GA 65 (b .neq g (t 64) (k (i j 0))) 63 d,UA 66 (p (t 63) (t 65) (k (y g))),MA 67 66,GA 68 (m (t 11)) 67 g,GA 69 (m (t 1)) 67 g,GA 70 (b .eql g (t 68) (t 69)) 67 g,
 (GA 71 (m (t 70)) 67 g),GA 72 (m (t 12)) 71 d,GA 73 (b .lss g (t 72) (k (i j 0))) 71 d,GA 74 (p (t 71) (t 73) (k (y g))) 67 g,UA 75 (p (t 67) (k (y d)) (t 74))]) (c (t 75) (q (r 0 [
 (CA 8 100)]) .ret) .skip)))) (r 0 [UA 76 (b .add d (t 50) (k (i j 1))),MA 50 76]))))))) (q (r 0 [CA 8 0]) .ret))))) 
def c41 : LCode :=
 (q (r 1 [UA 1 (u 0 (t 0)),CA 2 0]) (q (q (r 0 [FA 6 0 1,LA 7 6,UA 8 (b .gtr g (t 7) (k (i j 256))),MA 9 8,GA 10 (f 1 (t 1)) 9 g,GA 11 (l o (t 10)) 9 g,
 (GA 12 (n (t 11)) 9 g),GA 13 (b .gtr g (t 12) (k (i j 2048))) 9 g,UA 14 (p (t 9) (k (y d)) (t 13))]) (c (t 14) (q (r 0 [CA 2 2]) .ret) .skip)) (q (q (r 0 [FA 15 0 1,
 (LA 16 15),UA 17 (b .lss g (t 16) (k (i j 1)))]) (c (t 17) (q (r 0 [CA 2 1]) .ret) .skip)) (q (r 0 [UA 18 (.fn 61 [(t 1)]),MA 3 18]) (q (q (r 0 [FA 19 1 1,
 (LA 20 19),UA 21 (n (t 20)),CA 22 0]) (z 0 (.loop (q (r 0 [UA 23 (b .lss g (t 22) (t 21))]) (q (c (t 23) .skip (.exit 0)) (q (z 1 (q (r 1 [XA 24 4 20 22,SA 25 4 24,
 (UA 5 (.alloc 0 (.agg #[i j 0,i j 0,i j 0,i j 0]))),WA 4 5 25]) (q (r 0 [MA 26 3,FA 27 0 5,LA 28 27,UA 29 (.callv (t 26) [(t 28)]),UA 30 (.not (t 29)),
 (MA 31 30),GA 32 (m (t 3)) 31 g,GA 33 (f 1 (t 5)) 31 g,GA 34 (l o (t 33)) 31 g,GA 35 (.callv (t 32) [(t 34)]) 31 g,GA 36 (.not (t 35)) 31 g,UA 37 (p (t 31) (k (y d)) (t 36)),
 (MA 38 37),GA 39 (f 0 (t 5)) 38 g,GA 40 (l o (t 39)) 38 g,GA 41 (f 1 (t 5)) 38 g,GA 42 (l o (t 41)) 38 g,GA 43 (b .eql g (t 40) (t 42)) 38 g,UA 44 (p (t 38) (k (y d)) (t 43)),
 (MA 45 44),GA 46 (f 2 (t 5)) 45 g,GA 47 (l o (t 46)) 45 g,GA 48 (b .lss g (t 47) (k (i j 0))) 45 g,UA 49 (p (t 45) (k (y d)) (t 48)),MA 50 49,GA 51 (f 2 (t 5)) 50 g,
 (GA 52 (l o (t 51)) 50 g),GA 53 (b .gtr g (t 52) (k (i j 1073741824))) 50 g,UA 54 (p (t 50) (k (y d)) (t 53)),MA 55 54,GA 56 (f 3 (t 5)) 55 g,GA 57 (l o (t 56)) 55 g,
 (GA 58 (b .lss g (t 57) (k (i j 0))) 55 g),UA 59 (p (t 55) (k (y d)) (t 58)),MA 60 59,GA 61 (f 3 (t 5)) 60 g,GA 62 (l o (t 61)) 60 g,GA 63 (b .gtr g (t 62) (k (i j 1048576))) 60 g,
 (UA 64 (p (t 60) (k (y d)) (t 63)))]) (c (t 64) (q (r 0 [CA 2 1]) .ret) .skip)))) (r 0 [UA 65 (b .add d (t 22) (k (i j 1))),MA 22 65]))))))) (q (r 0 [CA 2 0])
 .ret)))))) 
def c42 : LCode :=
 (q (r 1 [UA 0 (.alloc 0 (.agg #[.slice o 0 0,.slice o 0 0]))]) (q (r 2 [UA 1 (.build [i j 0,i j 0,i j 0] [(0,1,(k (i j 1))),(1,1,(k (i j 1))),(2,1,(k (i j 5)))]),UA 2 (.build [i j 0,i j 0,i j 0] [(0,1,(k (i j 1))),(1,1,(k (i j 2))),(2,1,(k (i j 3)))]),
 (UA 3 (.build [i j 0,i j 0,i j 0] [(0,1,(k (i j 2))),(1,1,(k (i j 10))),(2,1,(k (i j 6)))])),UA 4 (.build [i j 0,i j 0,i j 0] [(0,1,(k (i j 3))),(1,1,(k (i j 7))),(2,1,(k (i j 4)))]),UA 5 (.lits 0 3 4 [i j 0,i j 0,i j 0] [(0,(t 1)),(1,(t 2)),(2,(t 3)),(3,(t 4))]),
 (UA 6 (.build [i j 0,i j 0,i j 0,i j 0] [(0,1,(k (i j 0))),(1,1,(k (i j 2))),(2,1,(k (i j 9))),(3,1,(k (i j 1)))])),UA 7 (.build [i j 0,i j 0,i j 0,i j 0] [(0,1,(k (i j 1))),(1,1,(k (i j 2))),(2,1,(k (i j 9))),(3,1,(k (i j 2)))]),
 (UA 8 (.build [i j 0,i j 0,i j 0,i j 0] [(0,1,(k (i j 2))),(1,1,(k (i j 3))),(2,1,(k (i j 9))),(3,1,(k (i j 1)))])),UA 9 (.build [i j 0,i j 0,i j 0,i j 0] [(0,1,(k (i j 1))),(1,1,(k (i j 3))),(2,1,(k (i j 1))),(3,1,(k (i j 5)))]),
 (UA 10 (.lits 1 4 4 [i j 0,i j 0,i j 0,i j 0] [(0,(t 6)),(1,(t 7)),(2,(t 8)),(3,(t 9))])),UA 11 (.build [.slice o 0 0,.slice o 0 0] [(0,1,(t 5)),(1,1,(t 10))]),WA 2 0 11]) .ret)) 
def c43 : LCode :=
 (q (r 1 [UA 1 (u 0 (t 0)),UA 2 (m (k (y g)))]) (q (q (r 0 [FA 3 2 1,LA 4 3,UA 5 (b .lss g (t 4) (k (i j 0))),MA 6 5,GA 7 (f 2 (t 1)) 6 g,GA 8 (l o (t 7)) 6 g,
 (GA 9 (b .gtr g (t 8) (k (i j 1073741824))) 6 g),UA 10 (p (t 6) (k (y d)) (t 9))]) (c (t 10) (q (r 0 [UA 2 (m (k (y g)))]) .ret) .skip)) (q (q (r 0 [FA 11 0 1,LA 12 11]) (z 0
 (q (r 0 [UA 14 (b .eql g (t 12) (k (i j 1))),MA 13 14]) (c (t 13) (q (r 0 [FA 15 1 1,LA 16 15,UA 17 (b .geq g (t 16) (k (i j 0))),MA 18 17,GA 19 (f 1 (t 1)) 18 d,
 (GA 20 (l o (t 19)) 18 d),GA 21 (b .lss g (t 20) (k (i j 64))) 18 d,UA 22 (p (t 18) (t 21) (k (y g))),MA 2 22]) .ret) (q (q (r 0 [UA 24 (b .eql g (t 12) (k (i j 2))),MA 23 24])
 (c (t 23) .skip (r 0 [UA 25 (b .eql g (t 12) (k (i j 3))),MA 23 25]))) (c (t 23) (q (r 0 [FA 26 1 1,LA 27 26,UA 28 (b .geq g (t 27) (k (i j 1))),MA 29 28,
 (GA 30 (f 1 (t 1)) 29 d),GA 31 (l o (t 30)) 29 d,GA 32 (b .leq g (t 31) (k (i j 1073741824))) 29 d,UA 33 (p (t 29) (t 32) (k (y g))),MA 2 33]) .ret) .skip)))))) (q (r 0 [UA 2 (m (k (y g)))])
 .ret)))) 
def c44 : LCode :=
 (q (r 1 [UA 1 (u 0 (t 0)),UA 2 (m (k (y g)))]) (q (q (r 0 [FA 3 2 1,LA 4 3,UA 5 (b .lss g (t 4) (k (i j 0))),MA 6 5,GA 7 (f 2 (t 1)) 6 g,GA 8 (l o (t 7)) 6 g,
 (GA 9 (b .gtr g (t 8) (k (i j 1073741824))) 6 g),UA 10 (p (t 6) (k (y d)) (t 9))]) (c (t 10) (q (r 0 [UA 2 (m (k (y g)))]) .ret) .skip)) (q (q (r 0 [FA 11 0 1,LA 12 11]) (z 0
 (q (r 0 [UA 14 (b .eql g (t 12) (k (i j 1))),MA 13 14]) (c (t 13) (q (r 0 [FA 15 1 1,LA 16 15,UA 17 (b .geq g (t 16) (k (i j 0))),MA 18 17,GA 19 (f 1 (t 1)) 18 d,
 (GA 20 (l o (t 19)) 18 d),GA 21 (b .lss g (t 20) (k (i j 64))) 18 d,UA 22 (p (t 18) (t 21) (k (y g))),MA 2 22]) .ret) (q (q (r 0 [UA 24 (b .eql g (t 12) (k (i j 2))),MA 23 24])
 (c (t 23) .skip (r 0 [UA 25 (b .eql g (t 12) (k (i j 3))),MA 23 25]))) (c (t 23) (q (r 0 [FA 26 1 1,LA 27 26,UA 28 (b .geq g (t 27) (k (i j 1))),MA 29 28,
 (GA 30 (f 1 (t 1)) 29 d),GA 31 (l o (t 30)) 29 d,GA 32 (b .leq g (t 31) (k (i j 1073741824))) 29 d,UA 33 (p (t 29) (t 32) (k (y g))),MA 2 33]) .ret) .skip)))))) (q (r 0 [UA 2 (m (k (y g)))])
 .ret)))) 
def c45 : LCode :=
 (q (r 2 [UA 2 (u 0 (t 0)),UA 3 (u 1 (t 1)),UA 4 (m (k (y g)))]) (q (r 0 [FA 6 0 2,LA 7 6,UA 8 (n (t 7)),MA 5 8]) (q (q (r 0 [FA 9 0 3,LA 10 9,
 (UA 11 (b .lss g (t 10) (k (i j 0)))),MA 12 11,GA 13 (f 0 (t 3)) 12 g,GA 14 (l o (t 13)) 12 g,GA 15 (m (t 5)) 12 g,GA 16 (b .geq g (t 14) (t 15)) 12 g,UA 17 (p (t 12) (k (y d)) (t 16)),
 (MA 18 17),GA 19 (f 1 (t 3)) 18 g,GA 20 (l o (t 19)) 18 g,GA 21 (b .lss g (t 20) (k (i j 0))) 18 g,UA 22 (p (t 18) (k (y d)) (t 21)),MA 23 22,GA 24 (f 1 (t 3)) 23 g,
 (GA 25 (l o (t 24)) 23 g),GA 26 (m (t 5)) 23 g,GA 27 (b .geq g (t 25) (t 26)) 23 g,UA 28 (p (t 23) (k (y d)) (t 27)),MA 29 28,GA 30 (f 0 (t 3)) 29 g,GA 31 (l o (t 30)) 29 g,
 (GA 32 (f 1 (t 3)) 29 g),GA 33 (l o (t 32)) 29 g,GA 34 (b .eql g (t 31) (t 33)) 29 g,UA 35 (p (t 29) (k (y d)) (t 34)),MA 36 35,GA 37 (f 2 (t 3)) 36 g,GA 38 (l o (t 37)) 36 g,
 (GA 39 (b .lss g (t 38) (k (i j 0))) 36 g),UA 40 (p (t 36) (k (y d)) (t 39)),MA 41 40,GA 42 (f 2 (t 3)) 41 g,GA 43 (l o (t 42)) 41 g,GA 44 (b .gtr g (t 43) (k (i j 1073741824))) 41 g,
 (UA 45 (p (t 41) (k (y d)) (t 44))),MA 46 45,GA 47 (f 3 (t 3)) 46 g,GA 48 (l o (t 47)) 46 g,GA 49 (b .lss g (t 48) (k (i j 0))) 46 g,UA 50 (p (t 46) (k (y d)) (t 49)),MA 51 50,
 (GA 52 (f 3 (t 3)) 51 g),GA 53 (l o (t 52)) 51 g,GA 54 (b .gtr g (t 53) (k (i j 1048576))) 51 g,UA 55 (p (t 51) (k (y d)) (t 54))]) (c (t 55) (q (r 0 [UA 4 (m (k (y g)))]) .ret) .skip))
 (q (r 0 [FA 56 0 2,LA 57 56,FA 58 0 3,LA 59 58,XA 60 3 57 59,FA 61 0 60,LA 62 61,UA 63 (b .neq g (t 62) (k (i j 3))),
 (MA 64 63),GA 65 (f 0 (t 2)) 64 d,GA 66 (l o (t 65)) 64 d,GA 67 (f 1 (t 3)) 64 d,GA 68 (l o (t 67)) 64 d,GA 69 (x 3 (t 66) (t 68)) 64 d,GA 70 (f 0 (t 69)) 64 d,
 (GA 71 (l o (t 70)) 64 d),GA 72 (b .neq g (t 71) (k (i j 1))) 64 d,UA 73 (p (t 64) (t 72) (k (y g))),MA 4 73]) .ret)))) 
def c46l1 : LCode :=
 q (r 0 [UA 56 (b .lss g (t 55) (t 54))]) (q (c (t 56) .skip (.exit 2)) (q (z 3 (q (r 0 [MA 57 55,MA 14 57]) (.tail 18 0 [MA 58 11,UA 59 (.nilc (t 58)),FA 60 4 59,
 (LA 61 60),MA 62 14,XA 63 1 61 62,LA 64 63,MA 65 13,MA 66 14,XA 67 1 65 66,LA 68 67,MA 69 13,MA 70 2,
 (XA 71 1 69 70),LA 72 71,UA 73 (.minmax g (t 68) (t 72)),UA 74 (b .add d (t 64) (t 73)),XA 75 1 61 62,WA 1 75 74]))) (r 0 [UA 76 (b .add d (t 55) (k (i j 1))),
 (MA 55 76)])))
def c46l2 : LCode :=
 q (q (r 0 [MA 77 15,UA 78 (b .gtr g (t 77) (k (i j 0))),MA 79 78,GA 80 (m (t 12)) 79 d,GA 81 (m (t 3)) 79 d,GA 82 (b .lss g (t 80) (t 81)) 79 d,UA 83 (p (t 79) (t 82) (k (y g)))])
 (c (t 83) .skip (.exit 4))) (z 5 (q (r 0 [MA 84 11,MA 85 1,MA 86 2,MA 87 3,MA 88 12,UA 89 (b .sub d (t 87) (t 88)),UA 90 (.call 66 [(t 84),(t 85),(t 86),(t 89)]),
 (MA 15 90)]) (r 0 [MA 91 12,MA 92 15,UA 93 (b .add d (t 91) (t 92)),MA 12 93])))
def c46l0 : LCode :=
 q (q (r 0 [MA 35 12,MA 36 3,UA 37 (b .lss g (t 35) (t 36))]) (c (t 37) .skip (.exit 0))) (z 1 (q (r 0 [MA 38 11,MA 39 1,UA 40 (.call 64 [(t 38),(t 39)]),MA 13 40])
 (q (q (r 0 [MA 41 13,MA 42 2,XA 43 1 41 42,LA 44 43,UA 45 (b .eql g (t 44) (k (i j 4611686018427387904)))]) (c (t 45) (q (r 0 [MA 46 11,MA 47 12,
 (MA 48 13),UA 49 (.call 65 [(t 46),(t 47),(t 48)]),WA 5 8 49,CA 9 0]) .ret) .skip)) (q (q (r 0 [MA 50 11,UA 51 (.nilc (t 50)),FA 52 4 51,LA 53 52,
 (UA 54 (n (t 53))),CA 55 0]) (z 2 (.loop c46l1))) (q (r 0 [CA 15 1]) (z 4 (.loop c46l2)))))))
def c46 : LCode :=
 (q (r 2 [UA 4 (u 0 (t 0)),UA 8 (.alloc 1 (.agg #[i j 0,i j 0,.slice o 0 0,.slice o 0 0,.slice o 0 0])),CA 9 0]) (q (q (r 0 [SA 16 2 4,UA 17 (.call 41 [(t 16)]),MA 10 17])
 (q (r 0 [MA 18 10,UA 19 (b .neq g (t 18) (k (i j 0)))]) (c (t 19) (q (r 0 [UA 20 (.build [i j 0,i j 0,.slice o 0 0,.slice o 0 0,.slice o 0 0] []),MA 21 10,WA 5 8 20,
 (MA 9 21)]) .ret) .skip))) (q (q (r 0 [SA 22 2 4,MA 23 1,MA 24 2,MA 25 3,UA 26 (.call 62 [(t 22),(t 23),(t 24),(t 25)]),UA 27 (.not (t 26))]) (c (t 27)
 (q (r 0 [UA 28 (.build [i j 0,i j 0,.slice o 0 0,.slice o 0 0,.slice o 0 0] []),WA 5 8 28,CA 9 1]) .ret) .skip)) (q (.tree 1 (v 0 [5,6] (SA 29 2 4) (v 1 [2,3,4,5,6] (FA 30 1 4)
 (v 2 [3,4,5,6] (LA 31 30) (v 3 [4,5,6] (UA 32 (n (t 31))) (h 4 (UA 33 (.mk 0 1 8 [i j 0] (t 32) (t 32))) d (h 5 (UA 34 (.call 63 [(t 29),(t 33)])) g (v 6 [] (MA 11 34) .done) .none) .none))))))
 (q (r 0 [CA 12 0]) (q (z 0 (.loop c46l0)) (q (r 0 [MA 94 11,MA 95 12,UA 96 (.call 65 [(t 94),(t 95),(k (.slice o 0 0))]),WA 5 8 96,CA 9 0])
 .ret))))))) 
def c47l0 : LCode :=
 q (r 0 [UA 12 (b .lss g (t 11) (t 10))]) (q (c (t 12) .skip (.exit 0)) (q (z 1 (q (r 1 [MA 13 11,XA 14 3 9 11,SA 15 3 14,UA 7 (.alloc 0 (.agg #[i j 0,i j 0,i j 0])),
 (MA 6 13),WA 3 7 15]) (q (r 0 [FA 16 0 7,LA 17 16,MA 18 1,UA 19 (b .eql g (t 17) (t 18))]) (c (t 19) (r 2 [MA 20 5,MA 21 6,UA 22 (.lits 0 1 1 [i j 0] [(0,(t 21))]),
 (UA 23 (.append 1 1 8 (t 20) (t 22))),MA 5 23]) .skip)))) (r 0 [UA 24 (b .add d (t 11) (k (i j 1))),MA 11 24])))
def c47 : LCode :=
 (q (r 1 [UA 2 (u 0 (t 0)),UA 4 (m (k (.slice o 0 0)))]) (q (r 0 [UA 5 (m (k (.slice o 0 0)))]) (q (q (r 0 [FA 8 0 2,LA 9 8,UA 10 (n (t 9)),CA 11 0]) (z 0
 (.loop c47l0))) (q (r 0 [MA 25 5,MA 4 25]) .ret)))) 
def c48 : LCode :=
 (q (r 2 [UA 5 (u 0 (t 0)),UA 9 (u 1 (t 4)),CA 10 0]) (q (z 0 (q (r 0 [FA 12 0 9,LA 13 12,UA 14 (b .lss g (t 13) (k (i j 0))),MA 15 14,GA 16 (f 0 (t 9)) 15 g,
 (GA 17 (l o (t 16)) 15 g),GA 18 (m (t 3)) 15 g,GA 19 (b .gtr g (t 17) (t 18)) 15 g,UA 20 (p (t 15) (k (y d)) (t 19)),MA 21 20,GA 22 (l (s 2) (t 5)) 21 g,GA 23 (m (t 1)) 21 g,
 (GA 24 (m (t 2)) 21 g),GA 25 (l (s 5) (t 9)) 21 g,GA 26 (.call 67 [(t 22),(t 23),(t 24),(t 25)]) 21 g,GA 27 (.not (t 26)) 21 g,UA 28 (p (t 21) (k (y d)) (t 27)),MA 29 28,
 (GA 30 (l (s 2) (t 5)) 29 g),GA 31 (m (t 1)) 29 g,GA 32 (l (s 5) (t 9)) 29 g,GA 33 (.call 68 [(t 30),(t 31),(t 32)]) 29 g,GA 34 (.not (t 33)) 29 g,UA 35 (p (t 29) (k (y d)) (t 34)),
 (MA 11 35)]) (c (t 11) (q (r 0 [CA 10 110]) .ret) (q (r 0 [FA 37 0 9,LA 38 37,MA 39 3,UA 40 (b .eql g (t 38) (t 39)),MA 41 40,GA 42 (f 4 (t 9)) 41 d,
 (GA 43 (l o (t 42)) 41 d),GA 44 (n (t 43)) 41 d,GA 45 (b .eql g (t 44) (k (i j 0))) 41 d,UA 46 (p (t 41) (t 45) (k (y g))),MA 47 46,GA 48 (f 0 (t 9)) 47 g,GA 49 (l o (t 48)) 47 g,
 (GA 50 (m (t 3)) 47 g),GA 51 (b .lss g (t 49) (t 50)) 47 g,GA 52 (m (t 51)) 47 g,GA 53 (l (s 2) (t 5)) 52 d,GA 54 (m (t 1)) 52 d,GA 55 (m (t 2)) 52 d,GA 56 (l (s 5) (t 9)) 52 d,
 (GA 57 (.call 69 [(t 53),(t 54),(t 55),(t 56)]) 52 d),GA 58 (p (t 52) (t 57) (k (y g))) 47 g,UA 59 (p (t 47) (k (y d)) (t 58)),MA 36 59]) (c (t 36) (q (r 0 [CA 10 0])
 .ret) .skip))))) (q (r 0 [CA 10 110]) .ret))) 
def c49 : LCode :=
 (q (r 2 [UA 5 (u 0 (t 0)),UA 9 (u 1 (t 4)),CA 10 0]) (q (r 0 [SA 13 2 5,MA 14 1,MA 15 2,FA 16 2 9,LA 17 16,UA 18 (.call 70 [(t 13),(t 14),(t 15),(t 17)]),
 (MA 11 18)]) (q (q (.tree 0 (v 0 [1,2,3,4,5,6,7,8,9,10,11,12,13,14,15,16,17,18,19,20,21,22,23,24,25,26,27,28,29,30,31,32,33,34,35,36,37,38] (MA 19 11) (v 1 [2,3,4,5,6,7,8,9,10,11,12,13,14,15,16,17,18,19,20,21,22,23,24,25,26,27,28,29,30,31,32,33,34,35,36,37,38] (UA 20 (.not (t 19)))
 (v 2 [3,4,5,6,7,8,9,10,11,12,13,14,15,16,17,18,19,20,21,22,23,24,25,26,27,28,29,30,31,32,33,34,35,36,37,38] (MA 21 20) (v 3 [4,5,6,7,8,9,10,11,12,13,14,15,16,17,18,19,20,21,22,23,24,25,26,27,28,29,30,31,32,33,34,35,36,37,38] (GA 22 (f 0 (t 9)) 21 g)
 (v 4 [5,6,7,8,9,10,11,12,13,14,15,16,17,18,19,20,21,22,23,24,25,26,27,28,29,30,31,32,33,34,35,36,37,38] (GA 23 (l o (t 22)) 21 g) (v 5 [6,7,8,9,10,11,12,13,14,15,16,17,18,19,20,21,22,23,24,25,26,27,28,29,30,31,32,33,34,35,36,37,38] (GA 24 (b .lss g (t 23) (k (i j 0))) 21 g)
 (v 6 [7,8,9,10,11,12,13,14,15,16,17,18,19,20,21,22,23,24,25,26,27,28,29,30,31,32,33,34,35,36,37,38] (UA 25 (p (t 21) (k (y d)) (t 24))) (v 7 [8,9,10,11,12,13,14,15,16,17,18,19,20,21,22,23,24,25,26,27,28,29,30,31,32,33,34,35,36,37,38] (MA 26 25)
 (v 8 [9,11,12,13,14,15,16,17,18,19,20,21,22,23,24,25,26,27,28,29,30,31,32,33,34,35,36,37,38] (GA 27 (f 0 (t 9)) 26 g) (v 9 [11,12,13,14,15,16,17,18,19,20,21,22,23,24,25,26,27,28,29,30,31,32,33,34,35,36,37,38] (GA 28 (l o (t 27)) 26 g)
 (v 10 [11,12,13,14,15,16,17,18,19,20,21,22,23,24,25,26,27,28,29,30,31,32,33,34,35,36,37,38] (GA 29 (m (t 3)) 26 g) (v 11 [12,13,14,15,16,17,18,19,20,21,22,23,24,25,26,27,28,29,30,31,32,33,34,35,36,37,38] (GA 30 (b .gtr g (t 28) (t 29)) 26 g)
 (v 12 [13,14,15,16,17,18,19,20,21,22,23,24,25,26,27,28,29,30,31,32,33,34,35,36,37,38] (UA 31 (p (t 26) (k (y d)) (t 30))) (v 13 [14,15,16,17,18,19,20,21,22,23,24,25,26,27,28,29,30,31,32,33,34,35,36,37,38] (MA 32 31)
 (v 14 [18,21,22,23,24,25,26,27,28,29,30,31,32,33,34,35,36,37,38] (GA 33 (l (s 2) (t 5)) 32 g) (v 15 [16,18,21,22,23,24,25,26,27,28,29,30,31,32,33,34,35,36,37,38] (GA 34 (f 2 (t 9)) 32 g) (v 16 [18,21,22,23,24,25,26,27,28,29,30,31,32,33,34,35,36,37,38] (GA 35 (l o (t 34)) 32 g)
 (v 17 [18,21,22,23,24,25,26,27,28,29,30,31,32,33,34,35,36,37,38] (GA 36 (m (t 1)) 32 g) (v 19 [20,21,22,23,24,25,26,27,28,29,30,31,32,33,34,35,36,37,38] (GA 38 (f 0 (t 9)) 32 g) (v 20 [21,22,23,24,25,26,27,28,29,30,31,32,33,34,35,36,37,38] (GA 39 (l o (t 38)) 32 g)
 (h 18 (GA 37 (.call 71 [(t 33),(t 35),(t 36)]) 32 g) d (v 21 [22,23,24,25,26,27,28,29,30,31,32,33,34,35,36,37,38] (GA 40 (b .neq g (t 37) (t 39)) 32 g) (v 22 [23,24,25,26,27,28,29,30,31,32,33,34,35,36,37,38] (UA 41 (p (t 32) (k (y d)) (t 40)))
 (v 23 [24,25,26,27,28,29,30,31,32,33,34,35,36,37,38] (MA 42 41) (v 24 [27,30,31,32,33,34,35,36,37,38] (GA 43 (l (s 2) (t 5)) 42 g) (v 25 [26,27,30,31,32,33,34,35,36,37,38] (GA 44 (f 2 (t 9)) 42 g)
 (v 26 [27,30,31,32,33,34,35,36,37,38] (GA 45 (l o (t 44)) 42 g) (v 28 [29,30,31,32,33,34,35,36,37,38] (GA 47 (f 1 (t 9)) 42 g) (v 29 [30,31,32,33,34,35,36,37,38] (GA 48 (l o (t 47)) 42 g) (h 27 (GA 46 (.call 72 [(t 43),(t 45)]) 42 g) d
 (v 30 [31,32,33,34,35,36,37,38] (GA 49 (b .neq g (t 46) (t 48)) 42 g) (v 31 [32,33,34,35,36,37,38] (UA 50 (p (t 42) (k (y d)) (t 49))) (v 32 [33,34,35,36,37,38] (MA 51 50) (v 33 [36,37,38] (GA 52 (l (s 2) (t 5)) 51 g)
 (v 34 [36,37,38] (GA 53 (m (t 1)) 51 g) (v 35 [36,37,38] (GA 54 (l (s 5) (t 9)) 51 g) (h 36 (GA 55 (.call 73 [(t 52),(t 53),(t 54)]) 51 g) g (v 37 [38] (GA 56 (.not (t 55)) 51 g) (v 38 [] (UA 57 (p (t 51) (k (y d)) (t 56)))
 .done)) .none))))))) .none))))))))) .none)))))))))))))))))))))) (c (t 57) (q (r 0 [CA 10 110]) .ret) .skip)) (q (q (r 0 [FA 58 0 9,LA 59 58,MA 60 3,UA 61 (b .eql g (t 59) (t 60))])
 (c (t 61) (q (q (r 0 [FA 62 4 9,LA 63 62,UA 64 (n (t 63)),UA 65 (b .gtr g (t 64) (k (i j 0)))]) (c (t 65) (q (r 0 [CA 10 110]) .ret) .skip)) (q (r 0 [CA 10 0])
 .ret)) .skip)) (q (r 0 [SA 66 2 5,MA 67 1,MA 68 2,SA 69 5 9,UA 70 (.call 74 [(t 66),(t 67),(t 68),(t 69)]),MA 12 70]) (q (q (r 0 [MA 71 12,
 (UA 72 (.not (t 71)))]) (c (t 72) (q (r 0 [CA 10 110]) .ret) .skip)) (q (r 0 [CA 10 0]) .ret))))))) 
def c50 : LCode :=
 (q (r 3 [UA 3 (u 0 (t 0)),UA 4 (u 1 (t 1)),UA 5 (u 2 (t 2)),UA 6 (m (k (.nilFunc)))]) (q (r 0 [UA 7 (.fn 75 [(t 3),(t 4),(t 5)]),MA 6 7]) .ret)) 
def c53l0 : LCode :=
 q (q (r 0 [MA 16 6,MA 17 0,UA 18 (n (t 17)),UA 19 (b .lss g (t 16) (t 18))]) (c (t 19) .skip (.exit 0))) (q (z 1 (q (r 0 [MA 22 0,MA 23 6,XA 24 1 22 23,
 (LA 25 24),MA 7 25]) (q (r 0 [MA 26 1,MA 27 7,UA 28 (.callv (t 26) [(t 27)]),UA 29 (.not (t 28))]) (c (t 29) (q (r 0 [MA 30 0,MA 31 5,MA 32 7,
 (XA 33 1 30 31),WA 1 33 32]) (r 0 [MA 34 5,UA 35 (b .add d (t 34) (k (i j 1))),MA 5 35])) .skip)))) (r 0 [MA 20 6,UA 21 (b .add d (t 20) (k (i j 1))),
 (MA 6 21)]))
def c53 : LCode :=
 (q (r 0 [UA 4 (m (k (.slice o 0 0)))]) (q (r 0 [MA 8 0,MA 9 1,UA 10 (.call 82 [(t 8),(t 9)]),MA 5 10]) (q (q (r 0 [MA 11 5,UA 12 (b .eql g (t 11) (k (.int .i64 (-1))))])
 (c (t 12) (q (r 0 [MA 13 0,MA 4 13]) .ret) .skip)) (q (q (r 0 [MA 14 5,UA 15 (b .add d (t 14) (k (i j 1))),MA 6 15]) (z 0 (.loop c53l0))) (q (r 0 [MA 36 0,
 (MA 37 5),UA 38 (.slice 1 (t 36) (s (t 37)) o o),⟨o,.eff (.clr 1 [i j 0]) 0 [(t 38)],o⟩]) (q (r 0 [MA 39 0,MA 40 5,UA 41 (.slice 1 (t 39) o (s (t 40)) o),MA 4 41])
 .ret)))))) 
def c54 : LCode :=
 (q (r 0 [UA 4 (m (k (y g)))]) (q (.qui 0 [FA 5 2 1,LA 6 5,MA 7 0,XA 8 1 6 7,LA 9 8,FA 10 0 2,LA 11 10,MA 12 0,
 (XA 13 3 11 12),FA 14 2 13,LA 15 14,UA 16 (b .geq g (t 9) (t 15)),MA 4 16]) .ret)) 
def c56 : LCode :=
 (q (r 0 [CA 4 0]) (q (q (r 0 [MA 6 0,UA 7 (n (t 6)),CA 8 0]) (z 0 (.loop (q (r 0 [UA 9 (b .lss g (t 8) (t 7))]) (q (c (t 9) .skip (.exit 0)) (q (z 1 (q (r 0 [
 (MA 10 8),MA 5 10]) (q (r 0 [MA 11 1,MA 12 0,MA 13 5,XA 14 3 12 13,SA 15 3 14,UA 16 (.callv (t 11) [(t 15)])]) (c (t 16) (q
 (r 0 [MA 17 5,MA 4 17]) .ret) .skip)))) (r 0 [UA 18 (b .add d (t 8) (k (i j 1))),MA 8 18]))))))) (q (r 0 [UA 4 (m (k (.int .i64 (-1))))]) .ret))) 
def c57 : LCode :=
 (q (r 1 [UA 2 (u 0 (t 0)),UA 3 (m (k (y g)))]) (q (r 0 [FA 4 0 1,LA 5 4,FA 6 0 2,LA 7 6,UA 8 (b .eql g (t 5) (t 7)),MA 9 8,GA 10 (f 1 (t 1)) 9 d,
 (GA 11 (l o (t 10)) 9 d),GA 12 (f 1 (t 2)) 9 d,GA 13 (l o (t 12)) 9 d,GA 14 (b .eql g (t 11) (t 13)) 9 d,UA 15 (p (t 9) (t 14) (k (y g))),MA 3 15]) .ret)) 
def c58 : LCode :=
 (q (r 1 [UA 3 (u 0 (t 0)),UA 6 (m (k (y g)))]) (q (r 0 [MA 7 1,MA 8 2,UA 9 (.minmax g (t 7) (t 8)),UA 10 (b .geq g (t 9) (k (i j 0))),MA 11 10,GA 12 (m (t 1)) 11 d,
 (GA 13 (m (t 2)) 11 d),GA 14 (.minmax d (t 12) (t 13)) 11 d,GA 15 (f 0 (t 3)) 11 d,GA 16 (l o (t 15)) 11 d,GA 17 (b .lss g (t 14) (t 16)) 11 d,UA 18 (p (t 11) (t 17) (k (y g))),
 (MA 19 18),GA 20 (m (t 1)) 19 d,GA 21 (m (t 2)) 19 d,GA 22 (b .neq g (t 20) (t 21)) 19 d,UA 23 (p (t 19) (t 22) (k (y g))),MA 6 23]) .ret)) 
def c60 : LCode :=
 (q (r 1 [UA 2 (u 0 (t 0)),UA 4 (m (k (.slice o 0 0)))]) (q (r 1 [FA 8 0 2,LA 9 8,UA 10 (.mk 0 1 8 [i j 0] (t 9) (t 9)),MA 5 10]) (q (q (r 0 [FA 11 1 2,
 (LA 12 11),UA 13 (n (t 12)),CA 14 0]) (z 0 (.loop (q (r 0 [UA 15 (b .lss g (t 14) (t 13))]) (q (c (t 15) .skip (.exit 0)) (q (z 1 (q (r 1 [MA 16 14,XA 17 4 12 14,
 (SA 18 4 17),UA 7 (.alloc 0 (.agg #[i j 0,i j 0,i j 0,i j 0])),MA 6 16,WA 4 7 18]) (q (.tail 11 0 [MA 19 5,FA 20 0 7,LA 21 20,XA 22 1 19 21,
 (LA 23 22),MA 24 1,MA 25 6,XA 26 1 24 25,LA 27 26,UA 28 (b .add d (t 23) (t 27)),XA 29 1 19 21,WA 1 29 28]) (.tail 11 0 [
 (MA 30 5),FA 31 1 7,LA 32 31,XA 33 1 30 32,LA 34 33,MA 35 1,MA 36 6,XA 37 1 35 36,LA 38 37,UA 39 (b .sub d (t 34) (t 38)),
 (XA 40 1 30 32),WA 1 40 39])))) (r 0 [UA 41 (b .add d (t 14) (k (i j 1))),MA 14 41]))))))) (q (r 0 [MA 42 5,MA 4 42]) .ret)))) 
def c61 : LCode :=
 (q (r 0 [UA 3 (m (k (y g)))]) (q (r 0 [MA 4 0,UA 5 (b .geq g (t 4) (k (i j 0))),MA 6 5,GA 7 (m (t 0)) 6 d,GA 8 (f 0 (t 1)) 6 d,GA 9 (l o (t 8)) 6 d,GA 10 (b .lss g (t 7) (t 9)) 6 d,
 (UA 11 (p (t 6) (t 10) (k (y g)))),MA 3 11]) .ret)) 
def c62 : LCode :=
 (q (r 1 [UA 4 (u 0 (t 0)),UA 8 (m (k (y g)))]) (q (r 0 [MA 9 1,UA 10 (b .geq g (t 9) (k (i j 0))),MA 11 10,GA 12 (m (t 1)) 11 d,GA 13 (f 0 (t 4)) 11 d,GA 14 (l o (t 13)) 11 d,
 (GA 15 (b .lss g (t 12) (t 14)) 11 d),UA 16 (p (t 11) (t 15) (k (y g))),MA 17 16,GA 18 (m (t 2)) 17 d,GA 19 (b .geq g (t 18) (k (i j 0))) 17 d,UA 20 (p (t 17) (t 19) (k (y g))),
 (MA 21 20),GA 22 (m (t 2)) 21 d,GA 23 (f 0 (t 4)) 21 d,GA 24 (l o (t 23)) 21 d,GA 25 (b .lss g (t 22) (t 24)) 21 d,UA 26 (p (t 21) (t 25) (k (y g))),MA 27 26,
 (GA 28 (m (t 1)) 27 d),GA 29 (m (t 2)) 27 d,GA 30 (b .neq g (t 28) (t 29)) 27 d,UA 31 (p (t 27) (t 30) (k (y g))),MA 32 31,GA 33 (m (t 3)) 32 d,GA 34 (b .geq g (t 33) (k (i j 0))) 32 d,
 (UA 35 (p (t 32) (t 34) (k (y g)))),MA 36 35,GA 37 (m (t 3)) 36 d,GA 38 (b .leq g (t 37) (k (i j 2199023255552))) 36 d,UA 39 (p (t 36) (t 38) (k (y g))),MA 8 39]) .ret))
 
def c63l0 : LCode :=
 q (r 0 [UA 22 (b .lss g (t 21) (t 20))]) (q (c (t 22) .skip (.exit 0)) (q (z 1 (q (r 1 [MA 23 21,XA 24 4 19 21,SA 25 4 24,UA 7 (.alloc 0 (.agg #[i j 0,i j 0,i j 0,i j 0])),
 (MA 6 23),WA 4 7 25]) (q (.tree 2 (v 0 [1,2,3,17,18] (MA 26 5) (v 1 [2,3,17,18] (UA 27 (.nilc (t 26))) (v 2 [3,17,18] (FA 28 3 27) (v 3 [17,18] (LA 29 28) (v 4 [5,17,18] (FA 30 0 7)
 (v 5 [17,18] (LA 31 30) (v 6 [7,8,9,12,13,16,17,18] (MA 32 5) (v 7 [8,9,12,13,16,17,18] (UA 33 (.nilc (t 32))) (v 8 [9,12,13,16,17,18] (FA 34 3 33) (v 9 [12,13,16,17,18] (LA 35 34)
 (v 10 [11,12,13,16,17,18] (FA 36 0 7) (v 11 [12,13,16,17,18] (LA 37 36) (v 12 [13,16,17,18] (XA 38 1 35 37) (v 13 [16,17,18] (LA 39 38) (v 14 [15,16,17,18] (MA 40 6)
 (h 15 (UA 41 (.lits 0 1 1 [i j 0] [(0,(t 40))])) d (h 16 (UA 42 (.append 1 1 8 (t 39) (t 41))) d (v 17 [18] (XA 43 1 29 31) (h 18 (WA 1 43 42) g .done .none)) .none) .none)))))))))))))))))
 (.tree 2 (v 0 [1,2,3,17,18] (MA 44 5) (v 1 [2,3,17,18] (UA 45 (.nilc (t 44))) (v 2 [3,17,18] (FA 46 3 45) (v 3 [17,18] (LA 47 46) (v 4 [5,17,18] (FA 48 1 7) (v 5 [17,18] (LA 49 48)
 (v 6 [7,8,9,12,13,16,17,18] (MA 50 5) (v 7 [8,9,12,13,16,17,18] (UA 51 (.nilc (t 50))) (v 8 [9,12,13,16,17,18] (FA 52 3 51) (v 9 [12,13,16,17,18] (LA 53 52) (v 10 [11,12,13,16,17,18] (FA 54 1 7)
 (v 11 [12,13,16,17,18] (LA 55 54) (v 12 [13,16,17,18] (XA 56 1 53 55) (v 13 [16,17,18] (LA 57 56) (v 14 [15,16,17,18] (MA 58 6) (h 15 (UA 59 (.lits 0 1 1 [i j 0] [(0,(t 58))])) d
 (h 16 (UA 60 (.append 1 1 8 (t 57) (t 59))) d (v 17 [18] (XA 61 1 47 49) (h 18 (WA 1 61 60) g .done .none)) .none) .none)))))))))))))))))))) (r 0 [UA 62 (b .add d (t 21) (k (i j 1))),
 (MA 21 62)])))
def c63 : LCode :=
 (q (r 1 [UA 2 (u 0 (t 0)),UA 4 (m (k (.pointer o)))]) (q (.tree 3 (v 0 [8,9,10] (SA 8 2 2) (v 1 [8,9,10] (MA 9 1) (v 2 [3,4,8,9,10] (FA 10 0 2) (v 3 [4,8,9,10] (LA 11 10)
 (v 5 [6,7,8,9,10] (FA 13 0 2) (v 6 [7,8,9,10] (LA 14 13) (h 4 (UA 12 (.mkv 0 1 24 [.slice o 0 0] (t 11) (t 11))) d (h 7 (UA 15 (.mk 1 1 8 [i j 0] (t 14) (t 14))) d (v 8 [9,10] (UA 16 (.build [i j 0,.slice o 0 0,.slice o 0 0,.slice o 0 0,.slice o 0 0] [(0,2,(t 8)),(2,1,(t 9)),(3,1,(t 12)),(4,1,(t 15))]))
 (h 9 (UA 17 (u 2 (t 16))) g (v 10 [] (MA 5 17) .done) .none)) .none) (h 7 (UA 15 (.mk 1 1 8 [i j 0] (t 14) (t 14))) d (h 4 (UA 12 (.mkv 0 1 24 [.slice o 0 0] (t 11) (t 11))) d (v 8 [9,10] (UA 16 (.build [i j 0,.slice o 0 0,.slice o 0 0,.slice o 0 0,.slice o 0 0] [(0,2,(t 8)),(2,1,(t 9)),(3,1,(t 12)),(4,1,(t 15))]))
 (h 9 (UA 17 (u 2 (t 16))) g (v 10 [] (MA 5 17) .done) .none)) .none) .none))))))))) (q (q (r 0 [FA 18 1 2,LA 19 18,UA 20 (n (t 19)),CA 21 0]) (z 0 (.loop c63l0)))
 (q (r 0 [MA 63 5,MA 4 63]) .ret)))) 
def c64a0 : LCode :=
 r 1 [UA 9 (.alloc 0 (.agg #[i j 0,i j 0,i j 0,i j 0,.bool g])),WA 5 9 46]
def c64r0 : LCode :=
 z 3 (q (.tree 0 (v 0 [5,6] (LA 47 7) (v 1 [4,5,6] (LA 48 2) (v 2 [4,5,6] (LA 49 8) (v 3 [4,5,6] (SA 50 5 9) (h 4 (UA 51 (.call 91 [(t 48),(t 49),(t 50)])) d (v 5 [6] (UA 52 (b .add d (t 47) (t 51)))
 (v 6 [] (MA 10 52) .done)) .none)))))) (q (r 0 [MA 53 10,LA 54 5,FA 55 1 9,LA 56 55,XA 57 1 54 56,LA 58 57,UA 59 (b .lss g (t 53) (t 58))])
 (c (t 59) (q (r 0 [LA 60 5,FA 61 1 9,LA 62 61,MA 63 10,XA 64 1 60 62,WA 1 64 63]) (r 0 [LA 65 6,MA 66 10,
 (FA 67 1 9),LA 68 67,UA 69 (.call 88 [(t 65),(t 66),(t 68)])])) .skip)))
def c64l0 : LCode :=
 q (q (r 0 [LA 26 6,UA 27 (.nilc (t 26)),FA 28 0 27,LA 29 28,UA 30 (n (t 29)),UA 31 (b .gtr g (t 30) (k (i j 0)))]) (c (t 31) .skip (.exit 0))) (z 1 (q (r 2 [LA 33 6,
 (UA 34 (.call 89 [(t 33)])),MA 32 34,UA 35 (.ext (t 32) 0),UA 36 (.ext (t 32) 1),UA 7 (.alloc 0 (i j 0)),UA 8 (.alloc 1 (i j 0)),WA 1 7 35,WA 1 8 36]) (q (q
 (.qui 0 [LA 37 7,LA 38 5,LA 39 8,XA 40 1 38 39,LA 41 40,UA 42 (b .gtr g (t 37) (t 41))]) (c (t 42) (.exit 1) .skip)) (q (r 0 [LA 43 2,
 (LA 44 8),UA 45 (.call 90 [(t 43),(t 44)])]) (z 2 (.rfn (t 45) [46] c64a0 c64r0))))))
def c64 : LCode :=
 (q (r 1 [UA 2 (u 0 (t 0)),UA 4 (m (k (.slice o 0 0)))]) (q (r 2 [UA 11 (.lits 0 1 1 [i j 0] [(0,(k (i j 4611686018427387904)))]),LA 12 2,UA 13 (.nilc (t 12)),FA 14 0 13,
 (FA 15 0 14),LA 16 15,UA 17 (.call 87 [(t 11),(t 16)]),UA 5 (.alloc 1 (.slice o 0 0)),WA 1 5 17]) (q (r 0 [LA 18 5,MA 19 1,XA 20 1 18 19,
 ⟨o,w 1 (t 20) (k (i j 0)),o⟩]) (q (r 2 [UA 21 (.build [.slice o 0 0,.slice o 0 0] []),UA 22 (u 0 (t 21)),UA 6 (.alloc 1 (.pointer o)),WA 1 6 22]) (q (r 0 [LA 23 6,MA 24 1,
 (UA 25 (.call 88 [(t 23),(k (i j 0)),(t 24)]))]) (q (z 0 (.loop c64l0)) (q (r 0 [LA 70 5,MA 4 70]) .ret))))))) 
def c65l0 : LCode :=
 q (r 0 [UA 25 (b .lss g (t 24) (t 23))]) (q (c (t 25) .skip (.exit 0)) (q (z 1 (q (r 0 [MA 26 24,XA 27 1 22 24,LA 28 27,MA 8 26,MA 9 28]) (q (r 0 [
 (MA 29 9),UA 30 (b .lss g (t 29) (k (i j 4611686018427387904)))]) (c (t 30) (r 2 [FA 31 4 7,LA 32 31,MA 33 8,UA 34 (.lits 0 1 1 [i j 0] [(0,(t 33))]),UA 35 (.append 1 1 8 (t 32) (t 34)),
 (FA 36 4 7),WA 1 36 35]) .skip)))) (r 0 [UA 37 (b .add d (t 24) (k (i j 1))),MA 24 37])))
def c65 : LCode :=
 (q (r 1 [UA 6 (.alloc 0 (.agg #[i j 0,i j 0,.slice o 0 0,.slice o 0 0,.slice o 0 0]))]) (q (.tree 1 (v 0 [11,13] (MA 10 1) (v 1 [2,11,13] (MA 11 0) (v 3 [4,5,6,11,13] (MA 13 0)
 (v 4 [5,6,11,13] (UA 14 (.nilc (t 13))) (v 5 [6,11,13] (FA 15 2 14) (v 7 [8,9,10,11,13] (MA 17 0) (v 8 [9,10,11,13] (UA 18 (.nilc (t 17))) (v 9 [10,11,13] (FA 19 4 18) (h 2 (UA 12 (.call 92 [(t 11)])) d
 (v 6 [11,13] (LA 16 15) (v 10 [11,13] (LA 20 19) (v 11 [13] (UA 21 (.build [i j 0,i j 0,.slice o 0 0,.slice o 0 0,.slice o 0 0] [(0,1,(t 10)),(1,1,(t 12)),(2,1,(t 16)),(3,1,(t 20))]))
 (h 12 (UA 7 (.alloc 0 (.agg #[i j 0,i j 0,.slice o 0 0,.slice o 0 0,.slice o 0 0]))) d (h 13 (WA 5 7 21) g .done .none) .none)))) (h 6 (LA 16 15) d (h 2 (UA 12 (.call 92 [(t 11)])) d
 (v 10 [11,13] (LA 20 19) (v 11 [13] (UA 21 (.build [i j 0,i j 0,.slice o 0 0,.slice o 0 0,.slice o 0 0] [(0,1,(t 10)),(1,1,(t 12)),(2,1,(t 16)),(3,1,(t 20))])) (h 12 (UA 7 (.alloc 0 (.agg #[i j 0,i j 0,.slice o 0 0,.slice o 0 0,.slice o 0 0]))) d
 (h 13 (WA 5 7 21) g .done .none) .none))) (h 10 (LA 20 19) d (h 2 (UA 12 (.call 92 [(t 11)])) d (v 11 [13] (UA 21 (.build [i j 0,i j 0,.slice o 0 0,.slice o 0 0,.slice o 0 0] [(0,1,(t 10)),(1,1,(t 12)),(2,1,(t 16)),(3,1,(t 20))]))
 (h 12 (UA 7 (.alloc 0 (.agg #[i j 0,i j 0,.slice o 0 0,.slice o 0 0,.slice o 0 0]))) d (h 13 (WA 5 7 21) g .done .none) .none)) (h 12 (UA 7 (.alloc 0 (.agg #[i j 0,i j 0,.slice o 0 0,.slice o 0 0,.slice o 0 0]))) d
 (h 2 (UA 12 (.call 92 [(t 11)])) d (v 11 [13] (UA 21 (.build [i j 0,i j 0,.slice o 0 0,.slice o 0 0,.slice o 0 0] [(0,1,(t 10)),(1,1,(t 12)),(2,1,(t 16)),(3,1,(t 20))])) (h 13 (WA 5 7 21) g .done
 .none)) .none) .none)) (h 12 (UA 7 (.alloc 0 (.agg #[i j 0,i j 0,.slice o 0 0,.slice o 0 0,.slice o 0 0]))) d (h 2 (UA 12 (.call 92 [(t 11)])) d (v 10 [11,13] (LA 20 19) (v 11 [13] (UA 21 (.build [i j 0,i j 0,.slice o 0 0,.slice o 0 0,.slice o 0 0] [(0,1,(t 10)),(1,1,(t 12)),(2,1,(t 16)),(3,1,(t 20))]))
 (h 13 (WA 5 7 21) g .done .none))) (h 10 (LA 20 19) d (h 2 (UA 12 (.call 92 [(t 11)])) d (v 11 [13] (UA 21 (.build [i j 0,i j 0,.slice o 0 0,.slice o 0 0,.slice o 0 0] [(0,1,(t 10)),(1,1,(t 12)),(2,1,(t 16)),(3,1,(t 20))]))
 (h 13 (WA 5 7 21) g .done .none)) .none) .none)) .none))) (h 10 (LA 20 19) d (h 2 (UA 12 (.call 92 [(t 11)])) d (v 6 [11,13] (LA 16 15) (v 11 [13] (UA 21 (.build [i j 0,i j 0,.slice o 0 0,.slice o 0 0,.slice o 0 0] [(0,1,(t 10)),(1,1,(t 12)),(2,1,(t 16)),(3,1,(t 20))]))
 (h 12 (UA 7 (.alloc 0 (.agg #[i j 0,i j 0,.slice o 0 0,.slice o 0 0,.slice o 0 0]))) d (h 13 (WA 5 7 21) g .done .none) .none))) (h 6 (LA 16 15) d (h 2 (UA 12 (.call 92 [(t 11)])) d
 (v 11 [13] (UA 21 (.build [i j 0,i j 0,.slice o 0 0,.slice o 0 0,.slice o 0 0] [(0,1,(t 10)),(1,1,(t 12)),(2,1,(t 16)),(3,1,(t 20))])) (h 12 (UA 7 (.alloc 0 (.agg #[i j 0,i j 0,.slice o 0 0,.slice o 0 0,.slice o 0 0]))) d
 (h 13 (WA 5 7 21) g .done .none) .none)) (h 12 (UA 7 (.alloc 0 (.agg #[i j 0,i j 0,.slice o 0 0,.slice o 0 0,.slice o 0 0]))) d (h 2 (UA 12 (.call 92 [(t 11)])) d (v 11 [13] (UA 21 (.build [i j 0,i j 0,.slice o 0 0,.slice o 0 0,.slice o 0 0] [(0,1,(t 10)),(1,1,(t 12)),(2,1,(t 16)),(3,1,(t 20))]))
 (h 13 (WA 5 7 21) g .done .none)) .none) .none)) (h 12 (UA 7 (.alloc 0 (.agg #[i j 0,i j 0,.slice o 0 0,.slice o 0 0,.slice o 0 0]))) d (h 2 (UA 12 (.call 92 [(t 11)])) d (v 6 [11,13] (LA 16 15)
 (v 11 [13] (UA 21 (.build [i j 0,i j 0,.slice o 0 0,.slice o 0 0,.slice o 0 0] [(0,1,(t 10)),(1,1,(t 12)),(2,1,(t 16)),(3,1,(t 20))])) (h 13 (WA 5 7 21) g .done .none))) (h 6 (LA 16 15) d
 (h 2 (UA 12 (.call 92 [(t 11)])) d (v 11 [13] (UA 21 (.build [i j 0,i j 0,.slice o 0 0,.slice o 0 0,.slice o 0 0] [(0,1,(t 10)),(1,1,(t 12)),(2,1,(t 16)),(3,1,(t 20))])) (h 13 (WA 5 7 21) g .done
 .none)) .none) .none)) .none))) (h 12 (UA 7 (.alloc 0 (.agg #[i j 0,i j 0,.slice o 0 0,.slice o 0 0,.slice o 0 0]))) d (h 2 (UA 12 (.call 92 [(t 11)])) d (v 6 [11,13] (LA 16 15) (v 10 [11,13] (LA 20 19)
 (v 11 [13] (UA 21 (.build [i j 0,i j 0,.slice o 0 0,.slice o 0 0,.slice o 0 0] [(0,1,(t 10)),(1,1,(t 12)),(2,1,(t 16)),(3,1,(t 20))])) (h 13 (WA 5 7 21) g .done .none)))) (h 6 (LA 16 15) d
 (h 2 (UA 12 (.call 92 [(t 11)])) d (v 10 [11,13] (LA 20 19) (v 11 [13] (UA 21 (.build [i j 0,i j 0,.slice o 0 0,.slice o 0 0,.slice o 0 0] [(0,1,(t 10)),(1,1,(t 12)),(2,1,(t 16)),(3,1,(t 20))]))
 (h 13 (WA 5 7 21) g .done .none))) (h 10 (LA 20 19) d (h 2 (UA 12 (.call 92 [(t 11)])) d (v 11 [13] (UA 21 (.build [i j 0,i j 0,.slice o 0 0,.slice o 0 0,.slice o 0 0] [(0,1,(t 10)),(1,1,(t 12)),(2,1,(t 16)),(3,1,(t 20))]))
 (h 13 (WA 5 7 21) g .done .none)) .none) .none)) (h 10 (LA 20 19) d (h 2 (UA 12 (.call 92 [(t 11)])) d (v 6 [11,13] (LA 16 15) (v 11 [13] (UA 21 (.build [i j 0,i j 0,.slice o 0 0,.slice o 0 0,.slice o 0 0] [(0,1,(t 10)),(1,1,(t 12)),(2,1,(t 16)),(3,1,(t 20))]))
 (h 13 (WA 5 7 21) g .done .none))) (h 6 (LA 16 15) d (h 2 (UA 12 (.call 92 [(t 11)])) d (v 11 [13] (UA 21 (.build [i j 0,i j 0,.slice o 0 0,.slice o 0 0,.slice o 0 0] [(0,1,(t 10)),(1,1,(t 12)),(2,1,(t 16)),(3,1,(t 20))]))
 (h 13 (WA 5 7 21) g .done .none)) .none) .none)) .none))) .none))))))))))))) (q (q (r 0 [MA 22 2,UA 23 (n (t 22)),CA 24 0]) (z 0 (.loop c65l0))) (q (r 0 [SA 38 5 7,
 (WA 5 6 38)]) .ret)))) 
def c66 : LCode :=
 (q (r 2 [UA 4 (u 0 (t 0)),UA 6 (u 1 (t 2)),CA 8 0]) (q (r 2 [LA 11 4,UA 12 (.nilc (t 11)),FA 13 0 12,FA 14 0 13,LA 15 14,UA 16 (.mk 0 1 1 [.bool g] (t 15) (t 15)),
 (UA 9 (.alloc 1 (.slice o 0 0))),WA 1 9 16]) (q (r 1 [UA 10 (.alloc 0 (.nilFunc))]) (q (r 0 [UA 17 (.fn 93 [(t 6),(t 9),(t 4),(t 10)]),WA 1 10 17]) (q (r 0 [LA 18 10,
 (MA 19 1),MA 20 3,UA 21 (.callv (t 18) [(t 19),(t 20)]),MA 8 21]) .ret))))) 
def c67 : LCode :=
 (q (r 2 [UA 4 (u 0 (t 0)),UA 7 (u 1 (t 3)),UA 8 (m (k (y g)))]) (q (q (r 0 [FA 16 2 7,LA 17 16,UA 18 (n (t 17)),FA 19 1 4,LA 20 19,UA 21 (n (t 20)),
 (UA 22 (b .neq g (t 18) (t 21)))]) (c (t 22) (q (r 0 [UA 8 (m (k (y g)))]) .ret) .skip)) (q (r 1 [FA 23 0 4,LA 24 23,UA 25 (.mk 0 1 8 [i j 0] (t 24) (t 24)),MA 9 25])
 (q (r 0 [CA 10 0]) (q (q (r 0 [FA 26 1 4,LA 27 26,UA 28 (n (t 27)),CA 29 0]) (z 0 (.loop (q (r 0 [UA 30 (b .lss g (t 29) (t 28))]) (q (c (t 30)
 .skip (.exit 0)) (q (z 1 (q (r 1 [MA 31 29,XA 32 4 27 29,SA 33 4 32,UA 12 (.alloc 0 (.agg #[i j 0,i j 0,i j 0,i j 0])),MA 11 31,WA 4 12 33])
 (q (r 0 [FA 34 2 7,LA 35 34,MA 36 11,XA 37 1 35 36,LA 38 37,MA 13 38]) (q (q (r 0 [MA 39 13,UA 40 (b .lss g (t 39) (k (i j 0))),
 (MA 41 40),GA 42 (m (t 13)) 41 g,GA 43 (f 2 (t 12)) 41 g,GA 44 (l o (t 43)) 41 g,GA 45 (b .gtr g (t 42) (t 44)) 41 g,UA 46 (p (t 41) (k (y d)) (t 45))]) (c (t 46) (q (r 0 [
 (UA 8 (m (k (y g))))]) .ret) .skip)) (q (r 0 [MA 47 9,FA 48 0 12,LA 49 48,XA 50 1 47 49,LA 51 50,MA 52 13,UA 53 (b .add d (t 51) (t 52)),
 (XA 54 1 47 49),WA 1 54 53]) (q (r 0 [MA 55 9,FA 56 1 12,LA 57 56,XA 58 1 55 57,LA 59 58,MA 60 13,UA 61 (b .sub d (t 59) (t 60)),
 (XA 62 1 55 57),WA 1 62 61]) (r 0 [MA 63 10,MA 64 13,FA 65 3 12,LA 66 65,UA 67 (b .mul d (t 64) (t 66)),UA 68 (b .add d (t 63) (t 67)),
 (MA 10 68)]))))))) (r 0 [UA 69 (b .add d (t 29) (k (i j 1))),MA 29 69]))))))) (q (q (r 0 [MA 70 9,UA 71 (n (t 70)),CA 72 0]) (z 2 (.loop (q (r 0 [UA 73 (b .lss g (t 72) (t 71))])
 (q (c (t 73) .skip (.exit 2)) (q (z 3 (q (r 0 [MA 74 72,XA 75 1 70 72,LA 76 75,MA 14 74,MA 15 76]) (q (r 0 [MA 77 14,MA 78 1,
 (UA 79 (b .eql g (t 77) (t 78))),MA 80 79,GA 81 (m (t 15)) 80 d,GA 82 (f 0 (t 7)) 80 d,GA 83 (l o (t 82)) 80 d,GA 84 (b .neq g (t 81) (t 83)) 80 d,UA 85 (p (t 80) (t 84) (k (y g))),
 (MA 86 85),GA 87 (m (t 14)) 86 g,GA 88 (m (t 1)) 86 g,GA 89 (b .neq g (t 87) (t 88)) 86 g,GA 90 (m (t 89)) 86 g,GA 91 (m (t 14)) 90 d,GA 92 (m (t 2)) 90 d,GA 93 (b .neq g (t 91) (t 92)) 90 d,
 (GA 94 (p (t 90) (t 93) (k (y g))) 86 g),GA 95 (m (t 94)) 86 g,GA 96 (m (t 15)) 95 d,GA 97 (b .neq g (t 96) (k (i j 0))) 95 d,GA 98 (p (t 95) (t 97) (k (y g))) 86 g,UA 99 (p (t 86) (k (y d)) (t 98))])
 (c (t 99) (q (r 0 [UA 8 (m (k (y g)))]) .ret) .skip)))) (r 0 [UA 100 (b .add d (t 72) (k (i j 1))),MA 72 100]))))))) (q (r 0 [MA 101 10,FA 102 1 7,LA 103 102,
 (UA 104 (b .eql g (t 101) (t 103))),MA 8 104]) .ret))))))) 
def c68 : LCode :=
 (q (r 2 [UA 3 (u 0 (t 0)),UA 5 (u 1 (t 2)),UA 6 (m (k (y g)))]) (q (q (r 0 [FA 10 3 5,LA 11 10,UA 12 (n (t 11)),FA 13 0 3,LA 14 13,UA 15 (b .neq g (t 12) (t 14)),
 (MA 16 15),GA 17 (f 3 (t 5)) 16 g,GA 18 (l o (t 17)) 16 g,GA 19 (m (t 1)) 16 g,GA 20 (x 1 (t 18) (t 19)) 16 g,GA 21 (l o (t 20)) 16 g,GA 22 (b .neq g (t 21) (k (i j 0))) 16 g,
 (UA 23 (p (t 16) (k (y d)) (t 22))),MA 24 23,GA 25 (f 3 (t 5)) 24 g,GA 26 (l o (t 25)) 24 g,GA 27 (.call 94 [(t 26),(.func 95)]) 24 g,UA 28 (p (t 24) (k (y d)) (t 27))]) (c (t 28)
 (q (r 0 [UA 6 (m (k (y g)))]) .ret) .skip)) (q (q (r 0 [FA 29 1 3,LA 30 29,UA 31 (n (t 30)),CA 32 0]) (z 0 (.loop (q (r 0 [UA 33 (b .lss g (t 32) (t 31))])
 (q (c (t 33) .skip (.exit 0)) (q (z 1 (q (r 1 [MA 34 32,XA 35 4 30 32,SA 36 4 35,UA 8 (.alloc 0 (.agg #[i j 0,i j 0,i j 0,i j 0])),MA 7 34,WA 4 8 36])
 (q (.qui 0 [FA 37 3 8,LA 38 37,FA 39 3 5,LA 40 39,FA 41 0 8,LA 42 41,XA 43 1 40 42,LA 44 43,UA 45 (b .add d (t 38) (t 44)),
 (FA 46 3 5),LA 47 46,FA 48 1 8,LA 49 48,XA 50 1 47 49,LA 51 50,UA 52 (b .sub d (t 45) (t 51)),MA 9 52]) (q (.qui 0 [FA 53 2 5,
 (LA 54 53),MA 55 7,XA 56 1 54 55,LA 57 56,FA 58 2 8,LA 59 58,UA 60 (b .lss g (t 57) (t 59)),MA 61 60,GA 62 (m (t 9)) 61 d,
 (GA 63 (b .lss g (t 62) (k (i j 0))) 61 d),UA 64 (p (t 61) (t 63) (k (y g))),MA 65 64,GA 66 (f 2 (t 5)) 65 g,GA 67 (l o (t 66)) 65 g,GA 68 (m (t 7)) 65 g,GA 69 (x 1 (t 67) (t 68)) 65 g,
 (GA 70 (l o (t 69)) 65 g),GA 71 (b .gtr g (t 70) (k (i j 0))) 65 g,GA 72 (m (t 71)) 65 g,GA 73 (m (t 9)) 72 d,GA 74 (b .gtr g (t 73) (k (i j 0))) 72 d,GA 75 (p (t 72) (t 74) (k (y g))) 65 g,
 (UA 76 (p (t 65) (k (y d)) (t 75)))]) (c (t 76) (q (r 0 [UA 6 (m (k (y g)))]) .ret) .skip))))) (r 0 [UA 77 (b .add d (t 32) (k (i j 1))),MA 32 77]))))))) (q (r 0 [UA 6 (m (k (y d)))]) .ret))))
 
def c69 : LCode :=
 (q (r 2 [UA 4 (u 0 (t 0)),UA 7 (u 1 (t 3)),UA 8 (m (k (y g)))]) (q (r 1 [FA 14 0 4,LA 15 14,UA 16 (.mk 0 1 1 [.bool g] (t 15) (t 15)),MA 9 16]) (q (q (r 0 [FA 17 4 7,
 (LA 18 17),UA 19 (n (t 18)),CA 20 0]) (z 0 (.loop (q (r 0 [UA 21 (b .lss g (t 20) (t 19))]) (q (c (t 21) .skip (.exit 0)) (q (z 1 (q (r 0 [MA 22 20,XA 23 1 18 20,
 (LA 24 23),MA 10 22,MA 11 24]) (q (q (r 0 [MA 25 11,UA 26 (b .lss g (t 25) (k (i j 0))),MA 27 26,GA 28 (m (t 11)) 27 g,GA 29 (f 0 (t 4)) 27 g,
 (GA 30 (l o (t 29)) 27 g),GA 31 (b .geq g (t 28) (t 30)) 27 g,UA 32 (p (t 27) (k (y d)) (t 31)),MA 33 32,GA 34 (m (t 10)) 33 g,GA 35 (b .gtr g (t 34) (k (i j 0))) 33 g,
 (GA 36 (m (t 35)) 33 g),GA 37 (m (t 11)) 36 d,GA 38 (f 4 (t 7)) 36 d,GA 39 (l o (t 38)) 36 d,GA 40 (m (t 10)) 36 d,GA 41 (b .sub d (t 40) (k (i j 1))) 36 d,GA 42 (x 1 (t 39) (t 41)) 36 d,
 (GA 43 (l o (t 42)) 36 d),GA 44 (b .leq g (t 37) (t 43)) 36 d,GA 45 (p (t 36) (t 44) (k (y g))) 33 g,UA 46 (p (t 33) (k (y d)) (t 45))]) (c (t 46) (q (r 0 [UA 8 (m (k (y g)))]) .ret)
 .skip)) (r 0 [MA 47 9,MA 48 11,XA 49 1 47 48,⟨o,w 1 (t 49) (k (y d)),o⟩])))) (r 0 [UA 50 (b .add d (t 20) (k (i j 1))),MA 20 50]))))))) (q (q (r 0 [MA 51 9,
 (MA 52 1),XA 53 1 51 52,LA 54 53,UA 55 (.not (t 54)),MA 56 55,GA 57 (m (t 9)) 56 g,GA 58 (m (t 2)) 56 g,GA 59 (x 1 (t 57) (t 58)) 56 g,GA 60 (l o (t 59)) 56 g,
 (UA 61 (p (t 56) (k (y d)) (t 60)))]) (c (t 61) (q (r 0 [UA 8 (m (k (y g)))]) .ret) .skip)) (q (q (r 0 [FA 62 1 4,LA 63 62,UA 64 (n (t 63)),CA 65 0]) (z 2 (.loop
 (q (r 0 [UA 66 (b .lss g (t 65) (t 64))]) (q (c (t 66) .skip (.exit 2)) (q (z 3 (q (r 1 [MA 67 65,XA 68 4 63 65,SA 69 4 68,UA 13 (.alloc 0 (.agg #[i j 0,i j 0,i j 0,i j 0])),
 (MA 12 67),WA 4 13 69]) (q (.qui 0 [MA 70 9,FA 71 0 13,LA 72 71,XA 73 1 70 72,LA 74 73,MA 75 74,GA 76 (m (t 9)) 75 d,
 (GA 77 (f 1 (t 13)) 75 d),GA 78 (l o (t 77)) 75 d,GA 79 (x 1 (t 76) (t 78)) 75 d,GA 80 (l o (t 79)) 75 d,GA 81 (.not (t 80)) 75 d,UA 82 (p (t 75) (t 81) (k (y g))),MA 83 82,
 (GA 84 (f 2 (t 7)) 83 d),GA 85 (l o (t 84)) 83 d,GA 86 (m (t 12)) 83 d,GA 87 (x 1 (t 85) (t 86)) 83 d,GA 88 (l o (t 87)) 83 d,GA 89 (f 2 (t 13)) 83 d,GA 90 (l o (t 89)) 83 d,
 (GA 91 (b .neq g (t 88) (t 90)) 83 d),UA 92 (p (t 83) (t 91) (k (y g))),MA 93 92,GA 94 (m (t 9)) 93 g,GA 95 (f 0 (t 13)) 93 g,GA 96 (l o (t 95)) 93 g,GA 97 (x 1 (t 94) (t 96)) 93 g,
 (GA 98 (l o (t 97)) 93 g),GA 99 (.not (t 98)) 93 g,GA 100 (m (t 99)) 93 g,GA 101 (m (t 9)) 100 d,GA 102 (f 1 (t 13)) 100 d,GA 103 (l o (t 102)) 100 d,GA 104 (x 1 (t 101) (t 103)) 100 d,
 (GA 105 (l o (t 104)) 100 d),GA 106 (p (t 100) (t 105) (k (y g))) 93 g,GA 107 (m (t 106)) 93 g,GA 108 (f 2 (t 7)) 107 d,GA 109 (l o (t 108)) 107 d,GA 110 (m (t 12)) 107 d,
 (GA 111 (x 1 (t 109) (t 110)) 107 d),GA 112 (l o (t 111)) 107 d,GA 113 (b .neq g (t 112) (k (i j 0))) 107 d,GA 114 (p (t 107) (t 113) (k (y g))) 93 g,UA 115 (p (t 93) (k (y d)) (t 114))])
 (c (t 115) (q (r 0 [UA 8 (m (k (y g)))]) .ret) .skip)))) (r 0 [UA 116 (b .add d (t 65) (k (i j 1))),MA 65 116]))))))) (q (r 0 [UA 8 (m (k (y d)))]) .ret)))))) 
def c70 : LCode :=
 (q (r 1 [UA 4 (u 0 (t 0)),UA 8 (m (k (y g)))]) (q (q (r 0 [MA 11 3,UA 12 (n (t 11)),FA 13 1 4,LA 14 13,UA 15 (n (t 14)),UA 16 (b .neq g (t 12) (t 15))]) (c (t 16)
 (q (r 0 [UA 8 (m (k (y g)))]) .ret) .skip)) (q (q (r 0 [CA 9 0]) (z 0 (.loop (q (q (r 0 [MA 17 9,MA 18 3,UA 19 (n (t 18)),UA 20 (b .lss g (t 17) (t 19))]) (c (t 20)
 .skip (.exit 0))) (q (z 1 (q (.qui 0 [MA 23 3,MA 24 9,XA 25 1 23 24,LA 26 25,UA 27 (b .lss g (t 26) (k (i j 0))),MA 28 27,GA 29 (m (t 3)) 28 g,
 (GA 30 (m (t 9)) 28 g),GA 31 (x 1 (t 29) (t 30)) 28 g,GA 32 (l o (t 31)) 28 g,GA 33 (f 1 (t 4)) 28 g,GA 34 (l o (t 33)) 28 g,GA 35 (m (t 9)) 28 g,GA 36 (x 4 (t 34) (t 35)) 28 g,
 (GA 37 (f 2 (t 36)) 28 g),GA 38 (l o (t 37)) 28 g,GA 39 (b .gtr g (t 32) (t 38)) 28 g,UA 40 (p (t 28) (k (y d)) (t 39))]) (c (t 40) (q (r 0 [UA 8 (m (k (y g)))]) .ret) .skip))) (r 0 [
 (MA 21 9),UA 22 (b .add d (t 21) (k (i j 1))),MA 9 22])))))) (q (q (r 0 [CA 10 0]) (z 2 (.loop (q (q (r 0 [MA 41 10,FA 42 0 4,LA 43 42,
 (UA 44 (b .lss g (t 41) (t 43)))]) (c (t 44) .skip (.exit 2))) (q (z 3 (q (r 0 [MA 47 10,MA 48 1,UA 49 (b .neq g (t 47) (t 48)),MA 50 49,GA 51 (m (t 10)) 50 d,GA 52 (m (t 2)) 50 d,
 (GA 53 (b .neq g (t 51) (t 52)) 50 d),UA 54 (p (t 50) (t 53) (k (y g))),MA 55 54,GA 56 (l (s 2) (t 4)) 55 d,GA 57 (m (t 3)) 55 d,GA 58 (m (t 10)) 55 d,GA 59 (.call 71 [(t 56),(t 57),(t 58)]) 55 d,
 (GA 60 (b .neq g (t 59) (k (i j 0))) 55 d),UA 61 (p (t 55) (t 60) (k (y g)))]) (c (t 61) (q (r 0 [UA 8 (m (k (y g)))]) .ret) .skip))) (r 0 [MA 45 10,UA 46 (b .add d (t 45) (k (i j 1))),
 (MA 10 46)])))))) (q (r 0 [UA 8 (m (k (y d)))]) .ret))))) 
def c71 : LCode :=
 (q (r 1 [UA 3 (u 0 (t 0)),CA 6 0]) (q (r 0 [CA 7 0]) (q (q (r 0 [CA 8 0]) (z 0 (.loop (q (q (r 0 [MA 9 8,FA 10 1 3,LA 11 10,
 (UA 12 (n (t 11))),UA 13 (b .lss g (t 9) (t 12))]) (c (t 13) .skip (.exit 0))) (q (z 1 (q (q (r 0 [FA 16 1 3,LA 17 16,MA 18 8,XA 19 4 17 18,FA 20 0 19,
 (LA 21 20),MA 22 2,UA 23 (b .eql g (t 21) (t 22))]) (c (t 23) (r 0 [MA 24 7,MA 25 1,MA 26 8,XA 27 1 25 26,LA 28 27,UA 29 (b .add d (t 24) (t 28)),
 (MA 7 29)]) .skip)) (q (r 0 [FA 30 1 3,LA 31 30,MA 32 8,XA 33 4 31 32,FA 34 1 33,LA 35 34,MA 36 2,UA 37 (b .eql g (t 35) (t 36))])
 (c (t 37) (r 0 [MA 38 7,MA 39 1,MA 40 8,XA 41 1 39 40,LA 42 41,UA 43 (b .sub d (t 38) (t 42)),MA 7 43]) .skip)))) (r 0 [MA 14 8,
 (UA 15 (b .add d (t 14) (k (i j 1)))),MA 8 15])))))) (q (r 0 [MA 44 7,MA 6 44]) .ret)))) 
def c72 : LCode :=
 (q (r 1 [UA 2 (u 0 (t 0)),CA 4 0]) (q (r 0 [CA 5 0]) (q (q (r 0 [CA 6 0]) (z 0 (.loop (q (q (r 0 [MA 7 6,MA 8 1,UA 9 (n (t 8)),
 (UA 10 (b .lss g (t 7) (t 9)))]) (c (t 10) .skip (.exit 0))) (q (z 1 (.qui 0 [MA 13 5,MA 14 1,MA 15 6,XA 16 1 14 15,LA 17 16,FA 18 1 2,
 (LA 19 18),MA 20 6,XA 21 4 19 20,FA 22 3 21,LA 23 22,UA 24 (b .mul d (t 17) (t 23)),UA 25 (b .add d (t 13) (t 24)),MA 5 25])) (r 0 [
 (MA 11 6),UA 12 (b .add d (t 11) (k (i j 1))),MA 6 12])))))) (q (r 0 [MA 26 5,MA 4 26]) .ret)))) 
def c73 : LCode :=
 (q (r 2 [UA 3 (u 0 (t 0)),UA 5 (u 1 (t 2)),UA 6 (m (k (y g)))]) (q (q (r 0 [FA 11 3 5,LA 12 11,UA 13 (n (t 12)),FA 14 0 3,LA 15 14,UA 16 (b .neq g (t 13) (t 15)),
 (MA 17 16),GA 18 (f 3 (t 5)) 17 g,GA 19 (l o (t 18)) 17 g,GA 20 (m (t 1)) 17 g,GA 21 (x 1 (t 19) (t 20)) 17 g,GA 22 (l o (t 21)) 17 g,GA 23 (b .neq g (t 22) (k (i j 0))) 17 g,
 (UA 24 (p (t 17) (k (y d)) (t 23)))]) (c (t 24) (q (r 0 [UA 6 (m (k (y g)))]) .ret) .skip)) (q (q (r 0 [CA 7 0]) (z 0 (.loop (q (q (r 0 [MA 25 7,FA 26 0 3,LA 27 26,
 (UA 28 (b .lss g (t 25) (t 27)))]) (c (t 28) .skip (.exit 0))) (q (z 1 (q (r 0 [FA 31 3 5,LA 32 31,MA 33 7,XA 34 1 32 33,LA 35 34,UA 36 (b .lss g (t 35) (k (i j 0))),
 (MA 37 36),GA 38 (f 3 (t 5)) 37 g,GA 39 (l o (t 38)) 37 g,GA 40 (m (t 7)) 37 g,GA 41 (x 1 (t 39) (t 40)) 37 g,GA 42 (l o (t 41)) 37 g,GA 43 (b .gtr g (t 42) (k (i j 1073741824))) 37 g,
 (UA 44 (p (t 37) (k (y d)) (t 43)))]) (c (t 44) (q (r 0 [UA 6 (m (k (y g)))]) .ret) .skip))) (r 0 [MA 29 7,UA 30 (b .add d (t 29) (k (i j 1))),MA 7 30])))))) (q (q (r 0 [CA 8 0])
 (z 2 (.loop (q (q (r 0 [MA 45 8,FA 46 1 3,LA 47 46,UA 48 (n (t 47)),UA 49 (b .lss g (t 45) (t 48))]) (c (t 49) .skip (.exit 2))) (q (z 3 (q (r 1 [FA 52 1 3,
 (LA 53 52),MA 54 8,XA 55 4 53 54,SA 56 4 55,UA 9 (.alloc 0 (.agg #[i j 0,i j 0,i j 0,i j 0])),WA 4 9 56]) (q (.qui 0 [FA 57 3 9,
 (LA 58 57),FA 59 3 5,LA 60 59,FA 61 0 9,LA 62 61,XA 63 1 60 62,LA 64 63,UA 65 (b .add d (t 58) (t 64)),FA 66 3 5,
 (LA 67 66),FA 68 1 9,LA 69 68,XA 70 1 67 69,LA 71 70,UA 72 (b .sub d (t 65) (t 71)),MA 10 72]) (q (.qui 0 [MA 73 10,UA 74 (b .lss g (t 73) (k (i j 0))),
 (MA 75 74),GA 76 (f 2 (t 5)) 75 d,GA 77 (l o (t 76)) 75 d,GA 78 (m (t 8)) 75 d,GA 79 (x 1 (t 77) (t 78)) 75 d,GA 80 (l o (t 79)) 75 d,GA 81 (f 2 (t 9)) 75 d,
 (GA 82 (l o (t 81)) 75 d),GA 83 (b .lss g (t 80) (t 82)) 75 d,UA 84 (p (t 75) (t 83) (k (y g))),MA 85 84,GA 86 (m (t 10)) 85 g,GA 87 (b .gtr g (t 86) (k (i j 0))) 85 g,
 (GA 88 (m (t 87)) 85 g),GA 89 (f 2 (t 5)) 88 d,GA 90 (l o (t 89)) 88 d,GA 91 (m (t 8)) 88 d,GA 92 (x 1 (t 90) (t 91)) 88 d,GA 93 (l o (t 92)) 88 d,GA 94 (b .gtr g (t 93) (k (i j 0))) 88 d,
 (GA 95 (p (t 88) (t 94) (k (y g))) 85 g),UA 96 (p (t 85) (k (y d)) (t 95))]) (c (t 96) (q (r 0 [UA 6 (m (k (y g)))]) .ret) .skip))))) (r 0 [MA 50 8,UA 51 (b .add d (t 50) (k (i j 1))),
 (MA 8 51)])))))) (q (r 0 [UA 6 (m (k (y d)))]) .ret))))) 
def c74 : LCode :=
 (q (r 2 [UA 4 (u 0 (t 0)),UA 7 (u 1 (t 3)),UA 8 (m (k (y g)))]) (q (q (r 0 [CA 9 0]) (z 0 (.loop (q (q (r 0 [MA 14 9,FA 15 4 7,LA 16 15,UA 17 (n (t 16)),
 (UA 18 (b .lss g (t 14) (t 17)))]) (c (t 18) .skip (.exit 0))) (q (z 1 (q (.tree 0 (v 0 [6,7,8,9,10,11,12,13,14,15,16,17,18,19,20,21,22,23,24,25] (SA 21 2 4) (v 1 [2,4,5,6,7,8,9,10,11,12,13,14,15,16,17,18,19,20,21,22,23,24,25] (FA 22 4 7)
 (v 2 [4,5,6,7,8,9,10,11,12,13,14,15,16,17,18,19,20,21,22,23,24,25] (LA 23 22) (v 3 [4,5,6,7,8,9,10,11,12,13,14,15,16,17,18,19,20,21,22,23,24,25] (MA 24 9) (v 4 [5,6,7,8,9,10,11,12,13,14,15,16,17,18,19,20,21,22,23,24,25] (XA 25 1 23 24)
 (v 5 [6,7,8,9,10,11,12,13,14,15,16,17,18,19,20,21,22,23,24,25] (LA 26 25) (h 6 (UA 27 (.call 96 [(t 21),(t 26)])) g (v 7 [8,9,10,11,12,13,14,15,16,17,18,19,20,21,22,23,24,25] (UA 28 (.not (t 27)))
 (v 8 [9,10,11,12,13,14,15,16,17,18,19,20,21,22,23,24,25] (MA 29 28) (v 9 [10,11,12,13,14,15,16,17,18,19,20,21,22,23,24,25] (GA 30 (m (t 9)) 29 g) (v 10 [11,12,13,14,15,16,17,18,19,20,21,22,23,24,25] (GA 31 (b .gtr g (t 30) (k (i j 0))) 29 g)
 (v 11 [12,13,14,15,16,17,18,19,20,21,22,23,24,25] (GA 32 (m (t 31)) 29 g) (v 12 [13,15,16,23,24,25] (GA 33 (f 4 (t 7)) 32 d) (v 13 [15,16,23,24,25] (GA 34 (l o (t 33)) 32 d) (v 14 [15,16,23,24,25] (GA 35 (m (t 9)) 32 d)
 (v 15 [16,23,24,25] (GA 36 (x 1 (t 34) (t 35)) 32 d) (v 16 [23,24,25] (GA 37 (l o (t 36)) 32 d) (v 17 [18,21,22,23,24,25] (GA 38 (f 4 (t 7)) 32 d) (v 18 [21,22,23,24,25] (GA 39 (l o (t 38)) 32 d)
 (v 19 [20,21,22,23,24,25] (GA 40 (m (t 9)) 32 d) (v 20 [21,22,23,24,25] (GA 41 (b .sub d (t 40) (k (i j 1))) 32 d) (v 21 [22,23,24,25] (GA 42 (x 1 (t 39) (t 41)) 32 d) (v 22 [23,24,25] (GA 43 (l o (t 42)) 32 d)
 (v 23 [24,25] (GA 44 (b .leq g (t 37) (t 43)) 32 d) (v 24 [25] (GA 45 (p (t 32) (t 44) (k (y g))) 29 g) (v 25 [] (UA 46 (p (t 29) (k (y d)) (t 45))) .done))))))))))))))))))) .none)))))))) (c (t 46)
 (q (r 0 [UA 8 (m (k (y g)))]) .ret) .skip))) (r 0 [MA 19 9,UA 20 (b .add d (t 19) (k (i j 1))),MA 9 20])))))) (q (q (r 0 [FA 47 4 7,LA 48 47,MA 49 1,
 (UA 50 (.call 97 [(t 48),(t 49)])),UA 51 (.not (t 50)),MA 52 51,GA 53 (f 4 (t 7)) 52 g,GA 54 (l o (t 53)) 52 g,GA 55 (m (t 2)) 52 g,GA 56 (.call 97 [(t 54),(t 55)]) 52 g,
 (UA 57 (p (t 52) (k (y d)) (t 56)))]) (c (t 57) (q (r 0 [UA 8 (m (k (y g)))]) .ret) .skip)) (q (q (r 0 [CA 10 0]) (z 2 (.loop (q (q (r 0 [MA 58 10,FA 59 1 4,LA 60 59,
 (UA 61 (n (t 60))),UA 62 (b .lss g (t 58) (t 61))]) (c (t 62) .skip (.exit 2))) (q (z 3 (q (r 1 [FA 65 1 4,LA 66 65,MA 67 10,XA 68 4 66 67,SA 69 4 68,
 (UA 11 (.alloc 0 (.agg #[i j 0,i j 0,i j 0,i j 0]))),WA 4 11 69]) (q (r 0 [FA 70 4 7,LA 71 70,FA 72 0 11,LA 73 72,UA 74 (.call 97 [(t 71),(t 73)]),
 (MA 12 74)]) (q (r 0 [FA 75 4 7,LA 76 75,FA 77 1 11,LA 78 77,UA 79 (.call 97 [(t 76),(t 78)]),MA 13 79]) (q (.qui 0 [MA 80 12,
 (MA 81 80),GA 82 (m (t 13)) 81 d,GA 83 (.not (t 82)) 81 d,UA 84 (p (t 81) (t 83) (k (y g))),MA 85 84,GA 86 (f 2 (t 7)) 85 d,GA 87 (l o (t 86)) 85 d,GA 88 (m (t 10)) 85 d,
 (GA 89 (x 1 (t 87) (t 88)) 85 d),GA 90 (l o (t 89)) 85 d,GA 91 (f 2 (t 11)) 85 d,GA 92 (l o (t 91)) 85 d,GA 93 (b .neq g (t 90) (t 92)) 85 d,UA 94 (p (t 85) (t 93) (k (y g))),
 (MA 95 94),GA 96 (m (t 13)) 95 g,GA 97 (m (t 96)) 95 g,GA 98 (m (t 12)) 97 d,GA 99 (.not (t 98)) 97 d,GA 100 (p (t 97) (t 99) (k (y g))) 95 g,GA 101 (m (t 100)) 95 g,
 (GA 102 (f 2 (t 7)) 101 d),GA 103 (l o (t 102)) 101 d,GA 104 (m (t 10)) 101 d,GA 105 (x 1 (t 103) (t 104)) 101 d,GA 106 (l o (t 105)) 101 d,GA 107 (b .neq g (t 106) (k (i j 0))) 101 d,
 (GA 108 (p (t 101) (t 107) (k (y g))) 95 g),UA 109 (p (t 95) (k (y d)) (t 108))]) (c (t 109) (q (r 0 [UA 8 (m (k (y g)))]) .ret) .skip)))))) (r 0 [MA 63 10,UA 64 (b .add d (t 63) (k (i j 1))),
 (MA 10 64)])))))) (q (r 0 [UA 8 (m (k (y d)))]) .ret))))) 
def c75l0 : LCode :=
 q (r 0 [UA 24 (b .lss g (t 23) (t 22))]) (q (c (t 24) .skip (.exit 0)) (q (z 1 (q (r 0 [MA 25 23,XA 26 1 21 23,LA 27 26,MA 9 25,MA 10 27]) (q
 (q (.qui 0 [FA 28 1 5,LA 29 28,MA 30 10,UA 31 (x 1 (t 30) (k (i j 0))),LA 32 31,XA 33 4 29 32,FA 34 1 33,LA 35 34,LA 36 3,
 (UA 37 (b .mul d (k (i j 2)) (t 36))),UA 38 (b .add d (k (i j 2)) (t 37)),UA 39 (b .neq g (t 35) (t 38))]) (c (t 39) (.exit 1) .skip)) (q (.ytree 0 (v 0 [8,9] (MA 40 0) (v 1 [3,4,8,9] (MA 41 7)
 (v 2 [3,4,8,9] (MA 42 9) (v 3 [4,8,9] (XA 43 1 41 42) (v 4 [8,9] (LA 44 43) (v 5 [7,8,9] (MA 45 10) (v 6 [7,8,9] (UA 46 (.fn 77 [(t 1)])) (h 7 (UA 47 (.call 53 [(t 45),(t 46)])) d
 .done .none)))))))) 8 [UA 48 (.yld (t 40) [(t 44),(t 47)]),UA 49 (.not (t 48))]) (c (t 49) .ret .skip))))) (r 0 [UA 50 (b .add d (t 23) (k (i j 1))),MA 23 50])))
def c75 : LCode :=
 (q (r 1 [SA 11 2 1,UA 12 (.call 15 [(t 11)]),UA 5 (.alloc 0 (.agg #[i j 0,.slice o 0 0])),WA 2 5 12]) (q (r 0 [SA 14 2 5,FA 15 2 2,LA 16 15,
 (UA 17 (.call 76 [(t 14),(k (i j 0)),(k (i j 1)),(t 16)])),MA 13 17,UA 18 (.ext (t 13) 0),UA 19 (.ext (t 13) 1),UA 20 (.ext (t 13) 2),MA 6 18,MA 7 19,MA 8 20])
 (q (r 0 [MA 21 6,UA 22 (n (t 21)),CA 23 0]) (z 0 (.loop c75l0))))) 
def c76l0 : LCode :=
 q (r 0 [UA 40 (b .lss g (t 39) (t 38))]) (q (c (t 40) .skip (.exit 0)) (q (z 1 (q (r 1 [MA 41 39,XA 42 4 37 39,SA 43 4 42,UA 15 (.alloc 0 (.agg #[i j 0,i j 0,i j 0,i j 0])),
 (MA 14 41),WA 4 15 43]) (.tree 2 (v 0 [11,12] (MA 44 13) (v 1 [2,11,12] (FA 45 0 15) (v 2 [11,12] (LA 46 45) (v 3 [6,7,10,11,12] (MA 47 13) (v 4 [5,6,7,10,11,12] (FA 48 0 15)
 (v 5 [6,7,10,11,12] (LA 49 48) (v 6 [7,10,11,12] (XA 50 1 47 49) (v 7 [10,11,12] (LA 51 50) (v 8 [9,10,11,12] (MA 52 14) (h 9 (UA 53 (.lits 0 1 1 [i j 0] [(0,(t 52))])) d
 (h 10 (UA 54 (.append 1 1 8 (t 51) (t 53))) d (v 11 [12] (XA 55 1 44 46) (h 12 (WA 1 55 54) g .done .none)) .none) .none))))))))))))) (r 0 [UA 56 (b .add d (t 39) (k (i j 1))),
 (MA 39 56)])))
def c76l2 : LCode :=
 q (q (r 0 [LA 64 20,MA 65 2,UA 66 (b .neq g (t 64) (t 65))]) (c (t 66) .skip (.exit 4))) (q (z 5 (q (r 0 [MA 67 13,LA 68 20,XA 69 1 67 68,LA 70 69,
 (UA 71 (.fn 99 [(t 12)])),UA 72 (.call 82 [(t 70),(t 71)]),MA 21 72]) (q (r 2 [MA 73 19,MA 74 13,LA 75 20,XA 76 1 74 75,LA 77 76,MA 78 21,
 (XA 79 1 77 78),LA 80 79,UA 81 (.lits 0 1 1 [i j 0] [(0,(t 80))]),UA 82 (.append 1 1 8 (t 73) (t 81)),MA 19 82]) (q (.tail 12 0 [FA 83 1 4,LA 84 83,
 (MA 85 13),LA 86 20,XA 87 1 85 86,LA 88 87,MA 89 21,XA 90 1 88 89,LA 91 90,XA 92 4 84 91,FA 93 1 92,
 (LA 94 93),WA 1 20 94]) (q (r 0 [MA 95 19,UA 96 (.fn 100 [(t 4),(t 20)]),UA 97 (.call 82 [(t 95),(t 96)]),MA 22 97]) (q (r 0 [MA 98 22,UA 99 (b .geq g (t 98) (k (i j 0)))])
 (c (t 99) (q (.tail 4 0 [LA 100 12,MA 101 19,MA 102 22,UA 103 (.slice 1 (t 101) (s (t 102)) o o),UA 104 (.call 101 [(t 100),(t 103)])]) (.exit 3)) .skip))))))) (q (r 0 [
 (LA 105 20)]) (r 1 [UA 20 (.alloc 0 (i j 0)),WA 1 20 105])))
def c76l1 : LCode :=
 q (q (r 0 [MA 61 18,UA 62 (b .gtr g (t 61) (k (i j 0)))]) (c (t 62) .skip (.exit 2))) (z 3 (q (r 0 [UA 19 (m (k (.slice o 0 0)))]) (q (q (r 1 [MA 63 1,UA 20 (.alloc 0 (i j 0)),
 (WA 1 20 63)]) (z 4 (.loop c76l2))) (q (.tree 4 (v 0 [3,7,8,9,10,11] (MA 106 16) (v 1 [2,3,7,8,9,10,11] (MA 107 19) (v 4 [9,10,11] (MA 110 17) (v 5 [7,8,9,10,11] (LA 111 12)
 (v 6 [7,8,9,10,11] (MA 112 19) (h 2 (UA 108 (.eff (.litv 1 1 [.slice o 0 0] [0]) 0 [(t 107)])) d (h 3 (UA 109 (.eff (.appv 1 24) 1 [(t 106),(t 108)])) d (h 7 (UA 113 (.call 101 [(t 111),(t 112)])) g
 (h 8 (UA 114 (.lits 2 1 1 [i j 0] [(0,(t 113))])) g (h 9 (UA 115 (.append 3 1 8 (t 110) (t 114))) g (v 10 [11] (MA 16 109) (v 11 [] (MA 17 115) .done)) .none) .none) .none) .none) .none)))))))
 (r 0 [MA 116 18,MA 117 17,MA 118 17,UA 119 (n (t 118)),UA 120 (b .sub d (t 119) (k (i j 1))),XA 121 1 117 120,LA 122 121,UA 123 (b .sub d (t 116) (t 122)),
 (MA 18 123)])))))
def c76 : LCode :=
 (q (r 1 [UA 4 (u 0 (t 0)),UA 8 (m (k (.slice o 0 0))),UA 9 (m (k (.slice o 0 0))),CA 10 0]) (q (q (r 0 [SA 23 2 4,MA 24 1,MA 25 2,MA 26 3,
 (UA 27 (.call 40 [(t 23),(t 24),(t 25),(t 26)])),MA 11 27]) (q (r 0 [MA 28 11,UA 29 (b .neq g (t 28) (k (i j 0)))]) (c (t 29) (q (r 0 [MA 30 11,UA 8 (m (k (.slice o 0 0))),
 (UA 9 (m (k (.slice o 0 0)))),MA 10 30]) .ret) .skip))) (q (r 1 [MA 31 3,UA 32 (.call 98 [(t 31)]),UA 12 (.alloc 0 (.slice o 0 0)),WA 1 12 32]) (q (r 1 [FA 33 0 4,
 (LA 34 33),UA 35 (.mkv 0 1 24 [.slice o 0 0] (t 34) (t 34)),MA 13 35]) (q (q (r 0 [FA 36 1 4,LA 37 36,UA 38 (n (t 37)),CA 39 0]) (z 0 (.loop c76l0)))
 (q (r 0 [UA 16 (m (k (.slice o 0 0)))]) (q (r 0 [UA 17 (m (k (.slice o 0 0)))]) (q (r 0 [SA 57 2 4,MA 58 1,MA 59 3,UA 60 (.call 37 [(t 57),(t 58),(t 59)]),MA 18 60])
 (q .skip (q (z 2 (.loop c76l1)) (q (r 0 [MA 124 16,MA 125 17,MA 8 124,MA 9 125,CA 10 0]) .ret))))))))))) 
def c77 : LCode :=
 (q (r 0 [UA 3 (m (k (y g)))]) (q (r 0 [MA 4 0,FA 5 0 1,LA 6 5,UA 7 (n (t 6)),UA 8 (b .geq g (t 4) (t 7)),MA 3 8]) .ret)) 
def c82l0 : LCode :=
 q (r 0 [UA 9 (b .lss g (t 8) (t 7))]) (q (c (t 9) .skip (.exit 0)) (q (z 1 (q (r 0 [MA 10 8,MA 5 10]) (q (r 0 [MA 11 1,MA 12 0,MA 13 5,XA 14 1 12 13,
 (LA 15 14),UA 16 (.callv (t 11) [(t 15)])]) (c (t 16) (q (r 0 [MA 17 5,MA 4 17]) .ret) .skip)))) (r 0 [UA 18 (b .add d (t 8) (k (i j 1))),MA 8 18])))
def c82 : LCode :=
 (q (r 0 [CA 4 0]) (q (q (r 0 [MA 6 0,UA 7 (n (t 6)),CA 8 0]) (z 0 (.loop c82l0))) (q (r 0 [UA 4 (m (k (.int .i64 (-1))))]) .ret))) 
def c87 : LCode :=
 (q (r 0 [UA 4 (m (k (.slice o 0 0)))]) (q (q (r 0 [MA 9 1,UA 10 (b .lss g (t 9) (k (i j 0)))]) (c (t 10) (r 0 [UA 11 (.bad),⟨o,.bad,o⟩]) .skip)) (q (r 0 [MA 13 0,UA 14 (n (t 13)),
 (UA 15 (.conv g .u64 (t 14))),MA 16 1,UA 17 (.conv g .u64 (t 16)),UA 18 (.call 106 [(t 15),(t 17)]),MA 12 18,UA 19 (.ext (t 12) 0),UA 20 (.ext (t 12) 1),MA 5 19,MA 6 20])
 (q (q (r 0 [MA 21 5,UA 22 (b .gtr g (t 21) (k (.int .u64 0))),MA 23 22,GA 24 (m (t 6)) 23 g,GA 25 (b .gtr g (t 24) (k (.int .u64 9223372036854775807))) 23 g,UA 26 (p (t 23) (k (y d)) (t 25))])
 (c (t 26) (r 0 [UA 27 (.bad),⟨o,.bad,o⟩]) .skip)) (q (r 1 [MA 28 6,UA 29 (.conv g .i64 (t 28)),UA 30 (.mk 0 1 8 [i j 0] (t 29) (t 29)),MA 7 30]) (q (r 0 [MA 31 7,
 (MA 32 0),UA 33 (.copy 1 (t 31) (t 32)),MA 8 33]) (q (z 0 (.loop (q (q (r 0 [MA 34 8,MA 35 7,UA 36 (n (t 35)),UA 37 (b .lss g (t 34) (t 36))]) (c (t 37) .skip
 (.exit 0))) (z 1 (.tree 0 (v 0 [8,9] (MA 38 8) (v 1 [3,7,8,9] (MA 39 7) (v 2 [3,7,8,9] (MA 40 8) (v 3 [7,8,9] (UA 41 (.slice 1 (t 39) (s (t 40)) o o)) (v 4 [6,7,8,9] (MA 42 7)
 (v 5 [6,7,8,9] (MA 43 8) (v 6 [7,8,9] (UA 44 (.slice 1 (t 42) o (s (t 43)) o)) (h 7 (UA 45 (.copy 1 (t 41) (t 44))) g (v 8 [9] (UA 46 (b .add d (t 38) (t 45))) (v 9 [] (MA 8 46) .done)) .none)))))))))))))
 (q (r 0 [MA 47 7,MA 4 47]) .ret)))))))) 
def c88l0 : LCode :=
 q (q (.qui 0 [MA 33 6,UA 34 (b .gtr g (t 33) (k (i j 0))),MA 35 34,GA 36 (m (t 0)) 35 d,GA 37 (.nilc (t 36)) 35 d,GA 38 (f 0 (t 37)) 35 d,GA 39 (l o (t 38)) 35 d,
 (GA 40 (m (t 6)) 35 d),GA 41 (x 1 (t 39) (t 40)) 35 d,GA 42 (l o (t 41)) 35 d,GA 43 (m (t 0)) 35 d,GA 44 (.nilc (t 43)) 35 d,GA 45 (f 0 (t 44)) 35 d,GA 46 (l o (t 45)) 35 d,
 (GA 47 (m (t 6)) 35 d),GA 48 (b .sub d (t 47) (k (i j 1))) 35 d,GA 49 (b .quo d (t 48) (k (i j 2))) 35 d,GA 50 (x 1 (t 46) (t 49)) 35 d,GA 51 (l o (t 50)) 35 d,GA 52 (b .lss g (t 42) (t 51)) 35 d,
 (UA 53 (p (t 35) (t 52) (k (y g))))]) (c (t 53) .skip (.exit 0))) (q (z 1 (r 0 [MA 57 0,MA 58 6,MA 59 6,UA 60 (b .sub d (t 59) (k (i j 1))),UA 61 (b .quo d (t 60) (k (i j 2))),
 (UA 62 (.call 107 [(t 57),(t 58),(t 61)]))])) (r 0 [MA 54 6,UA 55 (b .sub d (t 54) (k (i j 1))),UA 56 (b .quo d (t 55) (k (i j 2))),MA 6 56]))
def c88 : LCode :=
 (q (.tree 4 (v 0 [16,17,18,19,20,21] (MA 7 0) (v 1 [19,20,21] (MA 8 0) (v 2 [3,4,5,8,15,16,17,18,19,20,21] (MA 9 0) (v 3 [4,5,8,15,16,17,18,19,20,21] (UA 10 (.nilc (t 9))) (v 4 [5,8,15,16,17,18,19,20,21] (FA 11 0 10)
 (v 5 [8,15,16,17,18,19,20,21] (LA 12 11) (v 6 [7,8,15,16,17,18,19,20,21] (MA 13 1) (v 9 [10,11,12,15,16,17,18,19,20,21] (MA 16 0) (v 10 [11,12,15,16,17,18,19,20,21] (UA 17 (.nilc (t 16)))
 (v 11 [12,15,16,17,18,19,20,21] (FA 18 1 17) (v 12 [15,16,17,18,19,20,21] (LA 19 18) (v 13 [14,15,16,17,18,19,20,21] (MA 20 2) (h 7 (UA 14 (.lits 0 1 1 [i j 0] [(0,(t 13))])) d (h 8 (UA 15 (.append 1 1 8 (t 12) (t 14))) d
 (h 14 (UA 21 (.lits 2 1 1 [i j 0] [(0,(t 20))])) d (h 15 (UA 22 (.append 3 1 8 (t 19) (t 21))) g (v 16 [17,18,19,20,21] (UA 23 (.nilc (t 7))) (v 17 [18,19,20,21] (FA 24 0 23) (h 18 (WA 1 24 15) g
 (v 19 [20,21] (UA 25 (.nilc (t 8))) (v 20 [21] (FA 26 1 25) (h 21 (WA 1 26 22) g .done .none))) .none))) .none) .none) (h 14 (UA 21 (.lits 2 1 1 [i j 0] [(0,(t 20))])) d (h 8 (UA 15 (.append 1 1 8 (t 12) (t 14))) d
 (h 15 (UA 22 (.append 3 1 8 (t 19) (t 21))) g (v 16 [17,18,19,20,21] (UA 23 (.nilc (t 7))) (v 17 [18,19,20,21] (FA 24 0 23) (h 18 (WA 1 24 15) g (v 19 [20,21] (UA 25 (.nilc (t 8))) (v 20 [21] (FA 26 1 25)
 (h 21 (WA 1 26 22) g .done .none))) .none))) .none) .none) .none)) (h 14 (UA 21 (.lits 2 1 1 [i j 0] [(0,(t 20))])) d (h 7 (UA 14 (.lits 0 1 1 [i j 0] [(0,(t 13))])) d (h 8 (UA 15 (.append 1 1 8 (t 12) (t 14))) d
 (h 15 (UA 22 (.append 3 1 8 (t 19) (t 21))) g (v 16 [17,18,19,20,21] (UA 23 (.nilc (t 7))) (v 17 [18,19,20,21] (FA 24 0 23) (h 18 (WA 1 24 15) g (v 19 [20,21] (UA 25 (.nilc (t 8))) (v 20 [21] (FA 26 1 25)
 (h 21 (WA 1 26 22) g .done .none))) .none))) .none) .none) .none) .none))))))))))))))) (q (r 0 [MA 27 0,UA 28 (.nilc (t 27)),FA 29 0 28,LA 30 29,UA 31 (n (t 30)),
 (UA 32 (b .sub d (t 31) (k (i j 1)))),MA 6 32]) (z 0 (.loop c88l0)))) 
def c89l1 : LCode :=
 q (r 0 [UA 60 (b .lss g (t 59) (t 58))]) (q (c (t 60) .skip (.exit 2)) (q (z 3 (q (r 0 [XA 61 1 57 59,LA 62 61,MA 10 62]) (q (.qui 0 [MA 63 10,MA 64 6,
 (UA 65 (b .lss g (t 63) (t 64))),MA 66 65,GA 67 (m (t 0)) 66 d,GA 68 (.nilc (t 67)) 66 d,GA 69 (f 0 (t 68)) 66 d,GA 70 (l o (t 69)) 66 d,GA 71 (m (t 10)) 66 d,GA 72 (x 1 (t 70) (t 71)) 66 d,
 (GA 73 (l o (t 72)) 66 d),GA 74 (m (t 0)) 66 d,GA 75 (.nilc (t 74)) 66 d,GA 76 (f 0 (t 75)) 66 d,GA 77 (l o (t 76)) 66 d,GA 78 (m (t 8)) 66 d,GA 79 (x 1 (t 77) (t 78)) 66 d,
 (GA 80 (l o (t 79)) 66 d),GA 81 (b .lss g (t 73) (t 80)) 66 d,UA 82 (p (t 66) (t 81) (k (y g)))]) (c (t 82) (r 0 [MA 83 10,MA 8 83]) .skip)))) (r 0 [UA 84 (b .add d (t 59) (k (i j 1))),
 (MA 59 84)])))
def c89l0 : LCode :=
 z 1 (q (r 0 [MA 50 7,MA 8 50]) (q (q (r 1 [MA 51 7,UA 52 (b .mul d (k (i j 2)) (t 51)),UA 53 (b .add d (t 52) (k (i j 1))),MA 54 7,UA 55 (b .mul d (k (i j 2)) (t 54)),
 (UA 56 (b .add d (t 55) (k (i j 2)))),UA 57 (.lits 0 1 2 [i j 0] [(0,(t 53)),(1,(t 56))]),UA 58 (n (t 57)),CA 59 0]) (z 2 (.loop c89l1))) (q (q (r 0 [MA 85 8,MA 86 7,
 (UA 87 (b .eql g (t 85) (t 86)))]) (c (t 87) (q (r 0 [MA 88 4,MA 89 5,MA 2 88,MA 3 89]) .ret) .skip)) (q (r 0 [MA 90 0,MA 91 7,MA 92 8,
 (UA 93 (.call 107 [(t 90),(t 91),(t 92)]))]) (r 0 [MA 94 8,MA 7 94])))))
def c89 : LCode :=
 (q (r 0 [CA 2 0,CA 3 0]) (q (.qui 0 [MA 11 0,UA 12 (.nilc (t 11)),FA 13 0 12,LA 14 13,UA 15 (x 1 (t 14) (k (i j 0))),LA 16 15,
 (MA 17 0),UA 18 (.nilc (t 17)),FA 19 1 18,LA 20 19,UA 21 (x 1 (t 20) (k (i j 0))),LA 22 21,MA 4 16,MA 5 22]) (q (r 0 [MA 23 0,
 (UA 24 (.nilc (t 23))),FA 25 0 24,LA 26 25,UA 27 (n (t 26)),UA 28 (b .sub d (t 27) (k (i j 1))),MA 6 28]) (q (r 0 [MA 29 0,MA 30 6,UA 31 (.call 107 [(t 29),(k (i j 0)),(t 30)])])
 (q (.tree 0 (v 0 [14,15,16,17,18,19] (MA 32 0) (v 1 [17,18,19] (MA 33 0) (v 2 [3,4,5,7,14,15,16,17,18,19] (MA 34 0) (v 3 [4,5,7,14,15,16,17,18,19] (UA 35 (.nilc (t 34))) (v 4 [5,7,14,15,16,17,18,19] (FA 36 0 35)
 (v 5 [7,14,15,16,17,18,19] (LA 37 36) (v 6 [7,14,15,16,17,18,19] (MA 38 6) (v 7 [14,15,16,17,18,19] (UA 39 (.slice 1 (t 37) o (s (t 38)) o)) (v 8 [9,10,11,13,14,15,16,17,18,19] (MA 40 0)
 (v 9 [10,11,13,14,15,16,17,18,19] (UA 41 (.nilc (t 40))) (v 10 [11,13,14,15,16,17,18,19] (FA 42 1 41) (v 11 [13,14,15,16,17,18,19] (LA 43 42) (v 12 [13,17,18,19] (MA 44 6) (v 13 [17,18,19] (UA 45 (.slice 1 (t 43) o (s (t 44)) o))
 (v 14 [15,16,17,18,19] (UA 46 (.nilc (t 32))) (v 15 [16,17,18,19] (FA 47 0 46) (h 16 (WA 1 47 39) g (v 17 [18,19] (UA 48 (.nilc (t 33))) (v 18 [19] (FA 49 1 48) (h 19 (WA 1 49 45) g
 .done .none))) .none)))))))))))))))))) (q (r 0 [CA 7 0]) (z 0 (.loop c89l0)))))))) 
def c90 : LCode :=
 (q (r 2 [UA 2 (u 0 (t 0)),UA 3 (u 1 (t 1)),UA 4 (m (k (.nilFunc)))]) (q (r 0 [UA 5 (.fn 108 [(t 2),(t 3)]),MA 4 5]) .ret)) 
def c91 : LCode :=
 (q (r 1 [UA 5 (u 0 (t 2)),CA 6 0]) (q (.qui 0 [FA 7 3 5,LA 8 7,MA 9 0,UA 10 (.nilc (t 9)),FA 11 4 10,LA 12 11,MA 13 1,
 (XA 14 1 12 13),LA 15 14,UA 16 (b .add d (t 8) (t 15)),MA 17 0,UA 18 (.nilc (t 17)),FA 19 4 18,LA 20 19,FA 21 1 5,LA 22 21,
 (XA 23 1 20 22),LA 24 23,UA 25 (b .sub d (t 16) (t 24)),MA 6 25]) .ret)) 
def c92 : LCode :=
 (q (r 0 [CA 2 0]) (q (r 0 [CA 3 0]) (q (q (r 0 [MA 6 0,UA 7 (.nilc (t 6)),FA 8 0 7,FA 9 1 8,LA 10 9,UA 11 (n (t 10)),CA 12 0])
 (z 0 (.loop (q (r 0 [UA 13 (b .lss g (t 12) (t 11))]) (q (c (t 13) .skip (.exit 0)) (q (z 1 (q (r 1 [MA 14 12,XA 15 4 10 12,SA 16 4 15,UA 5 (.alloc 0 (.agg #[i j 0,i j 0,i j 0,i j 0])),
 (MA 4 14),WA 4 5 16]) (.qui 0 [MA 17 3,FA 18 3 5,LA 19 18,MA 20 0,UA 21 (.nilc (t 20)),FA 22 2 21,LA 23 22,MA 24 4,
 (XA 25 1 23 24),LA 26 25,UA 27 (b .mul d (t 19) (t 26)),UA 28 (b .add d (t 17) (t 27)),MA 3 28]))) (r 0 [UA 29 (b .add d (t 12) (k (i j 1))),MA 12 29])))))))
 (q (r 0 [MA 30 3,MA 2 30]) .ret)))) 
def c93a0 : LCode :=
 r 1 [UA 10 (.alloc 0 (.agg #[i j 0,i j 0,i j 0,i j 0,.bool g])),WA 5 10 26]
def c93r0 : LCode :=
 z 1 (q (q (r 0 [LA 27 9,LA 28 7,UA 29 (b .eql g (t 27) (t 28))]) (c (t 29) (.exit 0) .skip)) (q (q (r 0 [LA 30 3,FA 31 1 10,LA 32 31,XA 33 1 30 32,
 (LA 34 33),MA 35 34,GA 36 (l o (t 4)) 35 g,GA 37 (l o (t 6)) 35 g,GA 38 (l (s 5) (t 10)) 35 g,GA 39 (.call 91 [(t 36),(t 37),(t 38)]) 35 g,GA 40 (b .neq g (t 39) (k (i j 0))) 35 g,
 (UA 41 (p (t 35) (k (y d)) (t 40)))]) (c (t 41) (.exit 1) .skip)) (q (r 0 [LA 42 5,FA 43 1 10,LA 44 43,FA 45 2 10,LA 46 45,LA 47 7,LA 48 9,
 (UA 49 (b .sub d (t 47) (t 48))),UA 50 (.minmax g (t 46) (t 49)),UA 51 (.callv (t 42) [(t 44),(t 50)]),MA 11 51]) (q (q (r 0 [FA 52 4 10,LA 53 52]) (c (t 53) (r 0 [
 (MA 54 11),UA 55 (.neg (t 54)),MA 11 55]) .skip)) (q (.tree 0 (v 0 [1,2,3,6,7,9,10,11] (LA 56 4) (v 1 [2,3,6,7,9,10,11] (UA 57 (.nilc (t 56))) (v 2 [3,6,7,9,10,11] (FA 58 2 57)
 (v 3 [6,7,9,10,11] (LA 59 58) (v 4 [5,6,7,9,10,11] (FA 60 0 10) (v 5 [6,7,9,10,11] (LA 61 60) (v 6 [7,9,10,11] (XA 62 1 59 61) (v 7 [9,10,11] (LA 63 62) (v 8 [9,10,11] (MA 64 11)
 (v 9 [10,11] (UA 65 (b .add d (t 63) (t 64))) (v 10 [11] (XA 66 1 59 61) (h 11 (WA 1 66 65) g .done .none))))))))))))) (r 0 [LA 67 9,MA 68 11,MA 69 11,
 (UA 70 (.neg (t 69))),UA 71 (.minmax d (t 68) (t 70)),UA 72 (b .add d (t 67) (t 71)),WA 1 9 72]))))))
def c93 : LCode :=
 (q (r 2 [UA 6 (u 0 (t 0)),UA 7 (u 1 (t 1)),CA 8 0]) (q (q (r 0 [LA 12 6,LA 13 2,UA 14 (b .eql g (t 12) (t 13)),MA 15 14,GA 16 (l o (t 7)) 15 g,
 (GA 17 (b .eql g (t 16) (k (i j 0))) 15 g),UA 18 (p (t 15) (k (y d)) (t 17))]) (c (t 18) (q (r 0 [LA 19 7,MA 8 19]) .ret) .skip)) (q (r 0 [LA 20 3,LA 21 6,
 (XA 22 1 20 21),⟨o,w 1 (t 22) (k (y d)),o⟩]) (q (r 1 [UA 9 (.alloc 0 (i j 0)),⟨o,w 1 (t 9) (k (i j 0)),o⟩]) (q (q (r 0 [LA 23 4,LA 24 6,UA 25 (.call 90 [(t 23),(t 24)])])
 (z 0 (.rfn (t 25) [26] c93a0 c93r0))) (q (r 0 [LA 73 3,LA 74 6,LA 75 9,LA 76 7,UA 77 (b .lss g (t 75) (t 76)),XA 78 1 73 74,WA 1 78 77])
 (q (r 0 [LA 79 9,MA 8 79]) .ret))))))) 
def c94 : LCode :=
 (q (r 0 [UA 4 (m (k (y g)))]) (q (r 0 [MA 5 0,MA 6 1,UA 7 (.call 82 [(t 5),(t 6)]),UA 8 (b .geq g (t 7) (k (i j 0))),MA 4 8]) .ret)) 
def c95 : LCode :=
 (q (r 0 [UA 2 (m (k (y g)))]) (q (r 0 [MA 3 0,UA 4 (b .lss g (t 3) (k (i j 0))),MA 5 4,GA 6 (m (t 0)) 5 g,GA 7 (b .gtr g (t 6) (k (i j 1073741824))) 5 g,UA 8 (p (t 5) (k (y d)) (t 7)),
 (MA 2 8)]) .ret)) 
def c96 : LCode :=
 (q (r 1 [UA 2 (u 0 (t 0)),UA 4 (m (k (y g)))]) (q (r 0 [MA 5 1,UA 6 (b .geq g (t 5) (k (i j 0))),MA 7 6,GA 8 (m (t 1)) 7 d,GA 9 (f 0 (t 2)) 7 d,GA 10 (l o (t 9)) 7 d,
 (GA 11 (b .lss g (t 8) (t 10)) 7 d),UA 12 (p (t 7) (t 11) (k (y g))),MA 4 12]) .ret)) 
def c97 : LCode :=
 (q (r 0 [UA 4 (m (k (y g)))]) (q (q (r 0 [CA 5 0]) (z 0 (.loop (q (q (r 0 [MA 6 5,MA 7 0,UA 8 (n (t 7)),UA 9 (b .lss g (t 6) (t 8))]) (c (t 9) .skip (.exit 0)))
 (q (z 1 (q (r 0 [MA 12 0,MA 13 5,XA 14 1 12 13,LA 15 14,MA 16 1,UA 17 (b .eql g (t 15) (t 16))]) (c (t 17) (q (r 0 [UA 4 (m (k (y d)))]) .ret)
 .skip))) (r 0 [MA 10 5,UA 11 (b .add d (t 10) (k (i j 1))),MA 5 11])))))) (q (r 0 [UA 4 (m (k (y g)))]) .ret))) 
def c98 : LCode :=
 (q (r 0 [UA 2 (m (k (.slice o 0 0)))]) (q (q (r 0 [MA 3 0,UA 4 (.eqn g (t 3) (k (.slice o 0 0)))]) (c (t 4) (q (r 0 [UA 2 (m (k (.slice o 0 0)))]) .ret) .skip)) (q (r 2 [UA 5 (.lits 0 1 0 [i j 0] []),
 (MA 6 0),UA 7 (.append 1 1 8 (t 5) (t 6)),MA 2 7]) .ret))) 
def c99 : LCode :=
 (q (r 0 [UA 3 (m (k (y g)))]) (q (r 0 [LA 4 1,MA 5 0,XA 6 1 4 5,LA 7 6,UA 8 (b .gtr g (t 7) (k (i j 0))),MA 3 8]) .ret)) 
def c100 : LCode :=
 (q (r 0 [UA 4 (m (k (y g)))]) (q (.qui 0 [FA 5 1 1,LA 6 5,MA 7 0,XA 8 4 6 7,FA 9 0 8,LA 10 9,LA 11 2,UA 12 (b .eql g (t 10) (t 11)),
 (MA 4 12)]) .ret)) 
def c101 : LCode :=
 (q (r 0 [CA 4 0]) (q (r 0 [MA 10 0,MA 11 1,UA 12 (x 1 (t 11) (k (i j 0))),LA 13 12,XA 14 1 10 13,LA 15 14,MA 5 15])
 (q (q (r 0 [MA 16 1,UA 17 (n (t 16)),CA 18 0]) (z 0 (.loop (q (r 0 [UA 19 (b .lss g (t 18) (t 17))]) (q (c (t 19) .skip (.exit 0)) (q (z 1 (q (r 0 [XA 20 1 16 18,
 (LA 21 20),MA 7 21]) (r 0 [MA 22 5,MA 23 0,MA 24 7,XA 25 1 23 24,LA 26 25,UA 27 (.minmax g (t 22) (t 26)),MA 5 27])))
 (r 0 [UA 28 (b .add d (t 18) (k (i j 1))),MA 18 28]))))))) (q (q (r 0 [MA 29 1,UA 30 (n (t 29)),CA 31 0]) (z 2 (.loop (q (r 0 [UA 32 (b .lss g (t 31) (t 30))])
 (q (c (t 32) .skip (.exit 2)) (q (z 3 (q (r 0 [XA 33 1 29 31,LA 34 33,MA 9 34]) (r 0 [MA 35 0,MA 36 9,XA 37 1 35 36,LA 38 37,
 (MA 39 5),UA 40 (b .sub d (t 38) (t 39)),XA 41 1 35 36,WA 1 41 40]))) (r 0 [UA 42 (b .add d (t 31) (k (i j 1))),MA 31 42]))))))) (q (r 0 [MA 43 5,
 (MA 4 43)]) .ret))))) 
def c106 : LCode :=
 (q (r 0 [UA 4 (m (k (.int .u64 0))),UA 5 (m (k (.int .u64 0)))]) (q (c (k (y g)) (q (r 0 [MA 11 0,UA 12 (.conv g .u32 (t 11)),MA 13 1,UA 14 (.conv g .u32 (t 13)),UA 15 (.call 109 [(t 12),(t 14)]),
 (MA 10 15),UA 16 (.ext (t 10) 0),UA 17 (.ext (t 10) 1),MA 6 16,MA 7 17]) (q (r 0 [MA 18 6,UA 19 (.conv d .u64 (t 18)),MA 20 7,UA 21 (.conv d .u64 (t 20)),
 (MA 4 19),MA 5 21]) .ret)) .skip) (q (r 0 [MA 23 0,MA 24 1,UA 25 (.call 110 [(t 23),(t 24)]),MA 22 25,UA 26 (.ext (t 22) 0),UA 27 (.ext (t 22) 1),
 (MA 8 26),MA 9 27]) (q (r 0 [MA 28 8,MA 29 9,MA 4 28,MA 5 29]) .ret)))) 
def c107 : LCode :=
 (q (.tree 0 (v 0 [1,2,3,24,25,26,27] (MA 6 0) (v 1 [2,3,24,25,26,27] (UA 7 (.nilc (t 6))) (v 2 [3,24,25,26,27] (FA 8 0 7) (v 3 [24,25,26,27] (LA 9 8) (v 4 [24,25,26,27] (MA 10 1)
 (v 5 [6,7,8,24,25,26,27] (MA 11 0) (v 6 [7,8,24,25,26,27] (UA 12 (.nilc (t 11))) (v 7 [8,24,25,26,27] (FA 13 0 12) (v 8 [24,25,26,27] (LA 14 13) (v 9 [26,27] (MA 15 2) (v 10 [11,12,13,15,16,24,25,26,27] (MA 16 0)
 (v 11 [12,13,15,16,24,25,26,27] (UA 17 (.nilc (t 16))) (v 12 [13,15,16,24,25,26,27] (FA 18 0 17) (v 13 [15,16,24,25,26,27] (LA 19 18) (v 14 [15,16,24,25,26,27] (MA 20 2) (v 15 [16,24,25,26,27] (XA 21 1 19 20)
 (v 16 [24,25,26,27] (LA 22 21) (v 17 [18,19,20,22,23,24,25,26,27] (MA 23 0) (v 18 [19,20,22,23,24,25,26,27] (UA 24 (.nilc (t 23))) (v 19 [20,22,23,24,25,26,27] (FA 25 0 24) (v 20 [22,23,24,25,26,27] (LA 26 25)
 (v 21 [22,23,24,25,26,27] (MA 27 1) (v 22 [23,24,25,26,27] (XA 28 1 26 27) (v 23 [24,25,26,27] (LA 29 28) (v 24 [25,26,27] (XA 30 1 9 10) (h 25 (WA 1 30 22) g
 (v 26 [27] (XA 31 1 14 15) (h 27 (WA 1 31 29) g .done .none)) .none))))))))))))))))))))))))))) (.tree 0 (v 0 [1,2,3,24,25,26,27] (MA 32 0) (v 1 [2,3,24,25,26,27] (UA 33 (.nilc (t 32)))
 (v 2 [3,24,25,26,27] (FA 34 1 33) (v 3 [24,25,26,27] (LA 35 34) (v 4 [24,25,26,27] (MA 36 1) (v 5 [6,7,8,24,25,26,27] (MA 37 0) (v 6 [7,8,24,25,26,27] (UA 38 (.nilc (t 37)))
 (v 7 [8,24,25,26,27] (FA 39 1 38) (v 8 [24,25,26,27] (LA 40 39) (v 9 [26,27] (MA 41 2) (v 10 [11,12,13,15,16,24,25,26,27] (MA 42 0) (v 11 [12,13,15,16,24,25,26,27] (UA 43 (.nilc (t 42)))
 (v 12 [13,15,16,24,25,26,27] (FA 44 1 43) (v 13 [15,16,24,25,26,27] (LA 45 44) (v 14 [15,16,24,25,26,27] (MA 46 2) (v 15 [16,24,25,26,27] (XA 47 1 45 46) (v 16 [24,25,26,27] (LA 48 47)
 (v 17 [18,19,20,22,23,24,25,26,27] (MA 49 0) (v 18 [19,20,22,23,24,25,26,27] (UA 50 (.nilc (t 49))) (v 19 [20,22,23,24,25,26,27] (FA 51 1 50) (v 20 [22,23,24,25,26,27] (LA 52 51)
 (v 21 [22,23,24,25,26,27] (MA 53 1) (v 22 [23,24,25,26,27] (XA 54 1 52 53) (v 23 [24,25,26,27] (LA 55 54) (v 24 [25,26,27] (XA 56 1 35 36) (h 25 (WA 1 56 48) g
 (v 26 [27] (XA 57 1 40 41) (h 27 (WA 1 57 55) g .done .none)) .none)))))))))))))))))))))))))))) 
def c108l0 : LCode :=
 q (r 0 [UA 17 (b .lss g (t 16) (t 15))]) (q (c (t 17) .skip (.exit 0)) (q (z 1 (q (r 0 [XA 18 1 14 16,LA 19 18,MA 5 19]) (q (r 1 [LA 20 1,UA 21 (.nilc (t 20)),
 (FA 22 0 21),FA 23 1 22,LA 24 23,MA 25 5,XA 26 4 24 25,SA 27 4 26,UA 6 (.alloc 0 (.agg #[i j 0,i j 0,i j 0,i j 0])),WA 4 6 27])
 (q (.tree 1 (v 0 [15,17] (MA 28 5) (v 1 [2,15,17] (FA 29 1 6) (v 2 [15,17] (LA 30 29) (v 3 [4,12,15,17] (FA 31 2 6) (v 4 [12,15,17] (LA 32 31) (v 5 [6,7,8,10,11,12,15,17] (LA 33 1)
 (v 6 [7,8,10,11,12,15,17] (UA 34 (.nilc (t 33))) (v 7 [8,10,11,12,15,17] (FA 35 2 34) (v 8 [10,11,12,15,17] (LA 36 35) (v 9 [10,11,12,15,17] (MA 37 5) (v 10 [11,12,15,17] (XA 38 1 36 37)
 (v 11 [12,15,17] (LA 39 38) (v 12 [15,17] (UA 40 (b .sub d (t 32) (t 39))) (v 13 [14,15,17] (FA 41 3 6) (v 14 [15,17] (LA 42 41) (v 15 [17] (UA 43 (.build [i j 0,i j 0,i j 0,i j 0,.bool g] [(0,1,(t 28)),(1,1,(t 30)),(2,1,(t 40)),(3,1,(t 42))]))
 (h 16 (UA 7 (.alloc 0 (.agg #[i j 0,i j 0,i j 0,i j 0,.bool g]))) d (h 17 (WA 5 7 43) g .done .none) .none)))))))))))))))))) (q (q (r 0 [FA 44 0 6,LA 45 44,LA 46 2,
 (UA 47 (b .neq g (t 45) (t 46)))]) (c (t 47) (.tail 14 0 [MA 48 5,FA 49 0 6,LA 50 49,LA 51 1,UA 52 (.nilc (t 51)),FA 53 2 52,LA 54 53,
 (MA 55 5),XA 56 1 54 55,LA 57 56,FA 58 3 6,LA 59 58,UA 60 (.neg (t 59)),UA 61 (.build [i j 0,i j 0,i j 0,i j 0,.bool g] [(0,1,(t 48)),(1,1,(t 50)),(2,1,(t 57)),(3,1,(t 60)),(4,1,(k (y d)))]),
 (WA 5 7 61)]) .skip)) (q (.yreg 0 0 [FA 62 2 7,LA 63 62,UA 64 (b .gtr g (t 63) (k (i j 0))),MA 65 64,GA 66 (m (t 0)) 65 d,GA 67 (l (s 5) (t 7)) 65 d,
 (GA 68 (.yld (t 66) [(t 67)]) 65 d),GA 69 (.not (t 68)) 65 d,UA 70 (p (t 65) (t 69) (k (y g)))]) (c (t 70) .ret .skip))))))) (r 0 [UA 71 (b .add d (t 16) (k (i j 1))),MA 16 71])))
def c108 : LCode :=
 (q (.qui 0 [LA 8 1,UA 9 (.nilc (t 8)),FA 10 3 9,LA 11 10,LA 12 2,XA 13 1 11 12,LA 14 13,UA 15 (n (t 14)),CA 16 0])
 (z 0 (.loop c108l0))) 
def c109 : LCode :=
 (q (r 0 [UA 4 (m (k (.int .u32 0))),UA 5 (m (k (.int .u32 0)))]) (q (r 0 [MA 7 0,UA 8 (.conv d .u64 (t 7)),MA 9 1,UA 10 (.conv d .u64 (t 9)),UA 11 (b .mul d (t 8) (t 10)),
 (MA 6 11)]) (q (r 0 [MA 12 6,UA 13 (.shift .shr (t 12) (k (.int .u64 32))),UA 14 (.conv g .u32 (t 13)),MA 15 6,UA 16 (.conv g .u32 (t 15)),MA 4 14,MA 5 16])
 .ret))) 
def c110 : LCode :=
 (q (r 0 [UA 4 (m (k (.int .u64 0))),UA 5 (m (k (.int .u64 0)))]) (q (r 0 [MA 14 0,UA 15 (b .and g (t 14) (k (.int .u64 4294967295))),MA 6 15]) (q (r 0 [MA 16 0,UA 17 (.shift .shr (t 16) (k (.int .u64 32))),
 (MA 7 17)]) (q (r 0 [MA 18 1,UA 19 (b .and g (t 18) (k (.int .u64 4294967295))),MA 8 19]) (q (r 0 [MA 20 1,UA 21 (.shift .shr (t 20) (k (.int .u64 32))),MA 9 21])
 (q (r 0 [MA 22 6,MA 23 8,UA 24 (b .mul d (t 22) (t 23)),MA 10 24]) (q (r 0 [MA 25 7,MA 26 8,UA 27 (b .mul d (t 25) (t 26)),MA 28 10,UA 29 (.shift .shr (t 28) (k (.int .u64 32))),
 (UA 30 (b .add d (t 27) (t 29))),MA 11 30]) (q (r 0 [MA 31 11,UA 32 (b .and g (t 31) (k (.int .u64 4294967295))),MA 12 32]) (q (r 0 [MA 33 11,UA 34 (.shift .shr (t 33) (k (.int .u64 32))),
 (MA 13 34)]) (q (r 0 [MA 35 12,MA 36 6,MA 37 9,UA 38 (b .mul d (t 36) (t 37)),UA 39 (b .add d (t 35) (t 38)),MA 12 39]) (q (r 0 [MA 40 7,MA 41 9,
 (UA 42 (b .mul d (t 40) (t 41))),MA 43 13,UA 44 (b .add d (t 42) (t 43)),MA 45 12,UA 46 (.shift .shr (t 45) (k (.int .u64 32))),UA 47 (b .add d (t 44) (t 46)),MA 4 47])
 (q (r 0 [MA 48 0,MA 49 1,UA 50 (b .mul d (t 48) (t 49)),MA 5 50]) .ret)))))))))))) 
def tbl : List (Option Ent) := [
  none,  none,  none,  none,  none,  none,  none,  none,  none,
  none,  some ⟨c10, [.tmp 0], 112, none⟩,  some ⟨c11, [.tmp 2], 102, none⟩,  none,  some ⟨c13, [.cell 2 (some 5), .tmp 3], 18, none⟩,  none,
  some ⟨c15, [.cell 2 (some 2)], 114, none⟩,  none,  some ⟨c17, [.tmp 2], 23, none⟩,  none,  none,  some ⟨c20, [.tmp 4], 17, none⟩,
  none,  some ⟨c22, [.tmp 6], 21, none⟩,  none,  some ⟨c24, [.cell 8 none, .cell 9 none], 47, none⟩,  none,  some ⟨c26, [.tmp 4], 26, none⟩,
  some ⟨c27, [.tmp 4], 9, none⟩,  none,  some ⟨c29, [.tmp 4], 26, none⟩,  some ⟨c30, [.tmp 4], 96, none⟩,  none,  none,  some ⟨c33, [.tmp 4], 35, none⟩,
  none,  none,  none,  some ⟨c37, [.tmp 6], 13, none⟩,  none,  none,
  some ⟨c40, [.tmp 8], 77, none⟩,  some ⟨c41, [.tmp 2], 66, none⟩,  some ⟨c42, [.cell 0 (some 2)], 12, none⟩,  some ⟨c43, [.tmp 2], 34, none⟩,  none,  none,
  some ⟨c46, [.cell 8 (some 5), .tmp 9], 97, none⟩,  some ⟨c47, [.tmp 4], 26, none⟩,  some ⟨c48, [.tmp 10], 60, none⟩,  none,  some ⟨c50, [.tmp 6], 8, none⟩,  none,
  none,  some ⟨c53, [.tmp 4], 42, none⟩,  some ⟨c54, [.tmp 4], 17, none⟩,  none,  some ⟨c56, [.tmp 4], 19, none⟩,  some ⟨c57, [.tmp 3], 16, none⟩,  some ⟨c58, [.tmp 6], 24, none⟩,
  none,  some ⟨c60, [.tmp 4], 43, none⟩,  some ⟨c61, [.tmp 3], 12, none⟩,  some ⟨c62, [.tmp 8], 40, none⟩,  some ⟨c63, [.tmp 4], 64, none⟩,  some ⟨c64, [.tmp 4], 71, none⟩,
  some ⟨c65, [.cell 6 (some 5)], 39, none⟩,  some ⟨c66, [.tmp 8], 22, none⟩,  some ⟨c67, [.tmp 8], 105, none⟩,  some ⟨c68, [.tmp 6], 78, none⟩,  some ⟨c69, [.tmp 8], 117, none⟩,  none,
  none,  none,  none,  none,  some ⟨c75, [], 51, none⟩,  some ⟨c76, [.tmp 8, .tmp 9, .tmp 10], 126, none⟩,
  some ⟨c77, [.tmp 3], 9, none⟩,  none,  none,  none,  none,  some ⟨c82, [.tmp 4], 19, none⟩,  none,
  none,  none,  none,  some ⟨c87, [.tmp 4], 48, none⟩,  some ⟨c88, [], 63, some 1⟩,  some ⟨c89, [.tmp 2, .tmp 3], 95, none⟩,  some ⟨c90, [.tmp 4], 6, none⟩,
  some ⟨c91, [.tmp 6], 26, none⟩,  some ⟨c92, [.tmp 2], 31, none⟩,  some ⟨c93, [.tmp 8], 80, none⟩,  some ⟨c94, [.tmp 4], 9, none⟩,  some ⟨c95, [.tmp 2], 9, none⟩,  none,  none,
  some ⟨c98, [.tmp 2], 8, none⟩,  some ⟨c99, [.tmp 3], 9, none⟩,  some ⟨c100, [.tmp 4], 13, none⟩,  some ⟨c101, [.tmp 4], 44, none⟩,  none,  none,
  none,  none,  some ⟨c106, [.tmp 4, .tmp 5], 30, none⟩,  some ⟨c107, [], 58, none⟩,  some ⟨c108, [], 72, none⟩,  some ⟨c109, [.tmp 4, .tmp 5], 17, none⟩,
  some ⟨c110, [.tmp 4, .tmp 5], 51, none⟩]
end Go.Fx.P
