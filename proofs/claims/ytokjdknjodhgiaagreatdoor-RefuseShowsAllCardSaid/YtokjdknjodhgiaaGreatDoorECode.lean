import Derived.Test.YtokjdknjodhgiaaGreatDoorFxRX
import Derived.Test.YtokjdknjodhgiaaGreatDoorProg
set_option linter.unusedVariables false
set_option linter.unusedSimpArgs false
set_option linter.unusedSectionVars false
open Array renaming replicate → yaa
namespace Go.Fx.E
open Go Go.Fx
abbrev MA (n x:Nat):bM:=⟨some n,.mov (.tmp x),none⟩
abbrev LA (n x:Nat):bM:=⟨some n,.load none (.tmp x),none⟩
abbrev FA (n k x:Nat):bM:=⟨some n,.fld k (.tmp x),none⟩
abbrev SA (n k x:Nat):bM:=⟨some n,.load (some k) (.tmp x),none⟩
abbrev XA (n k x y:Nat):bM:=⟨some n,.idx k (.tmp x) (.tmp y),none⟩
abbrev CA (n:Nat) (x:Int):bM:=⟨some n,.mov (.const (.int .i64 x)),none⟩
abbrev WA (k x y:Nat):bM:=⟨none,.store k (.tmp x) (.tmp y),none⟩
abbrev UA (n:Nat) (x:LOp):bM:=⟨some n,x,none⟩
abbrev GA (n:Nat) (x:LOp) (a:Nat) (b:Bool):bM:=⟨some n,x,some (a,b)⟩
open Go.Operand renaming tmp → t, const → k
open Go.Value renaming int → i, bool → y
open Go.IntKind renaming i64 → j
open Option renaming some → s, none → o
open Go.Fx.LOp renaming mov → m, load → l, fld → f, bin → b, idx → x, store → w, pick → p, len → n, box → u
open Go.Fx.LCode renaming seq → q, reg → r, cond → c, block → z
open Go.Fx.LPlan renaming take → v, alt → h
open Bool renaming false → g, true → d
def c9l0:LCode:=q (q (r 0 [MA 55 10,UA 56 (b .lss g (t 55) (k (i j 3)))]) (c (t 56) .skip (.exit 0))) (q (z 1 (q (.tree 1 (v 1 [5,6,7,8,10,11] (SA 61 2 1) (v 2 [5,6,7,8,10,11] (SA 62 5 3)
 (v 3 [5,6,7,8,10,11] (MA 63 10) (v 4 [5,6,7,8,10,11] (SA 64 2 2) (h 0 (UA 60 (.call 30 [(k (i j 2))])) d (h 5 (UA 65 (.call 10 [(t 60),(t 61),(t 62),(k (i j 1)),(t 63),(k (i j 9)),(t 64)])) g
 (v 6 [7,8,10,11] (MA 59 65) (v 7 [10,11] (UA 66 (.ext (t 59) 0)) (v 8 [11] (UA 67 (.ext (t 59) 1)) (h 9 (UA 11 (.alloc 0 (.agg #[i j 0,i j 0,i j 0,i j 0,.slice o 0 0,i j 0,i j 0,i j 0,.int .u8 0,.int .u8 0,.int .u8 0,.int .u8 0,.int .u8 0,.int .u8 0,.int .u8 0,.int .u8 0,.int .u8 0,.int .u8 0,.int .u8 0,.int .u8 0,.int .u8 0,.int .u8 0,.int .u8 0,.int .u8 0]))) d
 (h 10 (WA 24 11 66) g (v 11 [] (MA 12 67) .done) .none) .none)))) (h 9 (UA 11 (.alloc 0 (.agg #[i j 0,i j 0,i j 0,i j 0,.slice o 0 0,i j 0,i j 0,i j 0,.int .u8 0,.int .u8 0,.int .u8 0,.int .u8 0,.int .u8 0,.int .u8 0,.int .u8 0,.int .u8 0,.int .u8 0,.int .u8 0,.int .u8 0,.int .u8 0,.int .u8 0,.int .u8 0,.int .u8 0,.int .u8 0]))) d
 (h 5 (UA 65 (.call 10 [(t 60),(t 61),(t 62),(k (i j 1)),(t 63),(k (i j 9)),(t 64)])) g (v 6 [7,8,10,11] (MA 59 65) (v 7 [10,11] (UA 66 (.ext (t 59) 0)) (v 8 [11] (UA 67 (.ext (t 59) 1)) (h 10 (WA 24 11 66) g
 (v 11 [] (MA 12 67) .done) .none)))) .none) .none)) (h 9 (UA 11 (.alloc 0 (.agg #[i j 0,i j 0,i j 0,i j 0,.slice o 0 0,i j 0,i j 0,i j 0,.int .u8 0,.int .u8 0,.int .u8 0,.int .u8 0,.int .u8 0,.int .u8 0,.int .u8 0,.int .u8 0,.int .u8 0,.int .u8 0,.int .u8 0,.int .u8 0,.int .u8 0,.int .u8 0,.int .u8 0,.int .u8 0]))) d
 (h 0 (UA 60 (.call 30 [(k (i j 2))])) d (h 5 (UA 65 (.call 10 [(t 60),(t 61),(t 62),(k (i j 1)),(t 63),(k (i j 9)),(t 64)])) g (v 6 [7,8,10,11] (MA 59 65) (v 7 [10,11] (UA 66 (.ext (t 59) 0)) (v 8 [11] (UA 67 (.ext (t 59) 1))
 (h 10 (WA 24 11 66) g (v 11 [] (MA 12 67) .done) .none)))) .none) .none) .none))))))) (q (q (r 0 [MA 68 12,UA 69 (b .neq g (t 68) (k (i j 0)))]) (c (t 69) (q (r 0 [UA 0 (m (k (y g)))])
 .ret) .skip)) (r 2 [MA 70 9,SA 71 24 11,UA 72 (.litsf [71] 0 24 1 [i j 0,i j 0,i j 0,i j 0,.slice o 0 0,i j 0,i j 0,i j 0,.int .u8 0,.int .u8 0,.int .u8 0,.int .u8 0,.int .u8 0,.int .u8 0,.int .u8 0,.int .u8 0,.int .u8 0,.int .u8 0,.int .u8 0,.int .u8 0,.int .u8 0,.int .u8 0,.int .u8 0,.int .u8 0] [(0,(t 71))]),
 (UA 73 (.append 1 24 96 (t 70) (t 72))),MA 9 73])))) (r 0 [MA 57 10,UA 58 (b .add d (t 57) (k (i j 1))),MA 10 58]))
def c9:LCode:=(q (r 0 [UA 0 (m (k (y g)))]) (q (r 1 [UA 20 (.call 33 []),UA 1 (.alloc 0 (.agg #[.slice o 0 0,.slice o 0 0])),WA 2 1 20]) (q (r 1 [UA 21 (.build [i j 0,i j 0] [(0,1,(k (i j 5))),(1,1,(k (i j 6)))]),
 (UA 2 (.alloc 0 (.agg #[i j 0,i j 0]))),WA 2 2 21]) (q (r 1 [SA 23 2 1,UA 24 (.call 29 [(t 23)]),MA 22 24,UA 25 (.ext (t 22) 0),UA 26 (.ext (t 22) 1),UA 3 (.alloc 0 (.agg #[i j 0,i j 0,.slice o 0 0,.slice o 0 0,.slice o 0 0])),
 (WA 5 3 25),MA 4 26]) (q (.tree 1 (v 1 [4,5,6,7,9,10] (SA 29 2 1) (v 2 [4,5,6,7,9,10] (SA 30 5 3) (v 3 [4,5,6,7,9,10] (SA 31 2 2) (h 0 (UA 28 (.call 30 [(k (i j 1))])) d
 (h 4 (UA 32 (.call 10 [(t 28),(t 29),(t 30),(k (i j 0)),(k (i j 4)),(k (i j 9)),(t 31)])) g (v 5 [6,7,9,10] (MA 27 32) (v 6 [9,10] (UA 33 (.ext (t 27) 0)) (v 7 [10] (UA 34 (.ext (t 27) 1)) (h 8 (UA 5 (.alloc 0 (.agg #[i j 0,i j 0,i j 0,i j 0,.slice o 0 0,i j 0,i j 0,i j 0,.int .u8 0,.int .u8 0,.int .u8 0,.int .u8 0,.int .u8 0,.int .u8 0,.int .u8 0,.int .u8 0,.int .u8 0,.int .u8 0,.int .u8 0,.int .u8 0,.int .u8 0,.int .u8 0,.int .u8 0,.int .u8 0]))) d
 (h 9 (WA 24 5 33) g (v 10 [] (MA 6 34) .done) .none) .none)))) (h 8 (UA 5 (.alloc 0 (.agg #[i j 0,i j 0,i j 0,i j 0,.slice o 0 0,i j 0,i j 0,i j 0,.int .u8 0,.int .u8 0,.int .u8 0,.int .u8 0,.int .u8 0,.int .u8 0,.int .u8 0,.int .u8 0,.int .u8 0,.int .u8 0,.int .u8 0,.int .u8 0,.int .u8 0,.int .u8 0,.int .u8 0,.int .u8 0]))) d
 (h 4 (UA 32 (.call 10 [(t 28),(t 29),(t 30),(k (i j 0)),(k (i j 4)),(k (i j 9)),(t 31)])) g (v 5 [6,7,9,10] (MA 27 32) (v 6 [9,10] (UA 33 (.ext (t 27) 0)) (v 7 [10] (UA 34 (.ext (t 27) 1)) (h 9 (WA 24 5 33) g
 (v 10 [] (MA 6 34) .done) .none)))) .none) .none)) (h 8 (UA 5 (.alloc 0 (.agg #[i j 0,i j 0,i j 0,i j 0,.slice o 0 0,i j 0,i j 0,i j 0,.int .u8 0,.int .u8 0,.int .u8 0,.int .u8 0,.int .u8 0,.int .u8 0,.int .u8 0,.int .u8 0,.int .u8 0,.int .u8 0,.int .u8 0,.int .u8 0,.int .u8 0,.int .u8 0,.int .u8 0,.int .u8 0]))) d
 (h 0 (UA 28 (.call 30 [(k (i j 1))])) d (h 4 (UA 32 (.call 10 [(t 28),(t 29),(t 30),(k (i j 0)),(k (i j 4)),(k (i j 9)),(t 31)])) g (v 5 [6,7,9,10] (MA 27 32) (v 6 [9,10] (UA 33 (.ext (t 27) 0)) (v 7 [10] (UA 34 (.ext (t 27) 1))
 (h 9 (WA 24 5 33) g (v 10 [] (MA 6 34) .done) .none)))) .none) .none) .none)))))) (q (.tree 1 (v 1 [4,5,6,7,9,10] (SA 37 2 1) (v 2 [4,5,6,7,9,10] (SA 38 5 3) (v 3 [4,5,6,7,9,10] (SA 39 2 2)
 (h 0 (UA 36 (.call 30 [(k (i j 1))])) d (h 4 (UA 40 (.call 10 [(t 36),(t 37),(t 38),(k (i j 0)),(k (i j 3)),(k (i j 9)),(t 39)])) g (v 5 [6,7,9,10] (MA 35 40) (v 6 [9,10] (UA 41 (.ext (t 35) 0)) (v 7 [10] (UA 42 (.ext (t 35) 1))
 (h 8 (UA 7 (.alloc 0 (.agg #[i j 0,i j 0,i j 0,i j 0,.slice o 0 0,i j 0,i j 0,i j 0,.int .u8 0,.int .u8 0,.int .u8 0,.int .u8 0,.int .u8 0,.int .u8 0,.int .u8 0,.int .u8 0,.int .u8 0,.int .u8 0,.int .u8 0,.int .u8 0,.int .u8 0,.int .u8 0,.int .u8 0,.int .u8 0]))) d
 (h 9 (WA 24 7 41) g (v 10 [] (MA 8 42) .done) .none) .none)))) (h 8 (UA 7 (.alloc 0 (.agg #[i j 0,i j 0,i j 0,i j 0,.slice o 0 0,i j 0,i j 0,i j 0,.int .u8 0,.int .u8 0,.int .u8 0,.int .u8 0,.int .u8 0,.int .u8 0,.int .u8 0,.int .u8 0,.int .u8 0,.int .u8 0,.int .u8 0,.int .u8 0,.int .u8 0,.int .u8 0,.int .u8 0,.int .u8 0]))) d
 (h 4 (UA 40 (.call 10 [(t 36),(t 37),(t 38),(k (i j 0)),(k (i j 3)),(k (i j 9)),(t 39)])) g (v 5 [6,7,9,10] (MA 35 40) (v 6 [9,10] (UA 41 (.ext (t 35) 0)) (v 7 [10] (UA 42 (.ext (t 35) 1)) (h 9 (WA 24 7 41) g
 (v 10 [] (MA 8 42) .done) .none)))) .none) .none)) (h 8 (UA 7 (.alloc 0 (.agg #[i j 0,i j 0,i j 0,i j 0,.slice o 0 0,i j 0,i j 0,i j 0,.int .u8 0,.int .u8 0,.int .u8 0,.int .u8 0,.int .u8 0,.int .u8 0,.int .u8 0,.int .u8 0,.int .u8 0,.int .u8 0,.int .u8 0,.int .u8 0,.int .u8 0,.int .u8 0,.int .u8 0,.int .u8 0]))) d
 (h 0 (UA 36 (.call 30 [(k (i j 1))])) d (h 4 (UA 40 (.call 10 [(t 36),(t 37),(t 38),(k (i j 0)),(k (i j 3)),(k (i j 9)),(t 39)])) g (v 5 [6,7,9,10] (MA 35 40) (v 6 [9,10] (UA 41 (.ext (t 35) 0)) (v 7 [10] (UA 42 (.ext (t 35) 1))
 (h 9 (WA 24 7 41) g (v 10 [] (MA 8 42) .done) .none)))) .none) .none) .none)))))) (q (q (r 0 [MA 43 4,UA 44 (b .neq g (t 43) (k (i j 0))),MA 45 44,GA 46 (m (t 6)) 45 g,
 (GA 47 (b .neq g (t 46) (k (i j 0))) 45 g),UA 48 (p (t 45) (k (y d)) (t 47)),MA 49 48,GA 50 (m (t 8)) 49 g,GA 51 (b .neq g (t 50) (k (i j 4))) 49 g,UA 52 (p (t 49) (k (y d)) (t 51))])
 (c (t 52) (q (r 0 [UA 0 (m (k (y g)))]) .ret) .skip)) (q (r 1 [SA 53 24 5,UA 54 (.litsf [53] 0 24 1 [i j 0,i j 0,i j 0,i j 0,.slice o 0 0,i j 0,i j 0,i j 0,.int .u8 0,.int .u8 0,.int .u8 0,.int .u8 0,.int .u8 0,.int .u8 0,.int .u8 0,.int .u8 0,.int .u8 0,.int .u8 0,.int .u8 0,.int .u8 0,.int .u8 0,.int .u8 0,.int .u8 0,.int .u8 0] [(0,(t 53))]),
 (MA 9 54)]) (q (q (r 0 [CA 10 0]) (z 0 (.loop c9l0))) (q (r 0 [SA 75 2 1,MA 76 9,UA 77 (.call 23 [(t 75),(t 76)]),MA 74 77,UA 78 (.ext (t 74) 0),
 (UA 79 (.ext (t 74) 1)),MA 13 78,MA 14 79]) (q (r 0 [SA 81 2 1,FA 82 4 5,LA 83 82,UA 84 (.call 20 [(t 81),(t 83)]),MA 80 84,UA 85 (.ext (t 80) 0),
 (UA 86 (.ext (t 80) 1)),MA 15 85,MA 16 86]) (q (r 0 [SA 88 2 1,FA 89 4 5,LA 90 89,UA 91 (.call 18 [(t 88),(t 90)]),MA 87 91,UA 92 (.ext (t 87) 0),
 (UA 93 (.ext (t 87) 1)),MA 17 92,MA 18 93]) (q (r 1 [SA 94 24 5,UA 19 (.alloc 0 (.agg #[i j 0,i j 0,i j 0,i j 0,.slice o 0 0,i j 0,i j 0,i j 0,.int .u8 0,.int .u8 0,.int .u8 0,.int .u8 0,.int .u8 0,.int .u8 0,.int .u8 0,.int .u8 0,.int .u8 0,.int .u8 0,.int .u8 0,.int .u8 0,.int .u8 0,.int .u8 0,.int .u8 0,.int .u8 0])),
 (WA 24 19 94)]) (q (r 0 [FA 95 4 19,LA 96 95,FA 97 4 19,LA 98 97,UA 99 (n (t 98)),UA 100 (b .sub d (t 99) (k (i j 1))),UA 101 (.slice 1 (t 96) o (s (t 100)) o),
 (FA 102 4 19),WA 1 102 101]) (q (.tree 2 (v 0 [1,2,3,4,5,6,7,8,9,10,11,12,13,14,15,16,17,18,19,20,21,22,23,24,25,26,27,28,29,30,31,32,33,34,35,36,37,38] (MA 103 13) (v 1 [2,3,4,5,6,7,8,9,10,11,12,13,14,15,16,17,18,19,20,21,22,23,24,25,26,27,28,29,30,31,32,33,34,35,36,37,38] (UA 104 (b .eql g (t 103) (k (.int .i64 (-1)))))
 (v 2 [3,4,5,6,7,8,9,10,11,12,13,14,15,16,17,18,19,20,21,22,23,24,25,26,27,28,29,30,31,32,33,34,35,36,37,38] (MA 105 104) (v 3 [4,5,6,7,8,9,10,11,12,13,14,15,16,17,18,19,20,21,22,23,24,25,26,27,28,29,30,31,32,33,34,35,36,37,38] (GA 106 (m (t 14)) 105 d)
 (v 4 [5,6,7,8,9,10,11,12,13,14,15,16,17,18,19,20,21,22,23,24,25,26,27,28,29,30,31,32,33,34,35,36,37,38] (GA 107 (b .eql g (t 106) (k (i j 0))) 105 d) (v 5 [6,7,8,9,10,11,12,13,14,15,16,17,18,19,20,21,22,23,24,25,26,27,28,29,30,31,32,33,34,35,36,37,38] (UA 108 (p (t 105) (t 107) (k (y g))))
 (v 6 [7,8,9,10,11,12,13,14,15,16,17,18,19,20,21,22,23,24,25,26,27,28,29,30,31,32,33,34,35,36,37,38] (MA 109 108) (v 7 [9,10,11,12,13,14,15,16,17,18,19,20,21,22,23,24,25,26,27,28,29,30,31,32,33,34,35,36,37,38] (GA 110 (m (t 15)) 109 d)
 (h 8 (GA 111 (.lits 0 1 1 [i j 0] [(0,(k (i j 3)))]) 109 d) g (h 9 (GA 112 (.call 22 [(t 110),(t 111)]) 109 d) g (v 10 [11,12,13,14,15,16,17,18,19,20,21,22,23,24,25,26,27,28,29,30,31,32,33,34,35,36,37,38] (UA 113 (p (t 109) (t 112) (k (y g))))
 (v 11 [12,13,14,15,16,17,18,19,20,21,22,23,24,25,26,27,28,29,30,31,32,33,34,35,36,37,38] (MA 114 113) (v 12 [13,14,15,16,17,18,19,20,21,22,23,24,25,26,27,28,29,30,31,32,33,34,35,36,37,38] (GA 115 (m (t 16)) 114 d)
 (v 13 [14,15,16,17,18,19,20,21,22,23,24,25,26,27,28,29,30,31,32,33,34,35,36,37,38] (GA 116 (n (t 115)) 114 d) (v 14 [15,16,17,18,19,20,21,22,23,24,25,26,27,28,29,30,31,32,33,34,35,36,37,38] (GA 117 (b .eql g (t 116) (k (i j 0))) 114 d)
 (v 15 [16,17,18,19,20,21,22,23,24,25,26,27,28,29,30,31,32,33,34,35,36,37,38] (UA 118 (p (t 114) (t 117) (k (y g)))) (v 16 [17,18,19,20,21,22,23,24,25,26,27,28,29,30,31,32,33,34,35,36,37,38] (MA 119 118)
 (v 17 [18,19,20,21,22,23,24,25,26,27,28,29,30,31,32,33,34,35,36,37,38] (GA 120 (m (t 17)) 119 d) (v 18 [19,20,21,22,23,24,25,26,27,28,29,30,31,32,33,34,35,36,37,38] (GA 121 (b .eql g (t 120) (k (i j 4))) 119 d)
 (v 19 [20,21,22,23,24,25,26,27,28,29,30,31,32,33,34,35,36,37,38] (UA 122 (p (t 119) (t 121) (k (y g)))) (v 20 [21,22,23,24,25,26,27,28,29,30,31,32,33,34,35,36,37,38] (MA 123 122) (v 21 [22,23,24,25,26,27,28,29,30,31,32,33,34,35,36,37,38] (GA 124 (m (t 18)) 123 d)
 (v 22 [23,24,25,26,27,28,29,30,31,32,33,34,35,36,37,38] (GA 125 (b .eql g (t 124) (k (i j 0))) 123 d) (v 23 [24,25,26,27,28,29,30,31,32,33,34,35,36,37,38] (UA 126 (p (t 123) (t 125) (k (y g)))) (v 24 [25,26,27,28,29,30,31,32,33,34,35,36,37,38] (MA 127 126)
 (v 25 [27,28,29,30,31,32,33,34,35,36,37,38] (GA 128 (l (s 2) (t 1)) 127 d) (v 26 [27,28,29,30,31,32,33,34,35,36,37,38] (GA 129 (l (s 24) (t 19)) 127 d) (h 27 (GA 130 (.call 14 [(t 128),(t 129)]) 127 d) g
 (v 28 [29,30,31,32,33,34,35,36,37,38] (GA 131 (b .eql g (t 130) (k (i j 110))) 127 d) (v 29 [30,31,32,33,34,35,36,37,38] (UA 132 (p (t 127) (t 131) (k (y g)))) (v 30 [31,32,33,34,35,36,37,38] (MA 133 132)
 (v 33 [35,36,37,38] (GA 136 (l (s 2) (t 1)) 133 d) (v 34 [35,36,37,38] (GA 137 (l (s 24) (t 5)) 133 d) (h 31 (GA 134 (.call 30 [(k (i j 1))]) 133 d) d (h 32 (GA 135 (.lits 1 5 1 [i j 0,i j 0,.string ⟨#[]⟩,i j 0,i j 0] [(0,(t 134))]) 133 d) d
 (h 35 (GA 138 (.call 16 [(t 135),(t 136),(t 137)]) 133 d) g (v 36 [37,38] (GA 139 (b .eql g (t 138) (k (i j 0))) 133 d) (v 37 [38] (UA 140 (p (t 133) (t 139) (k (y g)))) (v 38 [] (MA 0 140)
 .done))) .none) .none) .none)))))) .none)))))))))))))))))) .none) .none)))))))))) .ret)))))))))))))))
def c20a0:LCode:=r 0 [MA 9 21]
def c20r0:LCode:=z 1 (q (r 0 [SA 24 2 2,MA 25 9,UA 26 (.call 62 [(t 24),(t 25)]),MA 23 26,UA 27 (.ext (t 23) 0),UA 28 (.ext (t 23) 1),MA 10 27,MA 11 28])
 (q (r 0 [MA 29 10,UA 30 (b .geq g (t 29) (k (i j 0)))]) (c (t 30) (r 2 [LA 31 7,MA 32 10,UA 33 (.lits 0 1 1 [i j 0] [(0,(t 32))]),UA 34 (.append 1 1 8 (t 31) (t 33)),
 (WA 1 7 34)]) (r 2 [LA 35 8,MA 36 11,UA 37 (.lits 0 1 1 [i j 0] [(0,(t 36))]),UA 38 (.append 1 1 8 (t 35) (t 37)),WA 1 8 38]))))
def c20:LCode:=(q (r 1 [UA 2 (u 0 (t 0)),UA 4 (m (k (.slice o 0 0))),UA 5 (m (k (.slice o 0 0)))]) (q (r 1 [SA 12 2 2,UA 13 (.call 51 [(t 12)]),UA 6 (.alloc 0 (.agg #[i j 0,.slice o 0 0])),
 (WA 2 6 13)]) (q (q (r 0 [SA 14 2 6,MA 15 1,UA 16 (.call 53 [(t 14),(t 15)]),UA 17 (.not (t 16))]) (c (t 17) (q (r 0 [UA 4 (m (k (.slice o 0 0))),UA 5 (m (k (.slice o 0 0)))])
 .ret) .skip)) (q (r 2 [UA 7 (.alloc 0 (.slice o 0 0)),UA 8 (.alloc 1 (.slice o 0 0))]) (q (q (r 0 [SA 18 2 6,MA 19 1,UA 20 (.call 61 [(t 18),(t 19)])]) (z 0 (.rfn (t 20) [21,22]
 c20a0 c20r0))) (q (r 0 [LA 39 7,UA 40 (.call 63 [(t 39)])]) (q (.tree 0 (v 0 [1,3,4] (LA 41 7) (v 2 [4] (LA 43 8) (h 1 (UA 42 (.call 64 [(t 41)])) d (v 3 [4] (MA 4 42)
 (v 4 [] (MA 5 43) .done)) .none)))) .ret)))))))
def c54a0:LCode:=r 1 [UA 7 (.alloc 0 (.agg #[i j 0,i j 0,i j 0,i j 0])),WA 4 7 12]
def c54r0:LCode:=z 1 (r 0 [LA 13 5,FA 14 2 7,LA 15 14,UA 16 (b .add d (t 13) (t 15)),WA 1 5 16])
def c54:LCode:=(q (r 1 [UA 2 (u 0 (t 0)),CA 4 0]) (q (r 1 [UA 5 (.alloc 0 (i j 0)),⟨o,w 1 (t 5) (k (i j 0)),o⟩]) (q (q (r 0 [SA 8 2 2,MA 9 1,UA 10 (.call 61 [(t 8),(t 9)])])
 (z 0 (.rfn (t 10) [11,12] c54a0 c54r0))) (q (r 0 [LA 17 5,MA 4 17]) .ret))))
def c62l1:LCode:=q (r 0 [UA 31 (b .lss g (t 30) (t 29))]) (q (c (t 31) .skip (.exit 2)) (q (z 3 (q (r 1 [MA 32 30,XA 33 3 28 30,SA 34 3 33,UA 9 (.alloc 0 (.agg #[i j 0,i j 0,i j 0])),
 (MA 8 32),WA 3 9 34]) (q (q (r 0 [FA 35 0 9,LA 36 35,MA 37 7,UA 38 (b .neq g (t 36) (t 37))]) (c (t 38) (.exit 3) .skip)) (q (q (r 0 [MA 39 1,
 (UA 40 (b .eql g (t 39) (k (i j 0))))]) (c (t 40) (q (r 0 [MA 41 8,MA 4 41,CA 5 0]) .ret) .skip)) (r 0 [MA 42 1,UA 43 (b .sub d (t 42) (k (i j 1))),MA 1 43])))))
 (r 0 [UA 44 (b .add d (t 30) (k (i j 1))),MA 30 44])))
def c62l0:LCode:=q (r 0 [UA 24 (b .lss g (t 23) (t 22))]) (q (c (t 24) .skip (.exit 0)) (q (z 1 (q (r 0 [XA 25 1 21 23,LA 26 25,MA 7 26]) (q (r 0 [FA 27 0 2,
 (LA 28 27),UA 29 (n (t 28)),CA 30 0]) (z 2 (.loop c62l1))))) (r 0 [UA 45 (b .add d (t 23) (k (i j 1))),MA 23 45])))
def c62:LCode:=(q (r 1 [UA 2 (u 0 (t 0)),CA 4 0,CA 5 0]) (q (q (r 0 [MA 10 1,FA 11 0 2,LA 12 11,UA 13 (n (t 12)),UA 14 (b .lss g (t 10) (t 13))])
 (c (t 14) (q (r 0 [MA 15 1,MA 4 15,CA 5 0]) .ret) .skip)) (q (r 0 [MA 16 1,FA 17 0 2,LA 18 17,UA 19 (n (t 18)),UA 20 (b .sub d (t 16) (t 19)),
 (MA 1 20)]) (q (q (r 1 [UA 21 (.lits 0 1 2 [i j 0] [(0,(k (i j 1))),(1,(k (i j 3)))]),UA 22 (n (t 21)),CA 23 0]) (z 0 (.loop c62l0))) (q (r 0 [MA 46 1,UA 4 (m (k (.int .i64 (-1)))),
 (MA 5 46)]) .ret)))))
def c67:LCode:=(q (r 1 [UA 1 (u 0 (t 0)),UA 2 (m (k (y g)))]) (q (q (r 0 [FA 3 2 1,LA 4 3,UA 5 (b .lss g (t 4) (k (i j 0))),MA 6 5,GA 7 (f 2 (t 1)) 6 g,
 (GA 8 (l o (t 7)) 6 g),GA 9 (b .gtr g (t 8) (k (i j 1073741824))) 6 g,UA 10 (p (t 6) (k (y d)) (t 9))]) (c (t 10) (q (r 0 [UA 2 (m (k (y g)))]) .ret) .skip)) (q (q (r 0 [FA 11 0 1,
 (LA 12 11)]) (z 0 (q (r 0 [UA 14 (b .eql g (t 12) (k (i j 1))),MA 13 14]) (c (t 13) (q (r 0 [FA 15 1 1,LA 16 15,UA 17 (b .geq g (t 16) (k (i j 0))),MA 18 17,
 (GA 19 (f 1 (t 1)) 18 d),GA 20 (l o (t 19)) 18 d,GA 21 (b .lss g (t 20) (k (i j 64))) 18 d,UA 22 (p (t 18) (t 21) (k (y g))),MA 2 22]) .ret) (q (q (r 0 [UA 24 (b .eql g (t 12) (k (i j 2))),
 (MA 23 24)]) (c (t 23) .skip (r 0 [UA 25 (b .eql g (t 12) (k (i j 3))),MA 23 25]))) (c (t 23) (q (r 0 [FA 26 1 1,LA 27 26,UA 28 (b .geq g (t 27) (k (i j 1))),
 (MA 29 28),GA 30 (f 1 (t 1)) 29 d,GA 31 (l o (t 30)) 29 d,GA 32 (b .leq g (t 31) (k (i j 1073741824))) 29 d,UA 33 (p (t 29) (t 32) (k (y g))),MA 2 33]) .ret) .skip))))))
 (q (r 0 [UA 2 (m (k (y g)))]) .ret))))
def c72:LCode:=(q (r 0 [UA 2 (m (k (.slice o 0 0)))]) (q (r 0 [MA 3 0,UA 4 (.call 101 [(t 3),(.func 102)]),MA 2 4]) .ret))
def c78l0:LCode:=q (r 0 [UA 9 (b .lss g (t 8) (t 7))]) (q (c (t 9) .skip (.exit 0)) (q (z 1 (q (r 0 [MA 10 8,MA 5 10]) (q (r 0 [MA 11 1,MA 12 0,MA 13 5,
 (XA 14 1 12 13),LA 15 14,UA 16 (b .eql g (t 11) (t 15))]) (c (t 16) (q (r 0 [MA 17 5,MA 4 17]) .ret) .skip)))) (r 0 [UA 18 (b .add d (t 8) (k (i j 1))),
 (MA 8 18)])))
def c78:LCode:=(q (r 0 [CA 4 0]) (q (q (r 0 [MA 6 0,UA 7 (n (t 6)),CA 8 0]) (z 0 (.loop c78l0))) (q (r 0 [UA 4 (m (k (.int .i64 (-1))))]) .ret)))
def c99l0:LCode:=q (q (r 0 [FA 12 72 1,LA 13 12,UA 14 (.conv g .i64 (t 13)),MA 15 4,UA 16 (n (t 15)),UA 17 (b .add d (t 14) (t 16)),UA 18 (b .rem g (t 17) (k (i j 64))),
 (UA 19 (b .neq g (t 18) (k (i j 56))))]) (c (t 19) .skip (.exit 0))) (z 1 (r 2 [MA 20 4,UA 21 (.lits 0 1 1 [.int .u8 0] [(0,(k (.int .u8 0)))]),UA 22 (.append 1 1 1 (t 20) (t 21)),MA 4 22]))
def c99l1:LCode:=q (r 0 [UA 24 (b .lss g (t 23) (k (i j 8)))]) (q (c (t 24) .skip (.exit 2)) (q (z 3 (q (r 0 [MA 25 23,MA 5 25]) (r 2 [MA 26 4,MA 27 3,MA 28 5,
 (UA 29 (b .mul d (k (i j 8)) (t 28))),UA 30 (b .sub d (k (i j 56)) (t 29)),UA 31 (.shift .shr (t 27) (t 30)),UA 32 (.conv g .u8 (t 31)),UA 33 (.lits 0 1 1 [.int .u8 0] [(0,(t 32))]),UA 34 (.append 1 1 1 (t 26) (t 33)),
 (MA 4 34)]))) (r 0 [UA 35 (b .add d (t 23) (k (i j 1))),MA 23 35])))
def c99l2:LCode:=q (r 0 [UA 41 (b .lss g (t 40) (k (i j 32)))]) (q (c (t 41) .skip (.exit 4)) (q (z 5 (q (r 0 [MA 42 40,MA 7 42]) (r 0 [MA 43 7,MA 44 7,UA 45 (b .quo d (t 44) (k (i j 4))),
 (FA 46 0 1),UA 47 (.prim (.pidx 8 1) [(t 46),(t 45)]),LA 48 47,MA 49 7,UA 50 (b .rem g (t 49) (k (i j 4))),UA 51 (b .mul d (k (i j 8)) (t 50)),UA 52 (b .sub d (k (i j 24)) (t 51)),
 (UA 53 (.shift .shr (t 48) (t 52))),UA 54 (.conv g .u8 (t 53)),UA 55 (.prim (.pidx 32 1) [(t 6),(t 43)]),WA 1 55 54]))) (r 0 [UA 56 (b .add d (t 40) (k (i j 1))),MA 40 56])))
def c99:LCode:=(q (r 2 [UA 1 (u 0 (t 0)),UA 2 (.alloc 1 (.agg (yaa 32 (.int .u8 0))))]) (q (r 0 [FA 8 72 1,LA 9 8,UA 10 (b .mul g (k (.int .u64 8)) (t 9)),MA 3 10])
 (q (r 1 [UA 11 (.lits 0 1 1 [.int .u8 0] [(0,(k (.int .u8 128)))]),MA 4 11]) (q (z 0 (.loop c99l0)) (q (q (r 0 [CA 23 0]) (z 2 (.loop c99l1))) (q (r 0 [SA 36 73 1,
 (MA 37 4),UA 38 (.eff .b2s 0 [(t 37)]),UA 39 (.call 97 [(t 36),(t 38)]),WA 73 1 39]) (q (r 1 [UA 6 (.alloc 0 (.agg (yaa 32 (.int .u8 0))))]) (q (q (r 0 [CA 40 0])
 (z 4 (.loop c99l2))) (q (r 0 [SA 57 32 6,WA 32 2 57]) .ret)))))))))
def c148l1:LCode:=q (r 0 [UA 25 (b .lss g (t 24) (t 23))]) (q (c (t 25) .skip (.exit 2)) (q (z 3 (q (r 0 [XA 26 1 22 24,LA 27 26,MA 6 27]) (r 0 [MA 28 4,
 (MA 29 4),UA 30 (.prim (.pidx 64 1) [(t 3),(t 29)]),LA 31 30,UA 32 (.shift .shl (t 31) (k (.int .u64 8))),MA 33 6,UA 34 (.conv d .u32 (t 33)),UA 35 (b .or g (t 32) (t 34)),
 (UA 36 (.prim (.pidx 64 1) [(t 3),(t 28)])),WA 1 36 35]))) (r 0 [UA 37 (b .add d (t 24) (k (i j 1))),MA 24 37])))
def c148l0:LCode:=q (r 0 [UA 12 (b .lss g (t 11) (k (i j 64)))]) (q (c (t 12) .skip (.exit 0)) (q (z 1 (q (r 0 [MA 13 11,MA 4 13]) (q (q (r 0 [MA 14 4,UA 15 (b .lss g (t 14) (k (i j 16)))])
 (c (t 15) (q (q (r 0 [MA 16 0,MA 17 4,UA 18 (b .mul d (k (i j 4)) (t 17)),MA 19 4,UA 20 (b .mul d (k (i j 4)) (t 19)),UA 21 (b .add d (t 20) (k (i j 4))),UA 22 (.slice 1 (t 16) (s (t 18)) (s (t 21)) o),
 (UA 23 (n (t 22))),CA 24 0]) (z 2 (.loop c148l1))) (.exit 1)) .skip)) (q (.qui 0 [MA 38 4,UA 39 (b .sub d (t 38) (k (i j 15))),UA 40 (.prim (.pidx 64 1) [(t 3),(t 39)]),LA 41 40,
 (MA 42 4),UA 43 (b .sub d (t 42) (k (i j 2))),UA 44 (.prim (.pidx 64 1) [(t 3),(t 43)]),LA 45 44,MA 7 41,MA 8 45]) (q (r 0 [MA 46 7,UA 47 (.call 156 [(t 46),(k (.int .i64 (-7)))]),
 (MA 48 7),UA 49 (.call 156 [(t 48),(k (.int .i64 (-18)))]),UA 50 (b .xor g (t 47) (t 49)),MA 51 7,UA 52 (.shift .shr (t 51) (k (.int .u64 3))),UA 53 (b .xor g (t 50) (t 52)),
 (MA 9 53)]) (q (r 0 [MA 54 8,UA 55 (.call 156 [(t 54),(k (.int .i64 (-17)))]),MA 56 8,UA 57 (.call 156 [(t 56),(k (.int .i64 (-19)))]),UA 58 (b .xor g (t 55) (t 57)),
 (MA 59 8),UA 60 (.shift .shr (t 59) (k (.int .u64 10))),UA 61 (b .xor g (t 58) (t 60)),MA 10 61]) (.tail 15 0 [MA 62 4,MA 63 4,UA 64 (b .sub d (t 63) (k (i j 16))),
 (UA 65 (.prim (.pidx 64 1) [(t 3),(t 64)])),LA 66 65,MA 67 9,UA 68 (b .add g (t 66) (t 67)),MA 69 4,UA 70 (b .sub d (t 69) (k (i j 7))),UA 71 (.prim (.pidx 64 1) [(t 3),(t 70)]),
 (LA 72 71),UA 73 (b .add g (t 68) (t 72)),MA 74 10,UA 75 (b .add g (t 73) (t 74)),UA 76 (.prim (.pidx 64 1) [(t 3),(t 62)]),WA 1 76 75]))))))) (r 0 [UA 77 (b .add d (t 11) (k (i j 1))),
 (MA 11 77)])))
def c148:LCode:=(q (r 1 [UA 2 (.alloc 0 (.agg (yaa 64 (.int .u32 0))))]) (q (r 1 [UA 3 (.alloc 0 (.agg (yaa 64 (.int .u32 0))))]) (q (q (r 0 [CA 11 0]) (z 0
 (.loop c148l0))) (q (r 0 [SA 78 64 3,WA 64 2 78]) .ret))))
def c155:LCode:=(q (r 0 [UA 4 (m (k (.int .u64 0))),UA 5 (m (k (.int .u64 0)))]) (q (r 0 [MA 14 0,UA 15 (b .and g (t 14) (k (.int .u64 4294967295))),MA 6 15]) (q (r 0 [MA 16 0,
 (UA 17 (.shift .shr (t 16) (k (.int .u64 32)))),MA 7 17]) (q (r 0 [MA 18 1,UA 19 (b .and g (t 18) (k (.int .u64 4294967295))),MA 8 19]) (q (r 0 [MA 20 1,UA 21 (.shift .shr (t 20) (k (.int .u64 32))),
 (MA 9 21)]) (q (r 0 [MA 22 6,MA 23 8,UA 24 (b .mul d (t 22) (t 23)),MA 10 24]) (q (r 0 [MA 25 7,MA 26 8,UA 27 (b .mul d (t 25) (t 26)),MA 28 10,
 (UA 29 (.shift .shr (t 28) (k (.int .u64 32)))),UA 30 (b .add d (t 27) (t 29)),MA 11 30]) (q (r 0 [MA 31 11,UA 32 (b .and g (t 31) (k (.int .u64 4294967295))),MA 12 32])
 (q (r 0 [MA 33 11,UA 34 (.shift .shr (t 33) (k (.int .u64 32))),MA 13 34]) (q (r 0 [MA 35 12,MA 36 6,MA 37 9,UA 38 (b .mul d (t 36) (t 37)),UA 39 (b .add d (t 35) (t 38)),
 (MA 12 39)]) (q (r 0 [MA 40 7,MA 41 9,UA 42 (b .mul d (t 40) (t 41)),MA 43 13,UA 44 (b .add d (t 42) (t 43)),MA 45 12,UA 46 (.shift .shr (t 45) (k (.int .u64 32))),
 (UA 47 (b .add d (t 44) (t 46))),MA 4 47]) (q (r 0 [MA 48 0,MA 49 1,UA 50 (b .mul d (t 48) (t 49)),MA 5 50]) .ret))))))))))))
open Go Go.Fx Go.Proofs
theorem pol:Tryz.prog.follows .mixedOrders=true:=by kernel_rfl
theorem lw9:rlF Tryz.prog 9 c9=some (c9,[.tmp 0],141):=by kernel_rfl
theorem lw20:rlF Tryz.prog 20 c20=some (c20,[.tmp 4,.tmp 5],44):=by kernel_rfl
theorem lw54:rlF Tryz.prog 54 c54=some (c54,[.tmp 4],18):=by kernel_rfl
theorem lw62:rlF Tryz.prog 62 c62=some (c62,[.tmp 4,.tmp 5],47):=by kernel_rfl
theorem lw67:rlF Tryz.prog 67 c67=some (c67,[.tmp 2],34):=by kernel_rfl
theorem lw72:rlF Tryz.prog 72 c72=some (c72,[.tmp 2],5):=by kernel_rfl
theorem lw78:rlF Tryz.prog 78 c78=some (c78,[.tmp 4],19):=by kernel_rfl
theorem lw99:rlF Tryz.prog 99 c99=some (c99,[.cell 2 (some 32)],58):=by kernel_rfl
theorem lw148:rlF Tryz.prog 148 c148=some (c148,[.cell 2 (some 64)],79):=by kernel_rfl
theorem lw155:rlF Tryz.prog 155 c155=some (c155,[.tmp 4,.tmp 5],51):=by kernel_rfl
end Go.Fx.E
namespace Go.Fx.E
open Go Go.Fx
def pC:Array Value:=#[.int .u32 0,.int .u32 0,.int .u32 0,.int .u32 0,.int .u32 0,.int .u32 0,.int .u32 0,.int .u32 0,.int .u8 0,.int .u8 0,.int .u8 0,.int .u8 0,.int .u8 0,.int .u8 0,.int .u8 0,.int .u8 0,.int .u8 0,.int .u8 0,.int .u8 0,.int .u8 0,.int .u8 0,.int .u8 0,.int .u8 0,.int .u8 0,.int .u8 0,.int .u8 0,.int .u8 0,.int .u8 0,.int .u8 0,.int .u8 0,.int .u8 0,.int .u8 0,.int .u8 0,.int .u8 0,.int .u8 0,.int .u8 0,.int .u8 0,.int .u8 0,.int .u8 0,.int .u8 0,.int .u8 0,.int .u8 0,.int .u8 0,.int .u8 0,.int .u8 0,.int .u8 0,.int .u8 0,.int .u8 0,.int .u8 0,.int .u8 0,.int .u8 0,.int .u8 0,.int .u8 0,.int .u8 0,.int .u8 0,.int .u8 0,.int .u8 0,.int .u8 0,.int .u8 0,.int .u8 0,.int .u8 0,.int .u8 0,.int .u8 0,.int .u8 0,.int .u8 0,.int .u8 0,.int .u8 0,.int .u8 0,.int .u8 0,.int .u8 0,.int .u8 0,.int .u8 0,.int .u64 0]
end Go.Fx.E
namespace Go.Fx.E
open Go Go.Fx
open Go.Operand renaming tmp → t, const → k
open Go.Value renaming int → i, bool → y
open Go.IntKind renaming i64 → j
open Option renaming some → s, none → o
open Go.Fx.LOp renaming mov → m, load → l, fld → f, bin → b, idx → x, store → w, pick → p, len → n, box → u
open Go.Fx.LCode renaming seq → q, reg → r, cond → c, block → z
open Go.Fx.LPlan renaming take → v, alt → h
open Bool renaming false → g, true → d
def c16:LCode:=(q (r 2 [UA 4 (u 0 (t 1)),UA 5 (u 1 (t 2)),CA 6 0]) (q (r 1 [SA 10 2 4,FA 11 0 5,LA 12 11,UA 13 (.call 34 [(t 10),(t 12)]),
 (MA 9 13),UA 14 (.ext (t 9) 0),UA 15 (.ext (t 9) 1),UA 7 (.alloc 0 (.agg #[i j 0,i j 0,i j 0])),WA 3 7 14,MA 8 15]) (q (q (r 0 [MA 16 8,UA 17 (.not (t 16))])
 (c (t 17) (q (r 0 [CA 6 5]) .ret) .skip)) (q (.tree 0 (v 0 [12,13] (MA 18 0) (v 1 [2,3,12,13] (FA 19 1 7) (v 2 [3,12,13] (LA 20 19) (v 3 [12,13] (UA 21 (b .add d (k (i j 1000)) (t 20)))
 (v 4 [5,12,13] (FA 22 7 5) (v 5 [12,13] (LA 23 22) (v 6 [7,12,13] (SA 24 24 5) (v 8 [9,12,13] (FA 26 8 5) (v 9 [12,13] (SA 27 16 26) (v 10 [11,12,13] (FA 28 5 5)
 (v 11 [12,13] (SA 29 2 28) (h 7 (UA 25 (.call 41 [(t 24)])) d (h 12 (UA 30 (.call 58 [(t 18),(t 21),(t 23),(k (i j 410)),(t 25),(t 27),(t 29)])) g (v 13 [] (MA 6 30) .done) .none) .none)))))))))))))
 .ret))))
def c18:LCode:=(q (r 1 [UA 2 (u 0 (t 0)),CA 4 0,CA 5 0]) (q (r 1 [SA 7 2 2,UA 8 (.call 51 [(t 7)]),UA 6 (.alloc 0 (.agg #[i j 0,.slice o 0 0])),
 (WA 2 6 8)]) (q (q (r 0 [SA 9 2 6,MA 10 1,UA 11 (.call 53 [(t 9),(t 10)]),UA 12 (.not (t 11))]) (c (t 12) (q (r 0 [CA 4 0,CA 5 110])
 .ret) .skip)) (q (r 0 [SA 13 2 6,MA 14 1,UA 15 (.call 54 [(t 13),(t 14)]),MA 4 15,CA 5 0]) .ret))))
def c22l0:LCode:=q (q (r 0 [MA 11 5,MA 12 0,UA 13 (n (t 12)),UA 14 (b .lss g (t 11) (t 13))]) (c (t 14) .skip (.exit 0))) (q (z 1 (q (.qui 0 [MA 17 0,MA 18 5,
 (XA 19 1 17 18),LA 20 19,MA 21 1,MA 22 5,XA 23 1 21 22,LA 24 23,UA 25 (b .neq g (t 20) (t 24))]) (c (t 25) (q (r 0 [UA 4 (m (k (y g)))])
 .ret) .skip))) (r 0 [MA 15 5,UA 16 (b .add d (t 15) (k (i j 1))),MA 5 16]))
def c22:LCode:=(q (r 0 [UA 4 (m (k (y g)))]) (q (q (r 0 [MA 6 0,UA 7 (n (t 6)),MA 8 1,UA 9 (n (t 8)),UA 10 (b .neq g (t 7) (t 9))]) (c (t 10) (q (r 0 [UA 4 (m (k (y g)))])
 .ret) .skip)) (q (q (r 0 [CA 5 0]) (z 0 (.loop c22l0))) (q (r 0 [UA 4 (m (k (y d)))]) .ret))))
def c33:LCode:=(q (r 1 [UA 0 (.alloc 0 (.agg #[.slice o 0 0,.slice o 0 0]))]) (q (r 2 [UA 1 (.build [i j 0,i j 0,i j 0] [(0,1,(k (i j 1))),(1,1,(k (i j 1))),(2,1,(k (i j 5)))]),UA 2 (.build [i j 0,i j 0,i j 0] [(0,1,(k (i j 1))),(1,1,(k (i j 2))),(2,1,(k (i j 3)))]),
 (UA 3 (.build [i j 0,i j 0,i j 0] [(0,1,(k (i j 2))),(1,1,(k (i j 10))),(2,1,(k (i j 6)))])),UA 4 (.build [i j 0,i j 0,i j 0] [(0,1,(k (i j 3))),(1,1,(k (i j 7))),(2,1,(k (i j 4)))]),UA 5 (.lits 0 3 4 [i j 0,i j 0,i j 0] [(0,(t 1)),(1,(t 2)),(2,(t 3)),(3,(t 4))]),
 (UA 6 (.build [i j 0,i j 0,i j 0,i j 0] [(0,1,(k (i j 0))),(1,1,(k (i j 2))),(2,1,(k (i j 9))),(3,1,(k (i j 1)))])),UA 7 (.build [i j 0,i j 0,i j 0,i j 0] [(0,1,(k (i j 1))),(1,1,(k (i j 2))),(2,1,(k (i j 9))),(3,1,(k (i j 2)))]),
 (UA 8 (.build [i j 0,i j 0,i j 0,i j 0] [(0,1,(k (i j 2))),(1,1,(k (i j 3))),(2,1,(k (i j 9))),(3,1,(k (i j 1)))])),UA 9 (.build [i j 0,i j 0,i j 0,i j 0] [(0,1,(k (i j 1))),(1,1,(k (i j 3))),(2,1,(k (i j 1))),(3,1,(k (i j 5)))]),
 (UA 10 (.lits 1 4 4 [i j 0,i j 0,i j 0,i j 0] [(0,(t 6)),(1,(t 7)),(2,(t 8)),(3,(t 9))])),UA 11 (.build [.slice o 0 0,.slice o 0 0] [(0,1,(t 5)),(1,1,(t 10))]),WA 2 0 11]) .ret))
def c35:LCode:=(q (r 1 [UA 1 (u 0 (t 0)),UA 2 (m (k (y g)))]) (q (r 0 [FA 3 0 1,LA 4 3,FA 5 1 1,LA 6 5,UA 7 (.minmax g (t 4) (t 6)),UA 8 (b .geq g (t 7) (k (i j 1))),
 (MA 9 8),GA 10 (f 0 (t 1)) 9 d,GA 11 (l o (t 10)) 9 d,GA 12 (f 1 (t 1)) 9 d,GA 13 (l o (t 12)) 9 d,GA 14 (.minmax d (t 11) (t 13)) 9 d,GA 15 (b .leq g (t 14) (k (i j 1073741824))) 9 d,
 (UA 16 (p (t 9) (t 15) (k (y g)))),MA 17 16,GA 18 (f 2 (t 1)) 17 d,GA 19 (l o (t 18)) 17 d,GA 20 (.lens (t 19)) 17 d,GA 21 (b .geq g (t 20) (k (i j 1))) 17 d,UA 22 (p (t 17) (t 21) (k (y g))),
 (MA 23 22),GA 24 (f 2 (t 1)) 23 d,GA 25 (l o (t 24)) 23 d,GA 26 (.lens (t 25)) 23 d,GA 27 (b .leq g (t 26) (k (i j 64))) 23 d,UA 28 (p (t 23) (t 27) (k (y g))),MA 29 28,
 (GA 30 (f 3 (t 1)) 29 d),GA 31 (l o (t 30)) 29 d,GA 32 (b .geq g (t 31) (k (i j 0))) 29 d,UA 33 (p (t 29) (t 32) (k (y g))),MA 34 33,GA 35 (f 3 (t 1)) 34 d,GA 36 (l o (t 35)) 34 d,
 (GA 37 (f 4 (t 1)) 34 d),GA 38 (l o (t 37)) 34 d,GA 39 (b .lss g (t 36) (t 38)) 34 d,UA 40 (p (t 34) (t 39) (k (y g))),MA 41 40,GA 42 (f 4 (t 1)) 41 d,GA 43 (l o (t 42)) 41 d,
 (GA 44 (b .leq g (t 43) (k (i j 1099511627776))) 41 d),UA 45 (p (t 41) (t 44) (k (y g))),MA 2 45]) .ret))
def c61:LCode:=(q (r 2 [UA 2 (u 0 (t 0)),UA 3 (u 1 (t 1)),UA 4 (m (k (.nilFunc)))]) (q (r 0 [UA 5 (.fn 83 [(t 2),(t 3)]),MA 4 5]) .ret))
def c70l0:LCode:=q (r 0 [UA 18 (b .lss g (t 17) (t 16))]) (q (c (t 18) .skip (.exit 0)) (q (z 1 (q (r 0 [XA 19 1 15 17,LA 20 19,MA 7 20]) (.tree 0 (v 0 [4,5] (SA 21 73 5)
 (v 1 [2,3,4,5] (MA 22 7) (h 2 (UA 23 (.call 98 [(t 22)])) d (h 3 (UA 24 (.eff .b2s 0 [(t 23)])) d (h 4 (UA 25 (.call 97 [(t 21),(t 24)])) g (h 5 (WA 73 5 25) g .done .none) .none) .none)
 .none)))))) (r 0 [UA 26 (b .add d (t 17) (k (i j 1))),MA 17 26])))
def c70:LCode:=(q (r 1 [UA 4 (.alloc 0 (.agg (yaa 16 (.int .u8 0))))]) (q (.tree 2 (v 1 [2,3,4,5,7] (MA 10 0) (v 2 [3,4,5,7] (UA 11 (.conv g .u8 (t 10))) (h 0 (UA 9 (.call 96 [])) g
 (h 3 (UA 12 (.lits 0 1 1 [.int .u8 0] [(0,(t 11))])) g (h 4 (UA 13 (.eff .b2s 0 [(t 12)])) g (h 5 (UA 14 (.call 97 [(t 9),(t 13)])) g (h 6 (UA 5 (.alloc 1 (.agg pC))) g (h 7 (WA 73 5 14) g .done
 .none) .none) (h 6 (UA 5 (.alloc 1 (.agg pC))) g (h 5 (UA 14 (.call 97 [(t 9),(t 13)])) g (h 7 (WA 73 5 14) g .done .none) .none) .none)) (h 6 (UA 5 (.alloc 1 (.agg pC))) g (h 4 (UA 13 (.eff .b2s 0 [(t 12)])) g
 (h 5 (UA 14 (.call 97 [(t 9),(t 13)])) g (h 7 (WA 73 5 14) g .done .none) .none) .none) .none)) (h 6 (UA 5 (.alloc 1 (.agg pC))) g (h 3 (UA 12 (.lits 0 1 1 [.int .u8 0] [(0,(t 11))])) g (h 4 (UA 13 (.eff .b2s 0 [(t 12)])) g
 (h 5 (UA 14 (.call 97 [(t 9),(t 13)])) g (h 7 (WA 73 5 14) g .done .none) .none) .none) .none) .none)) (h 3 (UA 12 (.lits 0 1 1 [.int .u8 0] [(0,(t 11))])) g (h 0 (UA 9 (.call 96 [])) g (h 4 (UA 13 (.eff .b2s 0 [(t 12)])) g
 (h 5 (UA 14 (.call 97 [(t 9),(t 13)])) g (h 6 (UA 5 (.alloc 1 (.agg pC))) g (h 7 (WA 73 5 14) g .done .none) .none) (h 6 (UA 5 (.alloc 1 (.agg pC))) g (h 5 (UA 14 (.call 97 [(t 9),(t 13)])) g
 (h 7 (WA 73 5 14) g .done .none) .none) .none)) (h 6 (UA 5 (.alloc 1 (.agg pC))) g (h 4 (UA 13 (.eff .b2s 0 [(t 12)])) g (h 5 (UA 14 (.call 97 [(t 9),(t 13)])) g (h 7 (WA 73 5 14) g
 .done .none) .none) .none) .none)) (h 4 (UA 13 (.eff .b2s 0 [(t 12)])) g (h 0 (UA 9 (.call 96 [])) g (h 5 (UA 14 (.call 97 [(t 9),(t 13)])) g (h 6 (UA 5 (.alloc 1 (.agg pC))) g (h 7 (WA 73 5 14) g
 .done .none) .none) (h 6 (UA 5 (.alloc 1 (.agg pC))) g (h 5 (UA 14 (.call 97 [(t 9),(t 13)])) g (h 7 (WA 73 5 14) g .done .none) .none) .none)) (h 6 (UA 5 (.alloc 1 (.agg pC))) g (h 0 (UA 9 (.call 96 [])) g
 (h 5 (UA 14 (.call 97 [(t 9),(t 13)])) g (h 7 (WA 73 5 14) g .done .none) .none) .none) .none)) (h 6 (UA 5 (.alloc 1 (.agg pC))) g (h 0 (UA 9 (.call 96 [])) g (h 4 (UA 13 (.eff .b2s 0 [(t 12)])) g
 (h 5 (UA 14 (.call 97 [(t 9),(t 13)])) g (h 7 (WA 73 5 14) g .done .none) .none) .none) (h 4 (UA 13 (.eff .b2s 0 [(t 12)])) g (h 0 (UA 9 (.call 96 [])) g (h 5 (UA 14 (.call 97 [(t 9),(t 13)])) g
 (h 7 (WA 73 5 14) g .done .none) .none) .none) .none)) .none))) (h 6 (UA 5 (.alloc 1 (.agg pC))) g (h 0 (UA 9 (.call 96 [])) g (h 3 (UA 12 (.lits 0 1 1 [.int .u8 0] [(0,(t 11))])) g (h 4 (UA 13 (.eff .b2s 0 [(t 12)])) g
 (h 5 (UA 14 (.call 97 [(t 9),(t 13)])) g (h 7 (WA 73 5 14) g .done .none) .none) .none) .none) (h 3 (UA 12 (.lits 0 1 1 [.int .u8 0] [(0,(t 11))])) g (h 0 (UA 9 (.call 96 [])) g (h 4 (UA 13 (.eff .b2s 0 [(t 12)])) g
 (h 5 (UA 14 (.call 97 [(t 9),(t 13)])) g (h 7 (WA 73 5 14) g .done .none) .none) .none) (h 4 (UA 13 (.eff .b2s 0 [(t 12)])) g (h 0 (UA 9 (.call 96 [])) g (h 5 (UA 14 (.call 97 [(t 9),(t 13)])) g
 (h 7 (WA 73 5 14) g .done .none) .none) .none) .none)) .none)) .none)))))) (q (q (r 0 [MA 15 1,UA 16 (n (t 15)),CA 17 0]) (z 0 (.loop c70l0))) (q (r 1 [SA 27 73 5,
 (UA 28 (.call 99 [(t 27)])),UA 8 (.alloc 0 (.agg (yaa 32 (.int .u8 0)))),WA 32 8 28]) (q (r 0 [UA 29 (.prim (.pslc 32 g d g) [(t 8),(k (i j 16))]),UA 30 (.prim (.s2a 16) [(t 29)]),
 (SA 31 16 30),WA 16 4 31]) .ret)))))
def c90a0:LCode:=r 1 [UA 9 (.alloc 0 (.agg #[i j 0,i j 0,i j 0,i j 0,.bool g])),WA 5 9 46]
def c90r0:LCode:=z 3 (q (.tree 0 (v 0 [5,6] (LA 47 7) (v 1 [4,5,6] (LA 48 2) (v 2 [4,5,6] (LA 49 8) (v 3 [4,5,6] (SA 50 5 9) (h 4 (UA 51 (.call 126 [(t 48),(t 49),(t 50)])) d
 (v 5 [6] (UA 52 (b .add d (t 47) (t 51))) (v 6 [] (MA 10 52) .done)) .none)))))) (q (r 0 [MA 53 10,LA 54 5,FA 55 1 9,LA 56 55,XA 57 1 54 56,
 (LA 58 57),UA 59 (b .lss g (t 53) (t 58))]) (c (t 59) (q (r 0 [LA 60 5,FA 61 1 9,LA 62 61,MA 63 10,XA 64 1 60 62,WA 1 64 63])
 (r 0 [LA 65 6,MA 66 10,FA 67 1 9,LA 68 67,UA 69 (.call 123 [(t 65),(t 66),(t 68)])])) .skip)))
def c90l0:LCode:=q (q (r 0 [LA 26 6,UA 27 (.nilc (t 26)),FA 28 0 27,LA 29 28,UA 30 (n (t 29)),UA 31 (b .gtr g (t 30) (k (i j 0)))]) (c (t 31) .skip (.exit 0)))
 (z 1 (q (r 2 [LA 33 6,UA 34 (.call 124 [(t 33)]),MA 32 34,UA 35 (.ext (t 32) 0),UA 36 (.ext (t 32) 1),UA 7 (.alloc 0 (i j 0)),UA 8 (.alloc 1 (i j 0)),WA 1 7 35,
 (WA 1 8 36)]) (q (q (.qui 0 [LA 37 7,LA 38 5,LA 39 8,XA 40 1 38 39,LA 41 40,UA 42 (b .gtr g (t 37) (t 41))]) (c (t 42) (.exit 1)
 .skip)) (q (r 0 [LA 43 2,LA 44 8,UA 45 (.call 125 [(t 43),(t 44)])]) (z 2 (.rfn (t 45) [46] c90a0 c90r0))))))
def c90:LCode:=(q (r 1 [UA 2 (u 0 (t 0)),UA 4 (m (k (.slice o 0 0)))]) (q (r 2 [UA 11 (.lits 0 1 1 [i j 0] [(0,(k (i j 4611686018427387904)))]),LA 12 2,UA 13 (.nilc (t 12)),FA 14 0 13,
 (FA 15 0 14),LA 16 15,UA 17 (.call 122 [(t 11),(t 16)]),UA 5 (.alloc 1 (.slice o 0 0)),WA 1 5 17]) (q (r 0 [LA 18 5,MA 19 1,XA 20 1 18 19,
 ⟨o,w 1 (t 20) (k (i j 0)),o⟩]) (q (r 2 [UA 21 (.build [.slice o 0 0,.slice o 0 0] []),UA 22 (u 0 (t 21)),UA 6 (.alloc 1 (.pointer o)),WA 1 6 22]) (q (r 0 [LA 23 6,MA 24 1,
 (UA 25 (.call 123 [(t 23),(k (i j 0)),(t 24)]))]) (q (z 0 (.loop c90l0)) (q (r 0 [LA 70 5,MA 4 70]) .ret)))))))
def c96:LCode:=(q (r 1 [UA 0 (.alloc 0 (.agg pC))]) (q (r 0 [UA 1 (.build [.int .u32 0,.int .u32 0,.int .u32 0,.int .u32 0,.int .u32 0,.int .u32 0,.int .u32 0,.int .u32 0] [(0,1,(k (.int .u32 1779033703))),(1,1,(k (.int .u32 3144134277))),(2,1,(k (.int .u32 1013904242))),(3,1,(k (.int .u32 2773480762))),(4,1,(k (.int .u32 1359893119))),(5,1,(k (.int .u32 2600822924))),(6,1,(k (.int .u32 528734635))),(7,1,(k (.int .u32 1541459225)))]),
 (UA 2 (.build [.int .u32 0,.int .u32 0,.int .u32 0,.int .u32 0,.int .u32 0,.int .u32 0,.int .u32 0,.int .u32 0,.int .u8 0,.int .u8 0,.int .u8 0,.int .u8 0,.int .u8 0,.int .u8 0,.int .u8 0,.int .u8 0,.int .u8 0,.int .u8 0,.int .u8 0,.int .u8 0,.int .u8 0,.int .u8 0,.int .u8 0,.int .u8 0,.int .u8 0,.int .u8 0,.int .u8 0,.int .u8 0,.int .u8 0,.int .u8 0,.int .u8 0,.int .u8 0,.int .u8 0,.int .u8 0,.int .u8 0,.int .u8 0,.int .u8 0,.int .u8 0,.int .u8 0,.int .u8 0,.int .u8 0,.int .u8 0,.int .u8 0,.int .u8 0,.int .u8 0,.int .u8 0,.int .u8 0,.int .u8 0,.int .u8 0,.int .u8 0,.int .u8 0,.int .u8 0,.int .u8 0,.int .u8 0,.int .u8 0,.int .u8 0,.int .u8 0,.int .u8 0,.int .u8 0,.int .u8 0,.int .u8 0,.int .u8 0,.int .u8 0,.int .u8 0,.int .u8 0,.int .u8 0,.int .u8 0,.int .u8 0,.int .u8 0,.int .u8 0,.int .u8 0,.int .u8 0,.int .u64 0] [(0,8,(t 1))])),
 (WA 73 0 2)]) .ret))
def c109:LCode:=(q (r 1 [UA 5 (u 0 (t 2)),CA 6 0,UA 7 (m (k (y g)))]) (q (r 0 [MA 8 0,MA 9 1,UA 10 (.fn 137 [(t 5)]),UA 11 (.call 136 [(t 8),(t 9),(t 10)]),
 (UA 12 (.ext (t 11) 0)),UA 13 (.ext (t 11) 1),MA 6 12,MA 7 13]) .ret))
def c124l1:LCode:=q (r 0 [UA 60 (b .lss g (t 59) (t 58))]) (q (c (t 60) .skip (.exit 2)) (q (z 3 (q (r 0 [XA 61 1 57 59,LA 62 61,MA 10 62]) (q (.qui 0 [MA 63 10,
 (MA 64 6),UA 65 (b .lss g (t 63) (t 64)),MA 66 65,GA 67 (m (t 0)) 66 d,GA 68 (.nilc (t 67)) 66 d,GA 69 (f 0 (t 68)) 66 d,GA 70 (l o (t 69)) 66 d,GA 71 (m (t 10)) 66 d,
 (GA 72 (x 1 (t 70) (t 71)) 66 d),GA 73 (l o (t 72)) 66 d,GA 74 (m (t 0)) 66 d,GA 75 (.nilc (t 74)) 66 d,GA 76 (f 0 (t 75)) 66 d,GA 77 (l o (t 76)) 66 d,GA 78 (m (t 8)) 66 d,
 (GA 79 (x 1 (t 77) (t 78)) 66 d),GA 80 (l o (t 79)) 66 d,GA 81 (b .lss g (t 73) (t 80)) 66 d,UA 82 (p (t 66) (t 81) (k (y g)))]) (c (t 82) (r 0 [MA 83 10,MA 8 83])
 .skip)))) (r 0 [UA 84 (b .add d (t 59) (k (i j 1))),MA 59 84])))
def c124l0:LCode:=z 1 (q (r 0 [MA 50 7,MA 8 50]) (q (q (r 1 [MA 51 7,UA 52 (b .mul d (k (i j 2)) (t 51)),UA 53 (b .add d (t 52) (k (i j 1))),MA 54 7,UA 55 (b .mul d (k (i j 2)) (t 54)),
 (UA 56 (b .add d (t 55) (k (i j 2)))),UA 57 (.lits 0 1 2 [i j 0] [(0,(t 53)),(1,(t 56))]),UA 58 (n (t 57)),CA 59 0]) (z 2 (.loop c124l1))) (q (q (r 0 [MA 85 8,MA 86 7,
 (UA 87 (b .eql g (t 85) (t 86)))]) (c (t 87) (q (r 0 [MA 88 4,MA 89 5,MA 2 88,MA 3 89]) .ret) .skip)) (q (r 0 [MA 90 0,MA 91 7,MA 92 8,
 (UA 93 (.call 145 [(t 90),(t 91),(t 92)]))]) (r 0 [MA 94 8,MA 7 94])))))
def c124:LCode:=(q (r 0 [CA 2 0,CA 3 0]) (q (.qui 0 [MA 11 0,UA 12 (.nilc (t 11)),FA 13 0 12,LA 14 13,UA 15 (x 1 (t 14) (k (i j 0))),
 (LA 16 15),MA 17 0,UA 18 (.nilc (t 17)),FA 19 1 18,LA 20 19,UA 21 (x 1 (t 20) (k (i j 0))),LA 22 21,MA 4 16,MA 5 22]) (q (r 0 [
 (MA 23 0),UA 24 (.nilc (t 23)),FA 25 0 24,LA 26 25,UA 27 (n (t 26)),UA 28 (b .sub d (t 27) (k (i j 1))),MA 6 28]) (q (r 0 [MA 29 0,MA 30 6,
 (UA 31 (.call 145 [(t 29),(k (i j 0)),(t 30)]))]) (q (.tree 0 (v 0 [14,15,16,17,18,19] (MA 32 0) (v 1 [17,18,19] (MA 33 0) (v 2 [3,4,5,7,14,15,16,17,18,19] (MA 34 0) (v 3 [4,5,7,14,15,16,17,18,19] (UA 35 (.nilc (t 34)))
 (v 4 [5,7,14,15,16,17,18,19] (FA 36 0 35) (v 5 [7,14,15,16,17,18,19] (LA 37 36) (v 6 [7,14,15,16,17,18,19] (MA 38 6) (v 7 [14,15,16,17,18,19] (UA 39 (.slice 1 (t 37) o (s (t 38)) o))
 (v 8 [9,10,11,13,14,15,16,17,18,19] (MA 40 0) (v 9 [10,11,13,14,15,16,17,18,19] (UA 41 (.nilc (t 40))) (v 10 [11,13,14,15,16,17,18,19] (FA 42 1 41) (v 11 [13,14,15,16,17,18,19] (LA 43 42)
 (v 12 [13,17,18,19] (MA 44 6) (v 13 [17,18,19] (UA 45 (.slice 1 (t 43) o (s (t 44)) o)) (v 14 [15,16,17,18,19] (UA 46 (.nilc (t 32))) (v 15 [16,17,18,19] (FA 47 0 46) (h 16 (WA 1 47 39) g
 (v 17 [18,19] (UA 48 (.nilc (t 33))) (v 18 [19] (FA 49 1 48) (h 19 (WA 1 49 45) g .done .none))) .none)))))))))))))))))) (q (r 0 [CA 7 0]) (z 0 (.loop c124l0))))))))
def c128a0:LCode:=r 1 [UA 10 (.alloc 0 (.agg #[i j 0,i j 0,i j 0,i j 0,.bool g])),WA 5 10 26]
def c128r0:LCode:=z 1 (q (q (r 0 [LA 27 9,LA 28 7,UA 29 (b .eql g (t 27) (t 28))]) (c (t 29) (.exit 0) .skip)) (q (q (r 0 [LA 30 3,FA 31 1 10,LA 32 31,
 (XA 33 1 30 32),LA 34 33,MA 35 34,GA 36 (l o (t 4)) 35 g,GA 37 (l o (t 6)) 35 g,GA 38 (l (s 5) (t 10)) 35 g,GA 39 (.call 126 [(t 36),(t 37),(t 38)]) 35 g,
 (GA 40 (b .neq g (t 39) (k (i j 0))) 35 g),UA 41 (p (t 35) (k (y d)) (t 40))]) (c (t 41) (.exit 1) .skip)) (q (r 0 [LA 42 5,FA 43 1 10,LA 44 43,FA 45 2 10,
 (LA 46 45),LA 47 7,LA 48 9,UA 49 (b .sub d (t 47) (t 48)),UA 50 (.minmax g (t 46) (t 49)),UA 51 (.callv (t 42) [(t 44),(t 50)]),MA 11 51]) (q (q (r 0 [
 (FA 52 4 10),LA 53 52]) (c (t 53) (r 0 [MA 54 11,UA 55 (.neg (t 54)),MA 11 55]) .skip)) (q (.tree 0 (v 0 [1,2,3,6,7,9,10,11] (LA 56 4) (v 1 [2,3,6,7,9,10,11] (UA 57 (.nilc (t 56)))
 (v 2 [3,6,7,9,10,11] (FA 58 2 57) (v 3 [6,7,9,10,11] (LA 59 58) (v 4 [5,6,7,9,10,11] (FA 60 0 10) (v 5 [6,7,9,10,11] (LA 61 60) (v 6 [7,9,10,11] (XA 62 1 59 61)
 (v 7 [9,10,11] (LA 63 62) (v 8 [9,10,11] (MA 64 11) (v 9 [10,11] (UA 65 (b .add d (t 63) (t 64))) (v 10 [11] (XA 66 1 59 61) (h 11 (WA 1 66 65) g .done .none)))))))))))))
 (r 0 [LA 67 9,MA 68 11,MA 69 11,UA 70 (.neg (t 69)),UA 71 (.minmax d (t 68) (t 70)),UA 72 (b .add d (t 67) (t 71)),WA 1 9 72]))))))
def c128:LCode:=(q (r 2 [UA 6 (u 0 (t 0)),UA 7 (u 1 (t 1)),CA 8 0]) (q (q (r 0 [LA 12 6,LA 13 2,UA 14 (b .eql g (t 12) (t 13)),MA 15 14,GA 16 (l o (t 7)) 15 g,
 (GA 17 (b .eql g (t 16) (k (i j 0))) 15 g),UA 18 (p (t 15) (k (y d)) (t 17))]) (c (t 18) (q (r 0 [LA 19 7,MA 8 19]) .ret) .skip)) (q (r 0 [LA 20 3,LA 21 6,
 (XA 22 1 20 21),⟨o,w 1 (t 22) (k (y d)),o⟩]) (q (r 1 [UA 9 (.alloc 0 (i j 0)),⟨o,w 1 (t 9) (k (i j 0)),o⟩]) (q (q (r 0 [LA 23 4,LA 24 6,UA 25 (.call 125 [(t 23),(t 24)])])
 (z 0 (.rfn (t 25) [26] c128a0 c128r0))) (q (r 0 [LA 73 3,LA 74 6,LA 75 9,LA 76 7,UA 77 (b .lss g (t 75) (t 76)),XA 78 1 73 74,WA 1 78 77])
 (q (r 0 [LA 79 9,MA 8 79]) .ret)))))))
open Go Go.Fx Go.Proofs
theorem lw16:rlF Tryz.prog 16 c16=some (c16,[.tmp 6],31):=by kernel_rfl
theorem lw18:rlF Tryz.prog 18 c18=some (c18,[.tmp 4,.tmp 5],16):=by kernel_rfl
theorem lw22:rlF Tryz.prog 22 c22=some (c22,[.tmp 4],26):=by kernel_rfl
theorem lw33:rlF Tryz.prog 33 c33=some (c33,[.cell 0 (some 2)],12):=by kernel_rfl
theorem lw35:rlF Tryz.prog 35 c35=some (c35,[.tmp 2],46):=by kernel_rfl
theorem lw61:rlF Tryz.prog 61 c61=some (c61,[.tmp 4],6):=by kernel_rfl
theorem lw70:rlF Tryz.prog 70 c70=some (c70,[.cell 4 (some 16)],32):=by kernel_rfl
theorem lw90:rlF Tryz.prog 90 c90=some (c90,[.tmp 4],71):=by kernel_rfl
theorem lw96:rlF Tryz.prog 96 c96=some (c96,[.cell 0 (some 73)],3):=by kernel_rfl
theorem lw109:rlF Tryz.prog 109 c109=some (c109,[.tmp 6,.tmp 7],14):=by kernel_rfl
theorem lw124:rlF Tryz.prog 124 c124=some (c124,[.tmp 2,.tmp 3],95):=by kernel_rfl
theorem lw128:rlF Tryz.prog 128 c128=some (c128,[.tmp 8],80):=by kernel_rfl
end Go.Fx.E
namespace Go.Fx.E
open Go Go.Fx
open Go.Operand renaming tmp → t, const → k
open Go.Value renaming int → i, bool → y
open Go.IntKind renaming i64 → j
open Option renaming some → s, none → o
open Go.Fx.LOp renaming mov → m, load → l, fld → f, bin → b, idx → x, store → w, pick → p, len → n, box → u
open Go.Fx.LCode renaming seq → q, reg → r, cond → c, block → z
open Go.Fx.LPlan renaming take → v, alt → h
open Bool renaming false → g, true → d
def c6l1:LCode:=q (q (r 0 [MA 54 11,FA 55 2 10,LA 56 55,UA 57 (b .lss g (t 54) (t 56)),MA 58 57,GA 59 (f 0 (t 10)) 58 d,GA 60 (l o (t 59)) 58 d,
 (GA 61 (b .eql g (t 60) (k (i j 1))) 58 d),UA 62 (p (t 58) (t 61) (k (y g)))]) (c (t 62) .skip (.exit 2))) (q (z 3 (q (.tree 1 (v 0 [1,2,9,10,11,12,14,15] (FA 66 1 10) (v 1 [2,9,10,11,12,14,15] (LA 67 66)
 (v 3 [9,10,11,12,14,15] (SA 69 2 2) (v 4 [9,10,11,12,14,15] (SA 70 5 6) (v 5 [9,10,11,12,14,15] (MA 71 9) (v 6 [9,10,11,12,14,15] (MA 72 11) (v 7 [9,10,11,12,14,15] (MA 73 1)
 (v 8 [9,10,11,12,14,15] (UA 74 (.build [i j 0,i j 0] [(0,1,(k (i j 1))),(1,1,(k (i j 2)))])) (h 2 (UA 68 (.call 30 [(t 67)])) d (h 9 (UA 75 (.call 10 [(t 68),(t 69),(t 70),(t 71),(t 72),(t 73),(t 74)])) g
 (v 10 [11,12,14,15] (MA 65 75) (v 11 [14,15] (UA 76 (.ext (t 65) 0)) (v 12 [15] (UA 77 (.ext (t 65) 1)) (h 13 (UA 12 (.alloc 0 (.agg #[i j 0,i j 0,i j 0,i j 0,.slice o 0 0,i j 0,i j 0,i j 0,.int .u8 0,.int .u8 0,.int .u8 0,.int .u8 0,.int .u8 0,.int .u8 0,.int .u8 0,.int .u8 0,.int .u8 0,.int .u8 0,.int .u8 0,.int .u8 0,.int .u8 0,.int .u8 0,.int .u8 0,.int .u8 0]))) d
 (h 14 (WA 24 12 76) g (v 15 [] (MA 13 77) .done) .none) .none)))) (h 13 (UA 12 (.alloc 0 (.agg #[i j 0,i j 0,i j 0,i j 0,.slice o 0 0,i j 0,i j 0,i j 0,.int .u8 0,.int .u8 0,.int .u8 0,.int .u8 0,.int .u8 0,.int .u8 0,.int .u8 0,.int .u8 0,.int .u8 0,.int .u8 0,.int .u8 0,.int .u8 0,.int .u8 0,.int .u8 0,.int .u8 0,.int .u8 0]))) d
 (h 9 (UA 75 (.call 10 [(t 68),(t 69),(t 70),(t 71),(t 72),(t 73),(t 74)])) g (v 10 [11,12,14,15] (MA 65 75) (v 11 [14,15] (UA 76 (.ext (t 65) 0)) (v 12 [15] (UA 77 (.ext (t 65) 1)) (h 14 (WA 24 12 76) g
 (v 15 [] (MA 13 77) .done) .none)))) .none) .none)) (h 13 (UA 12 (.alloc 0 (.agg #[i j 0,i j 0,i j 0,i j 0,.slice o 0 0,i j 0,i j 0,i j 0,.int .u8 0,.int .u8 0,.int .u8 0,.int .u8 0,.int .u8 0,.int .u8 0,.int .u8 0,.int .u8 0,.int .u8 0,.int .u8 0,.int .u8 0,.int .u8 0,.int .u8 0,.int .u8 0,.int .u8 0,.int .u8 0]))) d
 (h 2 (UA 68 (.call 30 [(t 67)])) d (h 9 (UA 75 (.call 10 [(t 68),(t 69),(t 70),(t 71),(t 72),(t 73),(t 74)])) g (v 10 [11,12,14,15] (MA 65 75) (v 11 [14,15] (UA 76 (.ext (t 65) 0)) (v 12 [15] (UA 77 (.ext (t 65) 1))
 (h 14 (WA 24 12 76) g (v 15 [] (MA 13 77) .done) .none)))) .none) .none) .none))))))))))) (q (r 0 [MA 78 11,SA 79 2 2,SA 80 5 6,MA 81 9,
 (UA 82 (.call 31 [(t 79),(t 80),(t 81)])),UA 83 (b .lss g (t 78) (t 82)),MA 14 83]) (q (q (r 0 [MA 84 14,MA 85 13,UA 86 (b .eql g (t 85) (k (i j 4))),UA 87 (.eqb d (t 84) (t 86)),
 (MA 88 87),GA 89 (m (t 14)) 88 g,GA 90 (.not (t 89)) 88 g,GA 91 (m (t 90)) 88 g,GA 92 (m (t 13)) 91 d,GA 93 (b .neq g (t 92) (k (i j 0))) 91 d,GA 94 (p (t 91) (t 93) (k (y g))) 88 g,
 (UA 95 (p (t 88) (k (y d)) (t 94)))]) (c (t 95) (q (r 0 [UA 4 (m (k (y g)))]) .ret) .skip)) (q (r 0 [MA 96 14,UA 97 (.not (t 96))]) (c (t 97) (q (q (.tree 1 (v 0 [2,3,4,5,6,7,8,9,10,11,12,13] (SA 98 2 2)
 (v 1 [2,3,4,5,6,7,8,9,10,11,12,13] (SA 99 24 12) (h 2 (UA 100 (.call 14 [(t 98),(t 99)])) g (v 3 [4,5,6,7,8,9,10,11,12,13] (UA 101 (b .neq g (t 100) (k (i j 0)))) (v 4 [5,6,7,8,9,10,11,12,13] (MA 102 101)
 (v 5 [6,7,8,11,12,13] (GA 103 (f 1 (t 10)) 102 g) (v 6 [7,8,11,12,13] (GA 104 (l o (t 103)) 102 g) (v 9 [11,12,13] (GA 107 (l (s 2) (t 2)) 102 g) (v 10 [11,12,13] (GA 108 (l (s 24) (t 12)) 102 g)
 (h 7 (GA 105 (.call 30 [(t 104)]) 102 g) d (h 8 (GA 106 (.lits 0 5 1 [i j 0,i j 0,.string ⟨#[]⟩,i j 0,i j 0] [(0,(t 105))]) 102 g) d (h 11 (GA 109 (.call 16 [(t 106),(t 107),(t 108)]) 102 g) g
 (v 12 [13] (GA 110 (b .neq g (t 109) (k (i j 0))) 102 g) (v 13 [] (UA 111 (p (t 102) (k (y d)) (t 110))) .done)) .none) .none) .none))))))) .none)))) (c (t 111) (q (r 0 [UA 4 (m (k (y g)))]) .ret)
 .skip)) (r 2 [MA 112 8,SA 113 24 12,UA 114 (.litsf [113] 0 24 1 [i j 0,i j 0,i j 0,i j 0,.slice o 0 0,i j 0,i j 0,i j 0,.int .u8 0,.int .u8 0,.int .u8 0,.int .u8 0,.int .u8 0,.int .u8 0,.int .u8 0,.int .u8 0,.int .u8 0,.int .u8 0,.int .u8 0,.int .u8 0,.int .u8 0,.int .u8 0,.int .u8 0,.int .u8 0] [(0,(t 113))]),
 (UA 115 (.append 1 24 96 (t 112) (t 114))),MA 8 115])) .skip)))))) (r 0 [MA 63 11,UA 64 (b .add d (t 63) (k (i j 1))),MA 11 64]))
def c6l0:LCode:=q (q (r 0 [MA 42 9,FA 43 0 2,LA 44 43,UA 45 (n (t 44)),UA 46 (b .lss g (t 42) (t 45))]) (c (t 46) .skip (.exit 0))) (q (z 1 (q (r 1 [FA 49 0 2,
 (LA 50 49),MA 51 9,XA 52 3 50 51,SA 53 3 52,UA 10 (.alloc 0 (.agg #[i j 0,i j 0,i j 0])),WA 3 10 53]) (q (r 0 [CA 11 0])
 (z 2 (.loop c6l1))))) (r 0 [MA 47 9,UA 48 (b .add d (t 47) (k (i j 1))),MA 9 48]))
def c6:LCode:=(q (r 1 [UA 2 (u 0 (t 0)),UA 4 (m (k (y g)))]) (q (r 0 [SA 17 2 2,UA 18 (.call 8 [(t 17)]),MA 5 18]) (q (q (r 0 [MA 19 5,UA 20 (.not (t 19)),
 (MA 21 20),GA 22 (m (t 1)) 21 g,GA 23 (b .lss g (t 22) (k (i j 0))) 21 g,UA 24 (p (t 21) (k (y d)) (t 23)),MA 25 24,GA 26 (m (t 1)) 25 g,GA 27 (b .gtr g (t 26) (k (i j 1099511627776))) 25 g,
 (UA 28 (p (t 25) (k (y d)) (t 27))),MA 29 28,GA 30 (l (s 2) (t 2)) 29 g,GA 31 (.call 28 [(t 30)]) 29 g,GA 32 (b .gtr g (t 31) (k (i j 60))) 29 g,UA 33 (p (t 29) (k (y d)) (t 32))])
 (c (t 33) (q (r 0 [UA 34 (.call 9 []),MA 4 34]) .ret) .skip)) (q (r 1 [SA 36 2 2,UA 37 (.call 29 [(t 36)]),MA 35 37,UA 38 (.ext (t 35) 0),UA 39 (.ext (t 35) 1),
 (UA 6 (.alloc 0 (.agg #[i j 0,i j 0,.slice o 0 0,.slice o 0 0,.slice o 0 0]))),WA 5 6 38,MA 7 39]) (q (q (r 0 [MA 40 7,UA 41 (b .neq g (t 40) (k (i j 0)))]) (c (t 41)
 (q (r 0 [UA 4 (m (k (y g)))]) .ret) .skip)) (q (r 0 [UA 8 (m (k (.slice o 0 0)))]) (q (q (r 0 [CA 9 0]) (z 0 (.loop c6l0))) (q (r 0 [SA 117 2 2,MA 118 8,UA 119 (.call 23 [(t 117),(t 118)]),
 (MA 116 119),UA 120 (.ext (t 116) 0),UA 121 (.ext (t 116) 1),MA 15 120,MA 16 121]) (q (.tree 0 (h 0 (UA 122 (.call 9 [])) g (v 1 [2,3,4,5,6,7,8,9,10,11,12,13,14,15,16,17,18,19] (MA 123 122)
 (v 2 [3,4,5,6,7,8,9,10,11,12,13,14,15,16,17,18,19] (GA 124 (m (t 15)) 123 d) (v 3 [4,5,6,7,8,9,10,11,12,13,14,15,16,17,18,19] (GA 125 (b .eql g (t 124) (k (.int .i64 (-1)))) 123 d) (v 4 [5,6,7,8,9,10,11,12,13,14,15,16,17,18,19] (UA 126 (p (t 123) (t 125) (k (y g))))
 (v 5 [6,7,8,9,10,11,12,13,14,15,16,17,18,19] (MA 127 126) (v 6 [7,8,9,10,11,12,13,14,15,16,17,18,19] (GA 128 (m (t 16)) 127 d) (v 7 [8,9,10,11,12,13,14,15,16,17,18,19] (GA 129 (b .eql g (t 128) (k (i j 0))) 127 d)
 (v 8 [9,10,11,12,13,14,15,16,17,18,19] (UA 130 (p (t 127) (t 129) (k (y g)))) (v 9 [10,11,12,13,14,15,16,17,18,19] (MA 131 130) (v 10 [11,17,18,19] (GA 132 (m (t 8)) 131 d) (v 11 [17,18,19] (GA 133 (n (t 132)) 131 d)
 (v 12 [13,16,17,18,19] (GA 134 (l (s 2) (t 2)) 131 d) (v 14 [15,16,17,18,19] (GA 136 (f 0 (t 6)) 131 d) (v 15 [16,17,18,19] (GA 137 (l o (t 136)) 131 d) (h 13 (GA 135 (.call 28 [(t 134)]) 131 d) d
 (v 16 [17,18,19] (GA 138 (b .sub d (t 135) (t 137)) 131 d) (v 17 [18,19] (GA 139 (b .eql g (t 133) (t 138)) 131 d) (v 18 [19] (UA 140 (p (t 131) (t 139) (k (y g)))) (v 19 [] (MA 4 140) .done))))
 .none))))))))))))))) .none)) .ret)))))))))
def c23l0:LCode:=q (r 0 [UA 18 (b .lss g (t 17) (t 16))]) (q (c (t 18) .skip (.exit 0)) (q (z 1 (q (r 1 [MA 19 17,XA 20 24 15 17,SA 21 24 20,UA 9 (.alloc 0 (.agg #[i j 0,i j 0,i j 0,i j 0,.slice o 0 0,i j 0,i j 0,i j 0,.int .u8 0,.int .u8 0,.int .u8 0,.int .u8 0,.int .u8 0,.int .u8 0,.int .u8 0,.int .u8 0,.int .u8 0,.int .u8 0,.int .u8 0,.int .u8 0,.int .u8 0,.int .u8 0,.int .u8 0,.int .u8 0])),
 (MA 8 19),WA 24 9 21]) (q (q (r 0 [SA 22 2 2,SA 23 24 9,UA 24 (.call 14 [(t 22),(t 23)]),MA 10 24]) (q (r 0 [MA 25 10,UA 26 (b .neq g (t 25) (k (i j 0)))])
 (c (t 26) (q (r 0 [MA 27 8,MA 28 10,MA 4 27,MA 5 28]) .ret) .skip))) (q (r 1 [FA 29 0 9,LA 30 29,FA 31 1 9,LA 32 31,
 (UA 33 (.build [i j 0,i j 0] [(0,1,(t 30)),(1,1,(t 32))])),UA 11 (.alloc 0 (.agg #[i j 0,i j 0])),WA 2 11 33]) (q (z 2 (q (.qui 0 [FA 35 2 9,LA 36 35,MA 37 1,
 (UA 38 (x 24 (t 37) (k (i j 0)))),FA 39 2 38,LA 40 39,UA 41 (b .neq g (t 36) (t 40)),MA 34 41]) (c (t 34) (q (r 0 [MA 42 8,MA 4 42,CA 5 1])
 .ret) (q (r 0 [MA 44 7,SA 45 2 11,UA 46 (.eff (.look [(0,(.int .i64)),(1,(.int .i64))] (.bool g) g) 0 [(t 44),(t 45)]),MA 43 46]) (c (t 43) (q (r 0 [MA 47 8,
 (MA 4 47),CA 5 6]) .ret) (q (r 0 [MA 49 8,MA 50 6,FA 51 3 9,LA 52 51,UA 53 (b .sub d (t 50) (t 52)),UA 54 (b .geq g (t 49) (t 53)),
 (MA 48 54)]) (c (t 48) (q (r 0 [MA 55 8,MA 4 55,CA 5 4]) .ret) .skip))))))) (r 0 [MA 56 7,SA 57 2 11,⟨o,.eff (.mset [(0,(.int .i64)),(1,(.int .i64))]) 0 [(t 56),(t 57),(k (y d))],o⟩]))))))
 (r 0 [UA 58 (b .add d (t 17) (k (i j 1))),MA 17 58])))
def c23:LCode:=(q (r 1 [UA 2 (u 0 (t 0)),CA 4 0,CA 5 0]) (q (r 0 [SA 12 2 2,UA 13 (.call 55 [(t 12)]),MA 6 13]) (q (r 1 [UA 14 (.mkmap 0 o),
 (MA 7 14)]) (q (q (r 0 [MA 15 1,UA 16 (n (t 15)),CA 17 0]) (z 0 (.loop c23l0))) (q (r 0 [UA 4 (m (k (.int .i64 (-1)))),CA 5 0]) .ret)))))
def c29:LCode:=(q (r 2 [UA 1 (u 0 (t 0)),UA 2 (.alloc 1 (.agg #[i j 0,i j 0,.slice o 0 0,.slice o 0 0,.slice o 0 0])),CA 3 0]) (q (q (r 0 [SA 5 2 1,UA 6 (.call 65 [(t 5)]),
 (MA 4 6)]) (q (r 0 [MA 7 4,UA 8 (b .neq g (t 7) (k (i j 0)))]) (c (t 8) (q (r 0 [UA 9 (.build [i j 0,i j 0,.slice o 0 0,.slice o 0 0,.slice o 0 0] []),MA 10 4,WA 5 2 9,
 (MA 3 10)]) .ret) .skip))) (q (.tree 0 (v 0 [1,3,4,5,6,7,8] (SA 11 2 1) (v 2 [3,4,5,6,7,8] (SA 13 2 1) (h 1 (UA 12 (.call 51 [(t 11)])) d (h 3 (UA 14 (.call 55 [(t 13)])) g
 (h 4 (UA 15 (.call 66 [(t 12),(k (i j 0)),(k (i j 1)),(t 14)])) g (v 5 [7,8] (UA 16 (.ext (t 15) 0)) (v 6 [7,8] (UA 17 (.ext (t 15) 1)) (h 7 (WA 5 2 16) g (v 8 [] (MA 3 17) .done) .none)))
 .none) .none) .none)))) .ret)))
def c64l1:LCode:=q (q (r 0 [MA 29 5,MA 30 4,UA 31 (n (t 30)),UA 32 (b .lss g (t 29) (t 31))]) (c (t 32) .skip (.exit 2))) (q (z 3 (q (.qui 0 [MA 35 4,MA 36 5,
 (XA 37 1 35 36),LA 38 37,MA 39 4,MA 40 5,UA 41 (b .sub d (t 40) (k (i j 1))),XA 42 1 39 41,LA 43 42,UA 44 (b .neq g (t 38) (t 43))])
 (c (t 44) (q (r 0 [MA 45 0,MA 46 3,MA 47 4,MA 48 5,XA 49 1 47 48,LA 50 49,XA 51 1 45 46,WA 1 51 50]) (r 0 [
 (MA 52 3),UA 53 (b .add d (t 52) (k (i j 1))),MA 3 53])) .skip))) (r 0 [MA 33 5,UA 34 (b .add d (t 33) (k (i j 1))),MA 5 34]))
def c64l0:LCode:=q (q (r 0 [MA 10 3,MA 11 0,UA 12 (n (t 11)),UA 13 (b .lss g (t 10) (t 12))]) (c (t 13) .skip (.exit 0))) (q (z 1 (q (.qui 0 [MA 16 0,MA 17 3,
 (XA 18 1 16 17),LA 19 18,MA 20 0,MA 21 3,UA 22 (b .sub d (t 21) (k (i j 1))),XA 23 1 20 22,LA 24 23,UA 25 (b .eql g (t 19) (t 24))])
 (c (t 25) (q (r 0 [MA 26 0,MA 27 3,UA 28 (.slice 1 (t 26) (s (t 27)) o o),MA 4 28]) (q (q (r 0 [CA 5 1]) (z 2 (.loop c64l1))) (q (r 0 [MA 54 0,
 (MA 55 3),UA 56 (.slice 1 (t 54) (s (t 55)) o o),⟨o,.eff (.clr 1 [i j 0]) 0 [(t 56)],o⟩]) (q (r 0 [MA 57 0,MA 58 3,UA 59 (.slice 1 (t 57) o (s (t 58)) o),MA 2 59])
 .ret)))) .skip))) (r 0 [MA 14 3,UA 15 (b .add d (t 14) (k (i j 1))),MA 3 15]))
def c64:LCode:=(q (r 0 [UA 2 (m (k (.slice o 0 0)))]) (q (q (r 0 [MA 6 0,UA 7 (n (t 6)),UA 8 (b .lss g (t 7) (k (i j 2)))]) (c (t 8) (q (r 0 [MA 9 0,MA 2 9]) .ret)
 .skip)) (q (q (r 0 [CA 3 1]) (z 0 (.loop c64l0))) (q (r 0 [MA 60 0,MA 2 60]) .ret))))
def c71l0:LCode:=q (r 0 [UA 12 (b .lss g (t 11) (t 10))]) (q (c (t 12) .skip (.exit 0)) (q (z 1 (q (r 0 [XA 13 1 9 11,LA 14 13,MA 5 14]) (q (r 0 [MA 15 3,
 (MA 16 5),UA 17 (n (t 16)),UA 18 (b .add d (t 15) (t 17)),MA 3 18]) (q (r 0 [MA 19 3,UA 20 (b .lss g (t 19) (k (i j 0)))]) (c (t 20) .bad .skip))))) (r 0 [UA 22 (b .add d (t 11) (k (i j 1))),
 (MA 11 22)])))
def c71l1:LCode:=q (r 0 [UA 28 (b .lss g (t 27) (t 26))]) (q (c (t 28) .skip (.exit 2)) (q (z 3 (q (r 0 [XA 29 1 25 27,LA 30 29,MA 8 30]) (r 1 [MA 31 6,
 (MA 32 8),UA 33 (.append 0 1 16 (t 31) (t 32)),MA 6 33]))) (r 0 [UA 34 (b .add d (t 27) (k (i j 1))),MA 27 34])))
def c71:LCode:=(q (r 0 [UA 2 (m (k (.slice o 0 0)))]) (q (r 0 [CA 3 0]) (q (q (r 0 [MA 9 0,UA 10 (n (t 9)),CA 11 0]) (z 0 (.loop c71l0))) (q (r 0 [MA 23 3,
 (UA 24 (.call 100 [(k (.slice o 0 0)),(t 23)])),MA 6 24]) (q (q (r 0 [MA 25 0,UA 26 (n (t 25)),CA 27 0]) (z 2 (.loop c71l1))) (q (r 0 [MA 35 6,MA 2 35])
 .ret))))))
def c77l0:LCode:=q (r 0 [UA 12 (b .lss g (t 11) (t 10))]) (q (c (t 12) .skip (.exit 0)) (q (z 1 (q (r 1 [MA 13 11,XA 14 3 9 11,SA 15 3 14,UA 7 (.alloc 0 (.agg #[i j 0,i j 0,i j 0])),
 (MA 6 13),WA 3 7 15]) (q (r 0 [FA 16 0 7,LA 17 16,MA 18 1,UA 19 (b .eql g (t 17) (t 18))]) (c (t 19) (r 2 [MA 20 5,MA 21 6,UA 22 (.lits 0 1 1 [i j 0] [(0,(t 21))]),
 (UA 23 (.append 1 1 8 (t 20) (t 22))),MA 5 23]) .skip)))) (r 0 [UA 24 (b .add d (t 11) (k (i j 1))),MA 11 24])))
def c77:LCode:=(q (r 1 [UA 2 (u 0 (t 0)),UA 4 (m (k (.slice o 0 0)))]) (q (r 0 [UA 5 (m (k (.slice o 0 0)))]) (q (q (r 0 [FA 8 0 2,LA 9 8,UA 10 (n (t 9)),CA 11 0])
 (z 0 (.loop c77l0))) (q (r 0 [MA 25 5,MA 4 25]) .ret))))
def c83l0:LCode:=q (r 0 [UA 15 (b .lss g (t 14) (t 13))]) (q (c (t 15) .skip (.exit 0)) (q (z 1 (q (r 0 [XA 16 1 12 14,LA 17 16,MA 6 17]) (r 0 [MA 18 4,
 (MA 19 6),XA 20 1 18 19,⟨o,w 1 (t 20) (k (y d)),o⟩]))) (r 0 [UA 21 (b .add d (t 14) (k (i j 1))),MA 14 21])))
def c83l1:LCode:=q (r 0 [UA 26 (b .lss g (t 25) (t 24))]) (q (c (t 26) .skip (.exit 2)) (q (z 3 (q (r 1 [MA 27 25,XA 28 4 23 25,SA 29 4 28,UA 8 (.alloc 0 (.agg #[i j 0,i j 0,i j 0,i j 0])),
 (MA 7 27),WA 4 8 29]) (q (.yreg 0 0 [MA 30 4,FA 31 0 8,LA 32 31,XA 33 1 30 32,LA 34 33,MA 35 34,GA 36 (m (t 4)) 35 d,
 (GA 37 (f 1 (t 8)) 35 d),GA 38 (l o (t 37)) 35 d,GA 39 (x 1 (t 36) (t 38)) 35 d,GA 40 (l o (t 39)) 35 d,GA 41 (.not (t 40)) 35 d,UA 42 (p (t 35) (t 41) (k (y g))),MA 43 42,
 (GA 44 (m (t 0)) 43 d),GA 45 (m (t 7)) 43 d,GA 46 (l (s 4) (t 8)) 43 d,GA 47 (.yld (t 44) [(t 45),(t 46)]) 43 d,GA 48 (.not (t 47)) 43 d,UA 49 (p (t 43) (t 48) (k (y g)))])
 (c (t 49) .ret .skip)))) (r 0 [UA 50 (b .add d (t 25) (k (i j 1))),MA 25 50])))
def c83:LCode:=(q (r 1 [FA 9 0 1,LA 10 9,UA 11 (.mk 0 1 1 [.bool g] (t 10) (t 10)),MA 4 11]) (q (q (r 0 [LA 12 2,UA 13 (n (t 12)),CA 14 0])
 (z 0 (.loop c83l0))) (q (r 0 [FA 22 1 1,LA 23 22,UA 24 (n (t 23)),CA 25 0]) (z 2 (.loop c83l1)))))
def c123l0:LCode:=q (q (.qui 0 [MA 33 6,UA 34 (b .gtr g (t 33) (k (i j 0))),MA 35 34,GA 36 (m (t 0)) 35 d,GA 37 (.nilc (t 36)) 35 d,GA 38 (f 0 (t 37)) 35 d,
 (GA 39 (l o (t 38)) 35 d),GA 40 (m (t 6)) 35 d,GA 41 (x 1 (t 39) (t 40)) 35 d,GA 42 (l o (t 41)) 35 d,GA 43 (m (t 0)) 35 d,GA 44 (.nilc (t 43)) 35 d,GA 45 (f 0 (t 44)) 35 d,
 (GA 46 (l o (t 45)) 35 d),GA 47 (m (t 6)) 35 d,GA 48 (b .sub d (t 47) (k (i j 1))) 35 d,GA 49 (b .quo d (t 48) (k (i j 2))) 35 d,GA 50 (x 1 (t 46) (t 49)) 35 d,GA 51 (l o (t 50)) 35 d,
 (GA 52 (b .lss g (t 42) (t 51)) 35 d),UA 53 (p (t 35) (t 52) (k (y g)))]) (c (t 53) .skip (.exit 0))) (q (z 1 (r 0 [MA 57 0,MA 58 6,MA 59 6,UA 60 (b .sub d (t 59) (k (i j 1))),
 (UA 61 (b .quo d (t 60) (k (i j 2)))),UA 62 (.call 145 [(t 57),(t 58),(t 61)])])) (r 0 [MA 54 6,UA 55 (b .sub d (t 54) (k (i j 1))),UA 56 (b .quo d (t 55) (k (i j 2))),MA 6 56]))
def c123:LCode:=(q (.tree 4 (v 0 [16,17,18,19,20,21] (MA 7 0) (v 1 [19,20,21] (MA 8 0) (v 2 [3,4,5,8,15,16,17,18,19,20,21] (MA 9 0) (v 3 [4,5,8,15,16,17,18,19,20,21] (UA 10 (.nilc (t 9)))
 (v 4 [5,8,15,16,17,18,19,20,21] (FA 11 0 10) (v 5 [8,15,16,17,18,19,20,21] (LA 12 11) (v 6 [7,8,15,16,17,18,19,20,21] (MA 13 1) (v 9 [10,11,12,15,16,17,18,19,20,21] (MA 16 0)
 (v 10 [11,12,15,16,17,18,19,20,21] (UA 17 (.nilc (t 16))) (v 11 [12,15,16,17,18,19,20,21] (FA 18 1 17) (v 12 [15,16,17,18,19,20,21] (LA 19 18) (v 13 [14,15,16,17,18,19,20,21] (MA 20 2)
 (h 7 (UA 14 (.lits 0 1 1 [i j 0] [(0,(t 13))])) d (h 8 (UA 15 (.append 1 1 8 (t 12) (t 14))) d (h 14 (UA 21 (.lits 2 1 1 [i j 0] [(0,(t 20))])) d (h 15 (UA 22 (.append 3 1 8 (t 19) (t 21))) g (v 16 [17,18,19,20,21] (UA 23 (.nilc (t 7)))
 (v 17 [18,19,20,21] (FA 24 0 23) (h 18 (WA 1 24 15) g (v 19 [20,21] (UA 25 (.nilc (t 8))) (v 20 [21] (FA 26 1 25) (h 21 (WA 1 26 22) g .done .none))) .none))) .none)
 .none) (h 14 (UA 21 (.lits 2 1 1 [i j 0] [(0,(t 20))])) d (h 8 (UA 15 (.append 1 1 8 (t 12) (t 14))) d (h 15 (UA 22 (.append 3 1 8 (t 19) (t 21))) g (v 16 [17,18,19,20,21] (UA 23 (.nilc (t 7))) (v 17 [18,19,20,21] (FA 24 0 23)
 (h 18 (WA 1 24 15) g (v 19 [20,21] (UA 25 (.nilc (t 8))) (v 20 [21] (FA 26 1 25) (h 21 (WA 1 26 22) g .done .none))) .none))) .none) .none) .none)) (h 14 (UA 21 (.lits 2 1 1 [i j 0] [(0,(t 20))])) d
 (h 7 (UA 14 (.lits 0 1 1 [i j 0] [(0,(t 13))])) d (h 8 (UA 15 (.append 1 1 8 (t 12) (t 14))) d (h 15 (UA 22 (.append 3 1 8 (t 19) (t 21))) g (v 16 [17,18,19,20,21] (UA 23 (.nilc (t 7))) (v 17 [18,19,20,21] (FA 24 0 23)
 (h 18 (WA 1 24 15) g (v 19 [20,21] (UA 25 (.nilc (t 8))) (v 20 [21] (FA 26 1 25) (h 21 (WA 1 26 22) g .done .none))) .none))) .none) .none) .none) .none))))))))))))))) (q (r 0 [
 (MA 27 0),UA 28 (.nilc (t 27)),FA 29 0 28,LA 30 29,UA 31 (n (t 30)),UA 32 (b .sub d (t 31) (k (i j 1))),MA 6 32]) (z 0 (.loop c123l0))))
def c125:LCode:=(q (r 2 [UA 2 (u 0 (t 0)),UA 3 (u 1 (t 1)),UA 4 (m (k (.nilFunc)))]) (q (r 0 [UA 5 (.fn 146 [(t 2),(t 3)]),MA 4 5]) .ret))
def c156:LCode:=(q (r 0 [UA 4 (m (k (.int .u32 0)))]) (q (r 0 [MA 6 1,UA 7 (.conv g .u64 (t 6)),UA 8 (b .and g (t 7) (k (.int .u64 31))),MA 5 8]) (q (r 0 [MA 9 0,
 (MA 10 5),UA 11 (.shift .shl (t 9) (t 10)),MA 12 0,MA 13 5,UA 14 (b .sub g (k (.int .u64 32)) (t 13)),UA 15 (.shift .shr (t 12) (t 14)),UA 16 (b .or g (t 11) (t 15)),
 (MA 4 16)]) .ret)))
open Go Go.Fx Go.Proofs
theorem lw6:rlF Tryz.prog 6 c6=some (c6,[.tmp 4],141):=by kernel_rfl
theorem lw23:rlF Tryz.prog 23 c23=some (c23,[.tmp 4,.tmp 5],59):=by kernel_rfl
theorem lw29:rlF Tryz.prog 29 c29=some (c29,[.cell 2 (some 5),.tmp 3],18):=by kernel_rfl
theorem lw64:rlF Tryz.prog 64 c64=some (c64,[.tmp 2],61):=by kernel_rfl
theorem lw71:rlF Tryz.prog 71 c71=some (c71,[.tmp 2],36):=by kernel_rfl
theorem lw77:rlF Tryz.prog 77 c77=some (c77,[.tmp 4],26):=by kernel_rfl
theorem lw83:rlF Tryz.prog 83 c83=some (c83,[],51):=by kernel_rfl
theorem lw123:rlF Tryz.prog 123 c123=some (c123,[],63):=by kernel_rfl
theorem lw125:rlF Tryz.prog 125 c125=some (c125,[.tmp 4],6):=by kernel_rfl
theorem lw156:rlF Tryz.prog 156 c156=some (c156,[.tmp 4],17):=by kernel_rfl
end Go.Fx.E
namespace Go.Fx.E
open Go Go.Fx
open Go.Operand renaming tmp → t, const → k
open Go.Value renaming int → i, bool → y
open Go.IntKind renaming i64 → j
open Option renaming some → s, none → o
open Go.Fx.LOp renaming mov → m, load → l, fld → f, bin → b, idx → x, store → w, pick → p, len → n, box → u
open Go.Fx.LCode renaming seq → q, reg → r, cond → c, block → z
open Go.Fx.LPlan renaming take → v, alt → h
open Bool renaming false → g, true → d
def c10:LCode:=(q (r 5 [UA 7 (u 0 (t 0)),UA 8 (u 1 (t 1)),UA 9 (u 2 (t 2)),UA 13 (u 3 (t 6)),UA 14 (.alloc 4 (.agg #[i j 0,i j 0,i j 0,i j 0,.slice o 0 0,i j 0,i j 0,i j 0,.int .u8 0,.int .u8 0,.int .u8 0,.int .u8 0,.int .u8 0,.int .u8 0,.int .u8 0,.int .u8 0,.int .u8 0,.int .u8 0,.int .u8 0,.int .u8 0,.int .u8 0,.int .u8 0,.int .u8 0,.int .u8 0])),
 (CA 15 0)]) (q (r 1 [SA 20 2 8,MA 21 3,UA 22 (.call 34 [(t 20),(t 21)]),MA 19 22,UA 23 (.ext (t 19) 0),UA 24 (.ext (t 19) 1),UA 16 (.alloc 0 (.agg #[i j 0,i j 0,i j 0])),
 (WA 3 16 23),MA 17 24]) (q (z 0 (q (r 0 [MA 26 17,UA 27 (.not (t 26)),MA 28 27,GA 29 (l (s 5) (t 7)) 28 g,GA 30 (.call 35 [(t 29)]) 28 g,GA 31 (.not (t 30)) 28 g,
 (UA 32 (p (t 28) (k (y d)) (t 31))),MA 33 32,GA 34 (f 0 (t 7)) 33 g,GA 35 (l o (t 34)) 33 g,GA 36 (f 1 (t 16)) 33 g,GA 37 (l o (t 36)) 33 g,GA 38 (b .add d (k (i j 1000)) (t 37)) 33 g,
 (GA 39 (b .neq g (t 35) (t 38)) 33 g),UA 40 (p (t 33) (k (y d)) (t 39)),MA 41 40,GA 42 (l (s 2) (t 13)) 41 g,GA 43 (.call 36 [(t 42)]) 41 g,GA 44 (.not (t 43)) 41 g,UA 45 (p (t 41) (k (y d)) (t 44)),
 (MA 46 45),GA 47 (m (t 5)) 46 g,GA 48 (.call 37 [(t 47)]) 46 g,GA 49 (.not (t 48)) 46 g,UA 50 (p (t 46) (k (y d)) (t 49)),MA 51 50,GA 52 (m (t 4)) 51 g,GA 53 (b .lss g (t 52) (k (i j 0))) 51 g,
 (UA 54 (p (t 51) (k (y d)) (t 53))),MA 55 54,GA 56 (m (t 4)) 55 g,GA 57 (f 2 (t 16)) 55 g,GA 58 (l o (t 57)) 55 g,GA 59 (b .geq g (t 56) (t 58)) 55 g,UA 60 (p (t 55) (k (y d)) (t 59)),
 (MA 25 60)]) (c (t 25) (q (r 0 [UA 61 (.build [i j 0,i j 0,i j 0,i j 0,.slice o 0 0,i j 0,i j 0,i j 0,.int .u8 0,.int .u8 0,.int .u8 0,.int .u8 0,.int .u8 0,.int .u8 0,.int .u8 0,.int .u8 0,.int .u8 0,.int .u8 0,.int .u8 0,.int .u8 0,.int .u8 0,.int .u8 0,.int .u8 0,.int .u8 0] []),
 (WA 24 14 61),CA 15 1]) .ret) (q (r 0 [SA 63 2 8,SA 64 5 9,UA 65 (.call 38 [(t 63),(t 64)]),UA 66 (b .neq g (t 65) (k (i j 0))),MA 62 66])
 (c (t 62) (q (r 0 [UA 67 (.build [i j 0,i j 0,i j 0,i j 0,.slice o 0 0,i j 0,i j 0,i j 0,.int .u8 0,.int .u8 0,.int .u8 0,.int .u8 0,.int .u8 0,.int .u8 0,.int .u8 0,.int .u8 0,.int .u8 0,.int .u8 0,.int .u8 0,.int .u8 0,.int .u8 0,.int .u8 0,.int .u8 0,.int .u8 0] []),
 (WA 24 14 67),CA 15 110]) .ret) (q (r 0 [MA 69 4,SA 70 2 8,SA 71 5 9,MA 72 3,UA 73 (.call 31 [(t 70),(t 71),(t 72)]),UA 74 (b .lss g (t 69) (t 73)),
 (MA 68 74)]) (c (t 68) (q (r 0 [UA 75 (.build [i j 0,i j 0,i j 0,i j 0,.slice o 0 0,i j 0,i j 0,i j 0,.int .u8 0,.int .u8 0,.int .u8 0,.int .u8 0,.int .u8 0,.int .u8 0,.int .u8 0,.int .u8 0,.int .u8 0,.int .u8 0,.int .u8 0,.int .u8 0,.int .u8 0,.int .u8 0,.int .u8 0,.int .u8 0] []),
 (WA 24 14 75),CA 15 4]) .ret) .skip))))))) (q (.tree 1 (v 0 [11,13] (MA 76 3) (v 1 [11,13] (MA 77 4) (v 2 [11,13] (MA 78 5) (v 3 [4,11,13] (FA 79 0 9)
 (v 4 [11,13] (LA 80 79) (v 5 [6,7,11,13] (FA 81 4 9) (v 6 [7,11,13] (LA 82 81) (v 8 [11,13] (SA 84 2 13) (v 9 [10,11,13] (FA 85 1 7) (v 10 [11,13] (LA 86 85)
 (h 7 (UA 83 (.call 39 [(t 82)])) d (v 11 [13] (UA 87 (.build [i j 0,i j 0,i j 0,i j 0,.slice o 0 0,i j 0,i j 0,i j 0,.int .u8 0,.int .u8 0,.int .u8 0,.int .u8 0,.int .u8 0,.int .u8 0,.int .u8 0,.int .u8 0,.int .u8 0,.int .u8 0,.int .u8 0,.int .u8 0,.int .u8 0,.int .u8 0,.int .u8 0,.int .u8 0] [(0,1,(t 76)),(1,1,(t 77)),(2,1,(t 78)),(3,1,(t 80)),(4,1,(t 83)),(5,2,(t 84)),(7,1,(t 86))]))
 (h 12 (UA 18 (.alloc 0 (.agg #[i j 0,i j 0,i j 0,i j 0,.slice o 0 0,i j 0,i j 0,i j 0,.int .u8 0,.int .u8 0,.int .u8 0,.int .u8 0,.int .u8 0,.int .u8 0,.int .u8 0,.int .u8 0,.int .u8 0,.int .u8 0,.int .u8 0,.int .u8 0,.int .u8 0,.int .u8 0,.int .u8 0,.int .u8 0]))) d
 (h 13 (WA 24 18 87) g .done .none) .none)) (h 12 (UA 18 (.alloc 0 (.agg #[i j 0,i j 0,i j 0,i j 0,.slice o 0 0,i j 0,i j 0,i j 0,.int .u8 0,.int .u8 0,.int .u8 0,.int .u8 0,.int .u8 0,.int .u8 0,.int .u8 0,.int .u8 0,.int .u8 0,.int .u8 0,.int .u8 0,.int .u8 0,.int .u8 0,.int .u8 0,.int .u8 0,.int .u8 0]))) d
 (h 7 (UA 83 (.call 39 [(t 82)])) d (v 11 [13] (UA 87 (.build [i j 0,i j 0,i j 0,i j 0,.slice o 0 0,i j 0,i j 0,i j 0,.int .u8 0,.int .u8 0,.int .u8 0,.int .u8 0,.int .u8 0,.int .u8 0,.int .u8 0,.int .u8 0,.int .u8 0,.int .u8 0,.int .u8 0,.int .u8 0,.int .u8 0,.int .u8 0,.int .u8 0,.int .u8 0] [(0,1,(t 76)),(1,1,(t 77)),(2,1,(t 78)),(3,1,(t 80)),(4,1,(t 83)),(5,2,(t 84)),(7,1,(t 86))]))
 (h 13 (WA 24 18 87) g .done .none)) .none) .none))))))))))))) (q (.tree 0 (v 0 [3,4,5] (SA 88 5 7) (v 1 [2,3,4,5] (SA 89 24 18) (h 2 (UA 90 (.call 41 [(t 89)])) d (h 3 (UA 91 (.call 40 [(t 88),(k (i j 410)),(t 90)])) g
 (v 4 [5] (FA 92 8 18) (h 5 (WA 16 92 91) g .done .none)) .none) .none)))) (q (r 0 [SA 93 24 18,WA 24 14 93,CA 15 0]) .ret))))))
def c14:LCode:=(q (r 2 [UA 2 (u 0 (t 0)),UA 3 (u 1 (t 1)),CA 4 0]) (q (r 1 [SA 10 2 2,FA 11 0 3,LA 12 11,UA 13 (.call 34 [(t 10),(t 12)]),
 (MA 9 13),UA 14 (.ext (t 9) 0),UA 15 (.ext (t 9) 1),UA 5 (.alloc 0 (.agg #[i j 0,i j 0,i j 0])),WA 3 5 14,MA 6 15]) (q (z 0 (q (r 0 [MA 17 6,UA 18 (.not (t 17)),
 (MA 16 18)]) (c (t 16) (q (r 0 [CA 4 5]) .ret) (q (r 0 [FA 20 1 3,LA 21 20,UA 22 (b .lss g (t 21) (k (i j 0))),MA 23 22,GA 24 (f 1 (t 3)) 23 g,
 (GA 25 (l o (t 24)) 23 g),GA 26 (f 2 (t 5)) 23 g,GA 27 (l o (t 26)) 23 g,GA 28 (b .geq g (t 25) (t 27)) 23 g,UA 29 (p (t 23) (k (y d)) (t 28)),MA 30 29,GA 31 (f 2 (t 3)) 30 g,
 (GA 32 (l o (t 31)) 30 g),GA 33 (.call 37 [(t 32)]) 30 g,GA 34 (.not (t 33)) 30 g,UA 35 (p (t 30) (k (y d)) (t 34)),MA 19 35]) (c (t 19) (q (r 0 [CA 4 1]) .ret)
 .skip))))) (q (r 1 [SA 36 2 2,UA 37 (.call 51 [(t 36)]),UA 7 (.alloc 0 (.agg #[i j 0,.slice o 0 0])),WA 2 7 37]) (q (r 0 [UA 38 (.fn 52 [(t 7),(t 3),(t 2)]),MA 8 38])
 (q (q (r 0 [MA 39 8,UA 40 (.callv (t 39) []),UA 41 (.not (t 40))]) (c (t 41) (q (r 0 [CA 4 110]) .ret) .skip)) (q (r 0 [CA 4 0]) .ret)))))))
def c34:LCode:=(q (r 2 [UA 2 (u 0 (t 0)),UA 4 (.alloc 1 (.agg #[i j 0,i j 0,i j 0])),UA 5 (m (k (y g)))]) (q (q (r 0 [MA 6 1,UA 7 (b .lss g (t 6) (k (i j 0))),MA 8 7,GA 9 (m (t 1)) 8 g,
 (GA 10 (f 0 (t 2)) 8 g),GA 11 (l o (t 10)) 8 g,GA 12 (n (t 11)) 8 g,GA 13 (b .geq g (t 9) (t 12)) 8 g,UA 14 (p (t 8) (k (y d)) (t 13)),MA 15 14,GA 16 (f 0 (t 2)) 15 g,
 (GA 17 (l o (t 16)) 15 g),GA 18 (m (t 1)) 15 g,GA 19 (x 3 (t 17) (t 18)) 15 g,GA 20 (f 0 (t 19)) 15 g,GA 21 (l o (t 20)) 15 g,GA 22 (b .neq g (t 21) (k (i j 1))) 15 g,
 (UA 23 (p (t 15) (k (y d)) (t 22)))]) (c (t 23) (q (r 0 [UA 24 (.build [i j 0,i j 0,i j 0] []),WA 3 4 24,UA 5 (m (k (y g)))]) .ret) .skip)) (q (r 0 [FA 25 0 2,LA 26 25,
 (MA 27 1),XA 28 3 26 27,SA 29 3 28,WA 3 4 29,UA 5 (m (k (y d)))]) .ret)))
def c41:LCode:=(q (r 1 [UA 1 (u 0 (t 0)),UA 2 (m (k (.slice o 0 0)))]) (q (.tree 2 (v 0 [1,16,17,18,21,22,23,24] (FA 3 0 1) (v 1 [16,17,18,21,22,23,24] (LA 4 3) (v 2 [3,16,17,18,21,22,23,24] (FA 5 1 1)
 (v 3 [16,17,18,21,22,23,24] (LA 6 5) (v 4 [5,16,17,18,21,22,23,24] (FA 7 2 1) (v 5 [16,17,18,21,22,23,24] (LA 8 7) (v 6 [7,16,17,18,21,22,23,24] (FA 9 3 1) (v 7 [16,17,18,21,22,23,24] (LA 10 9)
 (v 8 [9,10,16,17,18,21,22,23,24] (FA 11 5 1) (v 9 [10,16,17,18,21,22,23,24] (FA 12 0 11) (v 10 [16,17,18,21,22,23,24] (LA 13 12) (v 11 [12,13,16,17,18,21,22,23,24] (FA 14 5 1)
 (v 12 [13,16,17,18,21,22,23,24] (FA 15 1 14) (v 13 [16,17,18,21,22,23,24] (LA 16 15) (v 14 [15,16,17,18,21,22,23,24] (FA 17 7 1) (v 15 [16,17,18,21,22,23,24] (LA 18 17)
 (v 19 [20,21,22,23,24] (FA 22 4 1) (v 20 [21,22,23,24] (LA 23 22) (h 16 (UA 19 (.lits 0 1 7 [i j 0] [(0,(t 4)),(1,(t 6)),(2,(t 8)),(3,(t 10)),(4,(t 13)),(5,(t 16)),(6,(t 18))])) d (h 17 (UA 20 (.call 72 [(t 19)])) d
 (h 18 (UA 21 (.eff .b2s 0 [(t 20)])) d (h 21 (UA 24 (.call 72 [(t 23)])) g (h 22 (UA 25 (.eff .b2s 0 [(t 24)])) g (h 23 (UA 26 (.lits 1 1 2 [.string ⟨#[]⟩] [(0,(t 21)),(1,(t 25))])) g (v 24 [] (MA 2 26)
 .done) .none) .none) .none) (h 21 (UA 24 (.call 72 [(t 23)])) g (h 18 (UA 21 (.eff .b2s 0 [(t 20)])) d (h 22 (UA 25 (.eff .b2s 0 [(t 24)])) g (h 23 (UA 26 (.lits 1 1 2 [.string ⟨#[]⟩] [(0,(t 21)),(1,(t 25))])) g
 (v 24 [] (MA 2 26) .done) .none) .none) (h 22 (UA 25 (.eff .b2s 0 [(t 24)])) g (h 18 (UA 21 (.eff .b2s 0 [(t 20)])) d (h 23 (UA 26 (.lits 1 1 2 [.string ⟨#[]⟩] [(0,(t 21)),(1,(t 25))])) g (v 24 [] (MA 2 26)
 .done) .none) .none) .none)) .none)) .none) .none)))))))))))))))))))) .ret))
def c55:LCode:=(q (r 1 [UA 1 (u 0 (t 0)),CA 2 0]) (q (r 0 [CA 3 0]) (q (q (r 0 [SA 6 2 1,UA 7 (.call 77 [(t 6),(k (i j 1))]),UA 8 (n (t 7)),CA 9 0])
 (z 0 (.loop (q (r 0 [UA 10 (b .lss g (t 9) (t 8))]) (q (c (t 10) .skip (.exit 0)) (q (z 1 (q (r 0 [XA 11 1 7 9,LA 12 11,MA 5 12]) (r 0 [MA 13 3,FA 14 0 1,
 (LA 15 14),MA 16 5,XA 17 3 15 16,FA 18 2 17,LA 19 18,UA 20 (b .add d (t 13) (t 19)),MA 3 20]))) (r 0 [UA 21 (b .add d (t 9) (k (i j 1))),
 (MA 9 21)]))))))) (q (r 0 [MA 22 3,MA 2 22]) .ret))))
def c56:LCode:=(q (r 0 [UA 4 (m (k (y g)))]) (q (r 0 [MA 5 0,MA 6 1,UA 7 (.call 78 [(t 5),(t 6)]),UA 8 (b .geq g (t 7) (k (i j 0))),MA 4 8]) .ret))
def c68:LCode:=(q (r 2 [UA 2 (u 0 (t 0)),UA 3 (u 1 (t 1)),UA 4 (m (k (y g)))]) (q (r 0 [FA 6 0 2,LA 7 6,UA 8 (n (t 7)),MA 5 8]) (q (q (r 0 [FA 9 0 3,
 (LA 10 9),UA 11 (b .lss g (t 10) (k (i j 0))),MA 12 11,GA 13 (f 0 (t 3)) 12 g,GA 14 (l o (t 13)) 12 g,GA 15 (m (t 5)) 12 g,GA 16 (b .geq g (t 14) (t 15)) 12 g,
 (UA 17 (p (t 12) (k (y d)) (t 16))),MA 18 17,GA 19 (f 1 (t 3)) 18 g,GA 20 (l o (t 19)) 18 g,GA 21 (b .lss g (t 20) (k (i j 0))) 18 g,UA 22 (p (t 18) (k (y d)) (t 21)),MA 23 22,
 (GA 24 (f 1 (t 3)) 23 g),GA 25 (l o (t 24)) 23 g,GA 26 (m (t 5)) 23 g,GA 27 (b .geq g (t 25) (t 26)) 23 g,UA 28 (p (t 23) (k (y d)) (t 27)),MA 29 28,GA 30 (f 0 (t 3)) 29 g,
 (GA 31 (l o (t 30)) 29 g),GA 32 (f 1 (t 3)) 29 g,GA 33 (l o (t 32)) 29 g,GA 34 (b .eql g (t 31) (t 33)) 29 g,UA 35 (p (t 29) (k (y d)) (t 34)),MA 36 35,GA 37 (f 2 (t 3)) 36 g,
 (GA 38 (l o (t 37)) 36 g),GA 39 (b .lss g (t 38) (k (i j 0))) 36 g,UA 40 (p (t 36) (k (y d)) (t 39)),MA 41 40,GA 42 (f 2 (t 3)) 41 g,GA 43 (l o (t 42)) 41 g,GA 44 (b .gtr g (t 43) (k (i j 1073741824))) 41 g,
 (UA 45 (p (t 41) (k (y d)) (t 44))),MA 46 45,GA 47 (f 3 (t 3)) 46 g,GA 48 (l o (t 47)) 46 g,GA 49 (b .lss g (t 48) (k (i j 0))) 46 g,UA 50 (p (t 46) (k (y d)) (t 49)),MA 51 50,
 (GA 52 (f 3 (t 3)) 51 g),GA 53 (l o (t 52)) 51 g,GA 54 (b .gtr g (t 53) (k (i j 1048576))) 51 g,UA 55 (p (t 51) (k (y d)) (t 54))]) (c (t 55) (q (r 0 [UA 4 (m (k (y g)))]) .ret) .skip))
 (q (r 0 [FA 56 0 2,LA 57 56,FA 58 0 3,LA 59 58,XA 60 3 57 59,FA 61 0 60,LA 62 61,UA 63 (b .neq g (t 62) (k (i j 3))),
 (MA 64 63),GA 65 (f 0 (t 2)) 64 d,GA 66 (l o (t 65)) 64 d,GA 67 (f 1 (t 3)) 64 d,GA 68 (l o (t 67)) 64 d,GA 69 (x 3 (t 66) (t 68)) 64 d,GA 70 (f 0 (t 69)) 64 d,
 (GA 71 (l o (t 70)) 64 d),GA 72 (b .neq g (t 71) (k (i j 1))) 64 d,UA 73 (p (t 64) (t 72) (k (y g))),MA 4 73]) .ret))))
def c79:LCode:=(q (r 1 [UA 6 (.alloc 0 (.agg #[i j 0,i j 0,.string ⟨#[]⟩,i j 0,i j 0])),CA 7 0]) (q (q (r 0 [MA 11 0,MA 12 1,MA 13 2,UA 14 (.call 109 [(t 11),(t 12),(t 13)]),
 (MA 10 14),UA 15 (.ext (t 10) 0),UA 16 (.ext (t 10) 1),MA 8 15,MA 9 16]) (q (r 0 [MA 17 9]) (c (t 17) (q (r 0 [MA 18 0,MA 19 8,XA 20 5 18 19,
 (SA 21 5 20),WA 5 6 21,CA 7 0]) .ret) .skip))) (q (r 0 [UA 22 (.build [i j 0,i j 0,.string ⟨#[]⟩,i j 0,i j 0] []),WA 5 6 22,CA 7 5])
 .ret)))
def c130:LCode:=(q (r 0 [UA 2 (m (k (y g)))]) (q (r 0 [MA 3 0,UA 4 (b .lss g (t 3) (k (i j 0))),MA 5 4,GA 6 (m (t 0)) 5 g,GA 7 (b .gtr g (t 6) (k (i j 1073741824))) 5 g,
 (UA 8 (p (t 5) (k (y d)) (t 7))),MA 2 8]) .ret))
def c137:LCode:=(q (r 1 [UA 3 (u 0 (t 0)),CA 5 0]) (q (q (r 0 [FA 6 0 3,LA 7 6,MA 8 1,UA 9 (b .neq g (t 7) (t 8))]) (c (t 9) (q (r 0 [FA 10 0 3,
 (LA 11 10),MA 12 1,UA 13 (b .sub g (t 11) (t 12)),MA 5 13]) .ret) .skip)) (q (r 0 [FA 14 1 3,LA 15 14,LA 16 2,UA 17 (b .sub g (t 15) (t 16)),
 (MA 5 17)]) .ret)))
open Go Go.Fx Go.Proofs
theorem lw10:rlF Tryz.prog 10 c10=some (c10,[.cell 14 (some 24),.tmp 15],94):=by kernel_rfl
theorem lw14:rlF Tryz.prog 14 c14=some (c14,[.tmp 4],42):=by kernel_rfl
theorem lw34:rlF Tryz.prog 34 c34=some (c34,[.cell 4 (some 3),.tmp 5],30):=by kernel_rfl
theorem lw41:rlF Tryz.prog 41 c41=some (c41,[.tmp 2],27):=by kernel_rfl
theorem lw55:rlF Tryz.prog 55 c55=some (c55,[.tmp 2],23):=by kernel_rfl
theorem lw56:rlF Tryz.prog 56 c56=some (c56,[.tmp 4],9):=by kernel_rfl
theorem lw68:rlF Tryz.prog 68 c68=some (c68,[.tmp 4],74):=by kernel_rfl
theorem lw79:rlF Tryz.prog 79 c79=some (c79,[.cell 6 (some 5),.tmp 7],23):=by kernel_rfl
theorem lw130:rlF Tryz.prog 130 c130=some (c130,[.tmp 2],9):=by kernel_rfl
theorem lw137:rlF Tryz.prog 137 c137=some (c137,[.tmp 5],18):=by kernel_rfl
end Go.Fx.E
namespace Go.Fx.E
open Go Go.Fx
open Go.Operand renaming tmp → t, const → k
open Go.Value renaming int → i, bool → y
open Go.IntKind renaming i64 → j
open Option renaming some → s, none → o
open Go.Fx.LOp renaming mov → m, load → l, fld → f, bin → b, idx → x, store → w, pick → p, len → n, box → u
open Go.Fx.LCode renaming seq → q, reg → r, cond → c, block → z
open Go.Fx.LPlan renaming take → v, alt → h
open Bool renaming false → g, true → d
def c4l0:LCode:=q (q (r 0 [MA 39 9,MA 40 2,UA 41 (n (t 40)),UA 42 (b .lss g (t 39) (t 41))]) (c (t 42) .skip (.exit 0))) (q (z 1 (q (q (r 0 [MA 45 2,MA 46 9,
 (XA 47 24 45 46),FA 48 4 47,LA 49 48,UA 50 (n (t 49)),UA 51 (b .gtr g (t 50) (k (i j 40)))]) (c (t 51) (q (r 0 [UA 52 (.call 9 []),MA 6 52]) .ret) .skip))
 (q (q (.tree 0 (v 0 [5,11,12,13,14,15,16,17,18,19,20,21,22,23,24,25,26,27,28,29] (SA 53 2 4) (v 1 [3,4,5,11,12,13,14,15,16,17,18,19,20,21,22,23,24,25,26,27,28,29] (MA 54 2) (v 2 [3,4,5,11,12,13,14,15,16,17,18,19,20,21,22,23,24,25,26,27,28,29] (MA 55 9)
 (v 3 [4,5,11,12,13,14,15,16,17,18,19,20,21,22,23,24,25,26,27,28,29] (XA 56 24 54 55) (v 4 [5,11,12,13,14,15,16,17,18,19,20,21,22,23,24,25,26,27,28,29] (SA 57 24 56) (v 6 [11,12,13,14,15,16,17,18,19,20,21,22,23,24,25,26,27,28,29] (SA 59 2 4)
 (v 7 [9,10,11,12,13,14,15,16,17,18,19,20,21,22,23,24,25,26,27,28,29] (MA 60 2) (v 8 [9,10,11,12,13,14,15,16,17,18,19,20,21,22,23,24,25,26,27,28,29] (MA 61 9) (v 9 [10,11,12,13,14,15,16,17,18,19,20,21,22,23,24,25,26,27,28,29] (XA 62 24 60 61)
 (v 10 [11,12,13,14,15,16,17,18,19,20,21,22,23,24,25,26,27,28,29] (SA 63 24 62) (h 5 (UA 58 (.call 14 [(t 53),(t 57)])) d (h 11 (UA 64 (.call 15 [(t 59),(t 63)])) g (v 12 [13,14,15,16,17,18,19,20,21,22,23,24,25,26,27,28,29] (UA 65 (b .neq g (t 58) (t 64)))
 (v 13 [14,15,16,17,18,19,20,21,22,23,24,25,26,27,28,29] (MA 66 65) (v 14 [20,27,28,29] (GA 67 (m (t 0)) 66 g) (v 15 [20,27,28,29] (GA 68 (l (s 2) (t 4)) 66 g) (v 16 [18,19,20,27,28,29] (GA 69 (m (t 2)) 66 g)
 (v 17 [18,19,20,27,28,29] (GA 70 (m (t 9)) 66 g) (v 18 [19,20,27,28,29] (GA 71 (x 24 (t 69) (t 70)) 66 g) (v 19 [20,27,28,29] (GA 72 (l (s 24) (t 71)) 66 g) (v 21 [27,28,29] (GA 74 (m (t 0)) 66 g)
 (v 22 [27,28,29] (GA 75 (l (s 2) (t 4)) 66 g) (v 23 [25,26,27,28,29] (GA 76 (m (t 2)) 66 g) (v 24 [25,26,27,28,29] (GA 77 (m (t 9)) 66 g) (v 25 [26,27,28,29] (GA 78 (x 24 (t 76) (t 77)) 66 g)
 (v 26 [27,28,29] (GA 79 (l (s 24) (t 78)) 66 g) (h 20 (GA 73 (.call 16 [(t 67),(t 68),(t 72)]) 66 g) d (h 27 (GA 80 (.call 17 [(t 74),(t 75),(t 79)]) 66 g) g (v 28 [29] (GA 81 (b .neq g (t 73) (t 80)) 66 g)
 (v 29 [] (UA 82 (p (t 66) (k (y d)) (t 81))) .done)) .none) .none))))))))))))))) .none) .none)))))))))))) (c (t 82) (q (r 0 [UA 6 (m (k (y g)))]) .ret) .skip)) (q (.tree 0 (v 0 [6,7,8,9,10,11] (SA 84 2 4)
 (v 1 [3,4,5,6,7,8,9,10,11] (MA 85 2) (v 2 [3,4,5,6,7,8,9,10,11] (MA 86 9) (v 3 [4,5,6,7,8,9,10,11] (XA 87 24 85 86) (v 4 [5,6,7,8,9,10,11] (FA 88 4 87) (v 5 [6,7,8,9,10,11] (LA 89 88)
 (h 6 (UA 90 (.call 18 [(t 84),(t 89)])) g (v 7 [8,9,10,11] (MA 83 90) (v 8 [10,11] (UA 91 (.ext (t 83) 0)) (v 9 [11] (UA 92 (.ext (t 83) 1)) (v 10 [11] (MA 10 91) (v 11 [] (MA 11 92)
 .done))))) .none)))))))) (q (.tree 1 (v 0 [6,8] (SA 93 2 4) (v 1 [3,4,5,6,8] (MA 94 2) (v 2 [3,4,5,6,8] (MA 95 9) (v 3 [4,5,6,8] (XA 96 24 94 95) (v 4 [5,6,8] (FA 97 4 96)
 (v 5 [6,8] (LA 98 97) (h 6 (UA 99 (.call 19 [(t 93),(t 98)])) g (h 7 (UA 12 (.alloc 0 (.agg #[i j 0,i j 0]))) d (h 8 (WA 2 12 99) g .done .none) .none) (h 7 (UA 12 (.alloc 0 (.agg #[i j 0,i j 0]))) d
 (h 6 (UA 99 (.call 19 [(t 93),(t 98)])) g (h 8 (WA 2 12 99) g .done .none) .none) .none))))))))) (q (.tree 0 (v 0 [6,7,8,9,10,11] (SA 101 2 4) (v 1 [3,4,5,6,7,8,9,10,11] (MA 102 2)
 (v 2 [3,4,5,6,7,8,9,10,11] (MA 103 9) (v 3 [4,5,6,7,8,9,10,11] (XA 104 24 102 103) (v 4 [5,6,7,8,9,10,11] (FA 105 4 104) (v 5 [6,7,8,9,10,11] (LA 106 105) (h 6 (UA 107 (.call 20 [(t 101),(t 106)])) g
 (v 7 [8,9,10,11] (MA 100 107) (v 8 [10,11] (UA 108 (.ext (t 100) 0)) (v 9 [11] (UA 109 (.ext (t 100) 1)) (v 10 [11] (MA 13 108) (v 11 [] (MA 14 109) .done))))) .none)))))))) (q (.tree 1
 (v 0 [6,8] (SA 110 2 4) (v 1 [3,4,5,6,8] (MA 111 2) (v 2 [3,4,5,6,8] (MA 112 9) (v 3 [4,5,6,8] (XA 113 24 111 112) (v 4 [5,6,8] (FA 114 4 113) (v 5 [6,8] (LA 115 114)
 (h 6 (UA 116 (.call 21 [(t 110),(t 115)])) g (h 7 (UA 15 (.alloc 0 (.agg #[.slice o 0 0,.slice o 0 0]))) d (h 8 (WA 2 15 116) g .done .none) .none) (h 7 (UA 15 (.alloc 0 (.agg #[.slice o 0 0,.slice o 0 0]))) d
 (h 6 (UA 116 (.call 21 [(t 110),(t 115)])) g (h 8 (WA 2 15 116) g .done .none) .none) .none))))))))) (q (r 0 [MA 117 10,FA 118 0 12,LA 119 118,UA 120 (b .neq g (t 117) (t 119)),
 (MA 121 120),GA 122 (m (t 11)) 121 g,GA 123 (f 1 (t 12)) 121 g,GA 124 (l o (t 123)) 121 g,GA 125 (b .neq g (t 122) (t 124)) 121 g,UA 126 (p (t 121) (k (y d)) (t 125)),
 (MA 127 126),GA 128 (m (t 13)) 127 g,GA 129 (f 0 (t 15)) 127 g,GA 130 (l o (t 129)) 127 g,GA 131 (.call 22 [(t 128),(t 130)]) 127 g,GA 132 (.not (t 131)) 127 g,UA 133 (p (t 127) (k (y d)) (t 132)),
 (MA 134 133),GA 135 (m (t 14)) 134 g,GA 136 (f 1 (t 15)) 134 g,GA 137 (l o (t 136)) 134 g,GA 138 (.call 22 [(t 135),(t 137)]) 134 g,GA 139 (.not (t 138)) 134 g,UA 140 (p (t 134) (k (y d)) (t 139))])
 (c (t 140) (q (r 0 [UA 6 (m (k (y g)))]) .ret) .skip))))))))) (r 0 [MA 43 9,UA 44 (b .add d (t 43) (k (i j 1))),MA 9 44]))
def c4:LCode:=(q (r 1 [UA 4 (u 0 (t 1)),UA 6 (m (k (y g)))]) (q (r 0 [SA 19 2 4,UA 20 (.call 8 [(t 19)]),MA 7 20]) (q (q (r 0 [MA 21 7,UA 22 (.not (t 21)),
 (MA 23 22),GA 24 (m (t 0)) 23 g,GA 25 (n (t 24)) 23 g,GA 26 (b .gtr g (t 25) (k (i j 20))) 23 g,UA 27 (p (t 23) (k (y d)) (t 26)),MA 28 27,GA 29 (m (t 2)) 28 g,
 (GA 30 (n (t 29)) 28 g),GA 31 (b .gtr g (t 30) (k (i j 20))) 28 g,UA 32 (p (t 28) (k (y d)) (t 31))]) (c (t 32) (q (r 0 [UA 33 (.call 9 []),MA 6 33]) .ret) .skip)) (q (r 0 [MA 34 0,
 (UA 35 (.call 13 [(t 34)])),MA 8 35]) (q (q (r 0 [MA 36 8,UA 37 (.not (t 36))]) (c (t 37) (q (r 0 [UA 38 (.call 9 []),MA 6 38]) .ret) .skip)) (q (q (r 0 [CA 9 0])
 (z 0 (.loop c4l0))) (q (r 0 [SA 142 2 4,MA 143 2,UA 144 (.call 23 [(t 142),(t 143)]),MA 141 144,UA 145 (.ext (t 141) 0),UA 146 (.ext (t 141) 1),MA 16 145,
 (MA 17 146)]) (q (r 1 [SA 147 2 4,MA 148 2,UA 149 (.call 24 [(t 147),(t 148)]),UA 18 (.alloc 0 (.agg #[i j 0,i j 0])),WA 2 18 149]) (q (r 0 [UA 150 (.call 9 []),
 (MA 151 150),GA 152 (m (t 16)) 151 d,GA 153 (f 0 (t 18)) 151 d,GA 154 (l o (t 153)) 151 d,GA 155 (b .eql g (t 152) (t 154)) 151 d,UA 156 (p (t 151) (t 155) (k (y g))),
 (MA 157 156),GA 158 (m (t 17)) 157 d,GA 159 (f 1 (t 18)) 157 d,GA 160 (l o (t 159)) 157 d,GA 161 (b .eql g (t 158) (t 160)) 157 d,UA 162 (p (t 157) (t 161) (k (y g))),
 (MA 6 162)]) .ret)))))))))
def c7:LCode:=(q (r 2 [UA 2 (u 0 (t 0)),UA 3 (u 1 (t 1)),UA 4 (m (k (y g)))]) (q (r 0 [SA 8 2 2,UA 9 (.call 8 [(t 8)]),MA 5 9]) (q (q (r 0 [MA 10 5,UA 11 (.not (t 10)),
 (MA 12 11),GA 13 (f 4 (t 3)) 12 g,GA 14 (l o (t 13)) 12 g,GA 15 (n (t 14)) 12 g,GA 16 (b .gtr g (t 15) (k (i j 40))) 12 g,UA 17 (p (t 12) (k (y d)) (t 16))]) (c (t 17)
 (q (r 0 [UA 18 (.call 9 []),MA 4 18]) .ret) .skip)) (q (r 1 [SA 20 2 2,UA 21 (.call 29 [(t 20)]),MA 19 21,UA 22 (.ext (t 19) 0),UA 23 (.ext (t 19) 1),UA 6 (.alloc 0 (.agg #[i j 0,i j 0,.slice o 0 0,.slice o 0 0,.slice o 0 0])),
 (WA 5 6 22),MA 7 23]) (q (q (r 0 [MA 24 7,UA 25 (b .neq g (t 24) (k (i j 0)))]) (c (t 25) (q (r 0 [UA 4 (m (k (y g)))]) .ret) .skip)) (q (q (.tree 0 (v 0 [1,4] (FA 26 0 6)
 (v 1 [4] (LA 27 26) (v 2 [3,4] (SA 28 2 2) (h 3 (UA 29 (.call 28 [(t 28)])) d (v 4 [] (UA 30 (b .neq g (t 27) (t 29))) .done) .none))))) (c (t 30) (q (r 0 [UA 31 (.call 9 []),MA 4 31])
 .ret) .skip)) (q (r 0 [UA 32 (.call 9 []),MA 33 32,GA 34 (l (s 2) (t 2)) 33 d,GA 35 (l (s 24) (t 3)) 33 d,GA 36 (.call 14 [(t 34),(t 35)]) 33 d,GA 37 (b .neq g (t 36) (k (i j 0))) 33 d,
 (UA 38 (p (t 33) (t 37) (k (y g)))),MA 4 38]) .ret)))))))
def c8:LCode:=(q (r 1 [UA 1 (u 0 (t 0)),UA 2 (m (k (y g)))]) (q (r 0 [FA 3 0 1,LA 4 3,UA 5 (n (t 4)),UA 6 (b .leq g (t 5) (k (i j 6))),MA 7 6,GA 8 (f 1 (t 1)) 7 d,
 (GA 9 (l o (t 8)) 7 d),GA 10 (n (t 9)) 7 d,GA 11 (b .leq g (t 10) (k (i j 20))) 7 d,UA 12 (p (t 7) (t 11) (k (y g))),MA 13 12,GA 14 (l (s 2) (t 1)) 13 d,GA 15 (.call 32 [(t 14)]) 13 d,
 (GA 16 (b .eql g (t 15) (k (i j 0))) 13 d),UA 17 (p (t 13) (t 16) (k (y g))),MA 2 17]) .ret))
def c28l0:LCode:=q (q (r 0 [MA 5 4,FA 6 0 1,LA 7 6,UA 8 (n (t 7)),UA 9 (b .lss g (t 5) (t 8))]) (c (t 9) .skip (.exit 0))) (q (z 1 (q (r 0 [FA 12 0 1,
 (LA 13 12),MA 14 4,XA 15 3 13 14,FA 16 0 15,LA 17 16,UA 18 (b .eql g (t 17) (k (i j 1)))]) (c (t 18) (r 0 [MA 19 3,FA 20 0 1,
 (LA 21 20),MA 22 4,XA 23 3 21 22,FA 24 2 23,LA 25 24,UA 26 (b .add d (t 19) (t 25)),MA 3 26]) .skip))) (r 0 [MA 10 4,UA 11 (b .add d (t 10) (k (i j 1))),
 (MA 4 11)]))
def c28:LCode:=(q (r 1 [UA 1 (u 0 (t 0)),CA 2 0]) (q (r 0 [CA 3 0]) (q (q (r 0 [CA 4 0]) (z 0 (.loop c28l0))) (q (r 0 [MA 27 3,MA 2 27])
 .ret))))
def c30:LCode:=(q (r 1 [UA 2 (.alloc 0 (.agg #[i j 0,i j 0,.string ⟨#[]⟩,i j 0,i j 0]))]) (q (r 0 [MA 3 0,UA 4 (b .add d (k (i j 1000)) (t 3)),UA 5 (.build [i j 0,i j 0,.string ⟨#[]⟩,i j 0,i j 0] [(0,1,(t 4)),(1,1,(k (i j 1))),(2,1,(k (.string ⟨#[115]⟩))),(4,1,(k (i j 1099511627776)))]),
 (WA 5 2 5)]) .ret))
def c39:LCode:=(q (r 0 [UA 2 (m (k (.slice o 0 0)))]) (q (q (r 0 [MA 3 0,UA 4 (.eqn g (t 3) (k (.slice o 0 0)))]) (c (t 4) (q (r 0 [UA 2 (m (k (.slice o 0 0)))]) .ret) .skip)) (q (r 2 [
 (UA 5 (.lits 0 1 0 [i j 0] [])),MA 6 0,UA 7 (.append 1 1 8 (t 5) (t 6)),MA 2 7]) .ret)))
def c51l0:LCode:=q (r 0 [UA 22 (b .lss g (t 21) (t 20))]) (q (c (t 22) .skip (.exit 0)) (q (z 1 (q (r 1 [MA 23 21,XA 24 3 19 21,SA 25 3 24,UA 5 (.alloc 0 (.agg #[i j 0,i j 0,i j 0])),
 (MA 4 23),WA 3 5 25]) (r 2 [FA 26 1 3,LA 27 26,MA 28 4,UA 29 (b .mul d (k (i j 2)) (t 28)),UA 30 (b .add d (k (i j 2)) (t 29)),MA 31 4,
 (UA 32 (b .mul d (k (i j 2)) (t 31))),UA 33 (b .add d (k (i j 3)) (t 32)),FA 34 2 5,LA 35 34,UA 36 (.build [i j 0,i j 0,i j 0,i j 0] [(0,1,(t 30)),(1,1,(t 33)),(2,1,(t 35))]),
 (UA 37 (.lits 0 4 1 [i j 0,i j 0,i j 0,i j 0] [(0,(t 36))])),UA 38 (.append 1 4 32 (t 27) (t 37)),FA 39 1 3,WA 1 39 38]))) (r 0 [UA 40 (b .add d (t 21) (k (i j 1))),MA 21 40])))
def c51l1:LCode:=q (r 0 [UA 45 (b .lss g (t 44) (t 43))]) (q (c (t 45) .skip (.exit 2)) (q (z 3 (q (r 0 [XA 46 1 42 44,LA 47 46,MA 7 47]) (.tree 2 (v 0 [1,13,14,15] (FA 48 1 3)
 (v 1 [13,14,15] (LA 49 48) (v 2 [3,4,11,12,13,14,15] (MA 50 7) (v 3 [4,11,12,13,14,15] (UA 51 (b .mul d (k (i j 2)) (t 50))) (v 4 [11,12,13,14,15] (UA 52 (b .add d (k (i j 2)) (t 51))) (v 5 [6,8,9,10,11,12,13,14,15] (FA 53 0 1)
 (v 6 [8,9,10,11,12,13,14,15] (LA 54 53) (v 7 [8,9,10,11,12,13,14,15] (MA 55 7) (v 8 [9,10,11,12,13,14,15] (XA 56 3 54 55) (v 9 [10,11,12,13,14,15] (FA 57 2 56) (v 10 [11,12,13,14,15] (LA 58 57)
 (v 11 [12,13,14,15] (UA 59 (.build [i j 0,i j 0,i j 0,i j 0] [(1,1,(t 52)),(2,1,(t 58))])) (h 12 (UA 60 (.lits 0 4 1 [i j 0,i j 0,i j 0,i j 0] [(0,(t 59))])) d (h 13 (UA 61 (.append 1 4 32 (t 49) (t 60))) g
 (v 14 [15] (FA 62 1 3) (h 15 (WA 1 62 61) g .done .none)) .none) .none)))))))))))))))) (r 0 [UA 63 (b .add d (t 44) (k (i j 1))),MA 44 63])))
def c51l2:LCode:=q (r 0 [UA 68 (b .lss g (t 67) (t 66))]) (q (c (t 68) .skip (.exit 4)) (q (z 5 (q (r 0 [XA 69 1 65 67,LA 70 69,MA 9 70]) (.tree 2 (v 0 [1,13,14,15] (FA 71 1 3)
 (v 1 [13,14,15] (LA 72 71) (v 2 [3,4,11,12,13,14,15] (MA 73 9) (v 3 [4,11,12,13,14,15] (UA 74 (b .mul d (k (i j 2)) (t 73))) (v 4 [11,12,13,14,15] (UA 75 (b .add d (k (i j 3)) (t 74))) (v 5 [6,8,9,10,11,12,13,14,15] (FA 76 0 1)
 (v 6 [8,9,10,11,12,13,14,15] (LA 77 76) (v 7 [8,9,10,11,12,13,14,15] (MA 78 9) (v 8 [9,10,11,12,13,14,15] (XA 79 3 77 78) (v 9 [10,11,12,13,14,15] (FA 80 2 79) (v 10 [11,12,13,14,15] (LA 81 80)
 (v 11 [12,13,14,15] (UA 82 (.build [i j 0,i j 0,i j 0,i j 0] [(0,1,(t 75)),(1,1,(k (i j 1))),(2,1,(t 81))])) (h 12 (UA 83 (.lits 0 4 1 [i j 0,i j 0,i j 0,i j 0] [(0,(t 82))])) d (h 13 (UA 84 (.append 1 4 32 (t 72) (t 83))) g
 (v 14 [15] (FA 85 1 3) (h 15 (WA 1 85 84) g .done .none)) .none) .none)))))))))))))))) (r 0 [UA 86 (b .add d (t 67) (k (i j 1))),MA 67 86])))
def c51l3:LCode:=q (r 0 [UA 91 (b .lss g (t 90) (t 89))]) (q (c (t 91) .skip (.exit 6)) (q (z 7 (q (r 1 [XA 92 4 88 90,SA 93 4 92,UA 11 (.alloc 0 (.agg #[i j 0,i j 0,i j 0,i j 0])),
 (WA 4 11 93)]) (r 2 [FA 94 1 3,LA 95 94,FA 96 0 11,LA 97 96,UA 98 (b .mul d (k (i j 2)) (t 97)),UA 99 (b .add d (k (i j 3)) (t 98)),FA 100 1 11,
 (LA 101 100),UA 102 (b .mul d (k (i j 2)) (t 101)),UA 103 (b .add d (k (i j 2)) (t 102)),FA 104 2 11,LA 105 104,FA 106 3 11,LA 107 106,UA 108 (.build [i j 0,i j 0,i j 0,i j 0] [(0,1,(t 99)),(1,1,(t 103)),(2,1,(t 105)),(3,1,(t 107))]),
 (UA 109 (.lits 0 4 1 [i j 0,i j 0,i j 0,i j 0] [(0,(t 108))])),UA 110 (.append 1 4 32 (t 95) (t 109)),FA 111 1 3,WA 1 111 110]))) (r 0 [UA 112 (b .add d (t 90) (k (i j 1))),
 (MA 90 112)])))
def c51:LCode:=(q (r 2 [UA 1 (u 0 (t 0)),UA 2 (.alloc 1 (.agg #[i j 0,.slice o 0 0]))]) (q (r 1 [FA 12 0 1,LA 13 12,UA 14 (n (t 13)),UA 15 (b .mul d (k (i j 2)) (t 14)),
 (UA 16 (b .add d (k (i j 2)) (t 15))),UA 17 (.build [i j 0,.slice o 0 0] [(0,1,(t 16))]),UA 3 (.alloc 0 (.agg #[i j 0,.slice o 0 0])),WA 2 3 17]) (q (q (r 0 [FA 18 0 1,LA 19 18,
 (UA 20 (n (t 19))),CA 21 0]) (z 0 (.loop c51l0))) (q (q (r 0 [SA 41 2 1,UA 42 (.call 77 [(t 41),(k (i j 1))]),UA 43 (n (t 42)),CA 44 0]) (z 2 (.loop c51l1)))
 (q (q (r 0 [SA 64 2 1,UA 65 (.call 77 [(t 64),(k (i j 3))]),UA 66 (n (t 65)),CA 67 0]) (z 4 (.loop c51l2))) (q (q (r 0 [FA 87 1 1,LA 88 87,UA 89 (n (t 88)),
 (CA 90 0)]) (z 6 (.loop c51l3))) (q (r 0 [SA 113 2 3,WA 2 2 113]) .ret)))))))
def c65l0:LCode:=q (r 0 [UA 23 (b .lss g (t 22) (t 21))]) (q (c (t 23) .skip (.exit 0)) (q (z 1 (q (r 1 [XA 24 3 20 22,SA 25 3 24,UA 5 (.alloc 0 (.agg #[i j 0,i j 0,i j 0])),
 (WA 3 5 25)]) (q (q (r 0 [SA 26 3 5,UA 27 (.call 86 [(t 26)]),UA 28 (.not (t 27))]) (c (t 28) (q (r 0 [CA 2 400]) .ret) .skip)) (q (r 0 [FA 29 2 5,
 ⟨o,w 1 (t 29) (k (i j 0)),o⟩]) (q (q (r 0 [MA 30 3,SA 31 3 5,UA 32 (.eff (.look [(0,(.int .i64)),(1,(.int .i64)),(2,(.int .i64))] (.bool g) g) 0 [(t 30),(t 31)])]) (c (t 32)
 (q (r 0 [CA 2 6]) .ret) .skip)) (r 0 [MA 33 3,SA 34 3 5,⟨o,.eff (.mset [(0,(.int .i64)),(1,(.int .i64)),(2,(.int .i64))]) 0 [(t 33),(t 34),(k (y d))],o⟩]))))))
 (r 0 [UA 35 (b .add d (t 22) (k (i j 1))),MA 22 35])))
def c65l1:LCode:=q (r 0 [UA 40 (b .lss g (t 39) (t 38))]) (q (c (t 40) .skip (.exit 2)) (q (z 3 (q (r 1 [XA 41 4 37 39,SA 42 4 41,UA 7 (.alloc 0 (.agg #[i j 0,i j 0,i j 0,i j 0])),
 (WA 4 7 42)]) (q (r 0 [FA 43 0 7,LA 44 43,FA 45 1 7,LA 46 45,FA 47 2 7,LA 48 47,FA 49 3 7,LA 50 49,UA 51 (.prim (.mm g) [(t 44),(t 46),(t 48),(t 50)]),
 (UA 52 (b .lss g (t 51) (k (i j 0)))),MA 53 52,GA 54 (f 0 (t 7)) 53 g,GA 55 (l o (t 54)) 53 g,GA 56 (f 1 (t 7)) 53 g,GA 57 (l o (t 56)) 53 g,GA 58 (.minmax d (t 55) (t 57)) 53 g,
 (GA 59 (f 0 (t 1)) 53 g),GA 60 (l o (t 59)) 53 g,GA 61 (n (t 60)) 53 g,GA 62 (b .geq g (t 58) (t 61)) 53 g,UA 63 (p (t 53) (k (y d)) (t 62)),MA 64 63,GA 65 (f 0 (t 7)) 64 g,
 (GA 66 (l o (t 65)) 64 g),GA 67 (f 1 (t 7)) 64 g,GA 68 (l o (t 67)) 64 g,GA 69 (b .eql g (t 66) (t 68)) 64 g,UA 70 (p (t 64) (k (y d)) (t 69)),MA 71 70,GA 72 (f 2 (t 7)) 71 g,
 (GA 73 (l o (t 72)) 71 g),GA 74 (b .gtr g (t 73) (k (i j 1073741824))) 71 g,UA 75 (p (t 71) (k (y d)) (t 74)),MA 76 75,GA 77 (f 3 (t 7)) 76 g,GA 78 (l o (t 77)) 76 g,
 (GA 79 (b .gtr g (t 78) (k (i j 1048576))) 76 g),UA 80 (p (t 76) (k (y d)) (t 79)),MA 81 80,GA 82 (f 0 (t 1)) 81 g,GA 83 (l o (t 82)) 81 g,GA 84 (f 0 (t 7)) 81 g,GA 85 (l o (t 84)) 81 g,
 (GA 86 (x 3 (t 83) (t 85)) 81 g),GA 87 (f 0 (t 86)) 81 g,GA 88 (l o (t 87)) 81 g,GA 89 (b .eql g (t 88) (k (i j 3))) 81 g,UA 90 (p (t 81) (k (y d)) (t 89)),MA 91 90,GA 92 (f 0 (t 1)) 91 g,
 (GA 93 (l o (t 92)) 91 g),GA 94 (f 1 (t 7)) 91 g,GA 95 (l o (t 94)) 91 g,GA 96 (x 3 (t 93) (t 95)) 91 g,GA 97 (f 0 (t 96)) 91 g,GA 98 (l o (t 97)) 91 g,GA 99 (b .eql g (t 98) (k (i j 1))) 91 g,
 (UA 100 (p (t 91) (k (y d)) (t 99)))]) (c (t 100) (q (r 0 [CA 2 400]) .ret) .skip)))) (r 0 [UA 101 (b .add d (t 39) (k (i j 1))),MA 39 101])))
def c65:LCode:=(q (r 1 [UA 1 (u 0 (t 0)),CA 2 0]) (q (q (r 0 [FA 8 0 1,LA 9 8,UA 10 (n (t 9)),UA 11 (b .gtr g (t 10) (k (i j 100))),MA 12 11,GA 13 (f 1 (t 1)) 12 g,
 (GA 14 (l o (t 13)) 12 g),GA 15 (n (t 14)) 12 g,GA 16 (b .gtr g (t 15) (k (i j 1500))) 12 g,UA 17 (p (t 12) (k (y d)) (t 16))]) (c (t 17) (q (r 0 [CA 2 2]) .ret) .skip))
 (q (r 1 [UA 18 (.mkmap 0 o),MA 3 18]) (q (q (r 0 [FA 19 0 1,LA 20 19,UA 21 (n (t 20)),CA 22 0]) (z 0 (.loop c65l0))) (q (q (r 0 [FA 36 1 1,
 (LA 37 36),UA 38 (n (t 37)),CA 39 0]) (z 2 (.loop c65l1))) (q (r 0 [CA 2 0]) .ret))))))
def c94:LCode:=(q (r 2 [UA 3 (u 0 (t 0)),UA 5 (u 1 (t 2)),UA 6 (m (k (y g)))]) (q (q (r 0 [FA 10 3 5,LA 11 10,UA 12 (n (t 11)),FA 13 0 3,LA 14 13,
 (UA 15 (b .neq g (t 12) (t 14))),MA 16 15,GA 17 (f 3 (t 5)) 16 g,GA 18 (l o (t 17)) 16 g,GA 19 (m (t 1)) 16 g,GA 20 (x 1 (t 18) (t 19)) 16 g,GA 21 (l o (t 20)) 16 g,
 (GA 22 (b .neq g (t 21) (k (i j 0))) 16 g),UA 23 (p (t 16) (k (y d)) (t 22)),MA 24 23,GA 25 (f 3 (t 5)) 24 g,GA 26 (l o (t 25)) 24 g,GA 27 (.call 129 [(t 26),(.func 130)]) 24 g,
 (UA 28 (p (t 24) (k (y d)) (t 27)))]) (c (t 28) (q (r 0 [UA 6 (m (k (y g)))]) .ret) .skip)) (q (q (r 0 [FA 29 1 3,LA 30 29,UA 31 (n (t 30)),CA 32 0]) (z 0 (.loop
 (q (r 0 [UA 33 (b .lss g (t 32) (t 31))]) (q (c (t 33) .skip (.exit 0)) (q (z 1 (q (r 1 [MA 34 32,XA 35 4 30 32,SA 36 4 35,UA 8 (.alloc 0 (.agg #[i j 0,i j 0,i j 0,i j 0])),
 (MA 7 34),WA 4 8 36]) (q (.qui 0 [FA 37 3 8,LA 38 37,FA 39 3 5,LA 40 39,FA 41 0 8,LA 42 41,XA 43 1 40 42,
 (LA 44 43),UA 45 (b .add d (t 38) (t 44)),FA 46 3 5,LA 47 46,FA 48 1 8,LA 49 48,XA 50 1 47 49,LA 51 50,UA 52 (b .sub d (t 45) (t 51)),
 (MA 9 52)]) (q (.qui 0 [FA 53 2 5,LA 54 53,MA 55 7,XA 56 1 54 55,LA 57 56,FA 58 2 8,LA 59 58,UA 60 (b .lss g (t 57) (t 59)),
 (MA 61 60),GA 62 (m (t 9)) 61 d,GA 63 (b .lss g (t 62) (k (i j 0))) 61 d,UA 64 (p (t 61) (t 63) (k (y g))),MA 65 64,GA 66 (f 2 (t 5)) 65 g,GA 67 (l o (t 66)) 65 g,
 (GA 68 (m (t 7)) 65 g),GA 69 (x 1 (t 67) (t 68)) 65 g,GA 70 (l o (t 69)) 65 g,GA 71 (b .gtr g (t 70) (k (i j 0))) 65 g,GA 72 (m (t 71)) 65 g,GA 73 (m (t 9)) 72 d,GA 74 (b .gtr g (t 73) (k (i j 0))) 72 d,
 (GA 75 (p (t 72) (t 74) (k (y g))) 65 g),UA 76 (p (t 65) (k (y d)) (t 75))]) (c (t 76) (q (r 0 [UA 6 (m (k (y g)))]) .ret) .skip))))) (r 0 [UA 77 (b .add d (t 32) (k (i j 1))),MA 32 77])))))))
 (q (r 0 [UA 6 (m (k (y d)))]) .ret))))
def c97l0:LCode:=q (q (r 0 [MA 7 1,UA 8 (.prim (.sbin .neq) [(t 7),(k (.string ⟨#[]⟩))])]) (c (t 8) .skip (.exit 0))) (z 1 (q (r 0 [FA 9 72 2,LA 10 9,UA 11 (b .rem g (t 10) (k (.int .u64 64))),
 (UA 12 (.conv g .i64 (t 11))),MA 5 12]) (q (r 0 [FA 13 8 2,MA 14 5,UA 15 (.prim (.pslc 64 d g g) [(t 13),(t 14)]),MA 16 1,UA 17 (.eff .cps 0 [(t 15),(t 16)]),
 (MA 6 17)]) (q (r 0 [MA 18 1,MA 19 6,UA 20 (.prim (.sslc d g) [(t 18),(t 19)]),MA 1 20]) (q (r 0 [FA 21 72 2,LA 22 21,MA 23 6,UA 24 (.conv g .u64 (t 23)),
 (UA 25 (b .add g (t 22) (t 24))),FA 26 72 2,WA 1 26 25]) (q (r 0 [MA 27 5,MA 28 6,UA 29 (b .add d (t 27) (t 28)),UA 30 (b .eql g (t 29) (k (i j 64)))]) (c (t 30)
 (.tail 4 0 [FA 31 0 2,SA 32 8 31,FA 33 8 2,UA 34 (.prim (.pslc 64 g g g) [(t 33)]),UA 35 (.call 131 [(t 32),(t 34)]),FA 36 0 2,WA 8 36 35])
 .skip)))))))
def c97:LCode:=(q (r 2 [UA 2 (u 0 (t 0)),UA 4 (.alloc 1 (.agg pC))]) (q (z 0 (.loop c97l0)) (q (r 0 [SA 37 73 2,WA 73 4 37]) .ret)))
def c98:LCode:=(q (r 0 [UA 2 (m (k (.slice o 0 0)))]) (q (r 1 [MA 3 0,UA 4 (.lens (t 3)),UA 5 (.call 102 [(t 4)]),MA 6 0,UA 7 (.eff (.aps 1) 0 [(t 5),(t 6)]),MA 2 7])
 .ret))
def c126:LCode:=(q (r 1 [UA 5 (u 0 (t 2)),CA 6 0]) (q (.qui 0 [FA 7 3 5,LA 8 7,MA 9 0,UA 10 (.nilc (t 9)),FA 11 4 10,LA 12 11,
 (MA 13 1),XA 14 1 12 13,LA 15 14,UA 16 (b .add d (t 8) (t 15)),MA 17 0,UA 18 (.nilc (t 17)),FA 19 4 18,LA 20 19,FA 21 1 5,
 (LA 22 21),XA 23 1 20 22,LA 24 23,UA 25 (b .sub d (t 16) (t 24)),MA 6 25]) .ret))
open Go Go.Fx Go.Proofs
theorem lw8:rlF Tryz.prog 8 c8=some (c8,[.tmp 2],18):=by kernel_rfl
theorem lw28:rlF Tryz.prog 28 c28=some (c28,[.tmp 2],28):=by kernel_rfl
theorem lw30:rlF Tryz.prog 30 c30=some (c30,[.cell 2 (some 5)],6):=by kernel_rfl
theorem lw39:rlF Tryz.prog 39 c39=some (c39,[.tmp 2],8):=by kernel_rfl
theorem lw51:rlF Tryz.prog 51 c51=some (c51,[.cell 2 (some 2)],114):=by kernel_rfl
theorem lw65:rlF Tryz.prog 65 c65=some (c65,[.tmp 2],102):=by kernel_rfl
theorem lw94:rlF Tryz.prog 94 c94=some (c94,[.tmp 6],78):=by kernel_rfl
theorem lw97:rlF Tryz.prog 97 c97=some (c97,[.cell 4 (some 73)],38):=by kernel_rfl
theorem lw98:rlF Tryz.prog 98 c98=some (c98,[.tmp 2],8):=by kernel_rfl
theorem lw126:rlF Tryz.prog 126 c126=some (c126,[.tmp 6],26):=by kernel_rfl
end Go.Fx.E
namespace Go.Fx.E
open Go Go.Fx
open Go.Operand renaming tmp → t, const → k
open Go.Value renaming int → i, bool → y
open Go.IntKind renaming i64 → j
open Option renaming some → s, none → o
open Go.Fx.LOp renaming mov → m, load → l, fld → f, bin → b, idx → x, store → w, pick → p, len → n, box → u
open Go.Fx.LCode renaming seq → q, reg → r, cond → c, block → z
open Go.Fx.LPlan renaming take → v, alt → h
open Bool renaming false → g, true → d
def c31:LCode:=(q (r 2 [UA 3 (u 0 (t 0)),UA 4 (u 1 (t 1)),CA 6 0]) (q (q (r 0 [MA 7 2,UA 8 (b .lss g (t 7) (k (i j 0))),MA 9 8,GA 10 (m (t 2)) 9 g,GA 11 (f 0 (t 3)) 9 g,
 (GA 12 (l o (t 11)) 9 g),GA 13 (n (t 12)) 9 g,GA 14 (b .geq g (t 10) (t 13)) 9 g,UA 15 (p (t 9) (k (y d)) (t 14))]) (c (t 15) (q (r 0 [CA 6 0]) .ret) .skip)) (q (r 0 [
 (FA 16 2 4),LA 17 16,MA 18 2,XA 19 1 17 18,LA 20 19,MA 6 20]) .ret)))
def c32l1:LCode:=q (q (r 0 [MA 33 5,MA 34 3,UA 35 (b .lss g (t 33) (t 34))]) (c (t 35) .skip (.exit 2))) (q (z 3 (q (.qui 0 [FA 38 0 1,LA 39 38,MA 40 5,
 (XA 41 3 39 40),FA 42 0 41,LA 43 42,FA 44 0 1,LA 45 44,MA 46 3,XA 47 3 45 46,FA 48 0 47,LA 49 48,UA 50 (b .eql g (t 43) (t 49)),
 (MA 51 50),GA 52 (f 0 (t 1)) 51 d,GA 53 (l o (t 52)) 51 d,GA 54 (m (t 5)) 51 d,GA 55 (x 3 (t 53) (t 54)) 51 d,GA 56 (f 1 (t 55)) 51 d,GA 57 (l o (t 56)) 51 d,
 (GA 58 (f 0 (t 1)) 51 d),GA 59 (l o (t 58)) 51 d,GA 60 (m (t 3)) 51 d,GA 61 (x 3 (t 59) (t 60)) 51 d,GA 62 (f 1 (t 61)) 51 d,GA 63 (l o (t 62)) 51 d,GA 64 (b .eql g (t 57) (t 63)) 51 d,
 (UA 65 (p (t 51) (t 64) (k (y g))))]) (c (t 65) (q (r 0 [CA 2 6]) .ret) .skip))) (r 0 [MA 36 5,UA 37 (b .add d (t 36) (k (i j 1))),MA 5 37]))
def c32l0:LCode:=q (q (r 0 [MA 18 3,FA 19 0 1,LA 20 19,UA 21 (n (t 20)),UA 22 (b .lss g (t 18) (t 21))]) (c (t 22) .skip (.exit 0))) (q (z 1 (q (r 0 [FA 25 0 1,
 (LA 26 25),MA 27 3,XA 28 3 26 27,SA 29 3 28,UA 30 (.call 67 [(t 29)]),MA 4 30]) (q (q (r 0 [MA 31 4,UA 32 (.not (t 31))]) (c (t 32)
 (q (r 0 [CA 2 400]) .ret) .skip)) (q (r 0 [CA 5 0]) (z 2 (.loop c32l1)))))) (r 0 [MA 23 3,UA 24 (b .add d (t 23) (k (i j 1))),MA 3 24]))
def c32l2:LCode:=q (q (r 0 [MA 66 6,FA 67 1 1,LA 68 67,UA 69 (n (t 68)),UA 70 (b .lss g (t 66) (t 69))]) (c (t 70) .skip (.exit 4))) (q (z 5 (q (.tail 6 0 [SA 73 2 1,
 (FA 74 1 1),LA 75 74,MA 76 6,XA 77 4 75 76,SA 78 4 77,UA 79 (.call 68 [(t 73),(t 78)]),MA 7 79]) (q (r 0 [MA 80 7,UA 81 (.not (t 80))])
 (c (t 81) (q (r 0 [CA 2 400]) .ret) .skip)))) (r 0 [MA 71 6,UA 72 (b .add d (t 71) (k (i j 1))),MA 6 72]))
def c32:LCode:=(q (r 1 [UA 1 (u 0 (t 0)),CA 2 0]) (q (q (r 0 [FA 8 0 1,LA 9 8,UA 10 (n (t 9)),UA 11 (b .gtr g (t 10) (k (i j 100))),MA 12 11,GA 13 (f 1 (t 1)) 12 g,
 (GA 14 (l o (t 13)) 12 g),GA 15 (n (t 14)) 12 g,GA 16 (b .gtr g (t 15) (k (i j 1500))) 12 g,UA 17 (p (t 12) (k (y d)) (t 16))]) (c (t 17) (q (r 0 [CA 2 2]) .ret) .skip))
 (q (q (r 0 [CA 3 0]) (z 0 (.loop c32l0))) (q (q (r 0 [CA 6 0]) (z 4 (.loop c32l2))) (q (r 0 [CA 2 0]) .ret)))))
def c40:LCode:=(q (r 2 [UA 3 (u 0 (t 0)),UA 6 (.alloc 1 (.agg (yaa 16 (.int .u8 0))))]) (q (r 3 [MA 7 1,FA 8 2 3,LA 9 8,UA 10 (.lits 0 1 1 [.string ⟨#[]⟩] [(0,(t 9))]),
 (MA 11 2),FA 12 2 3,LA 13 12,UA 14 (.lits 1 1 1 [.string ⟨#[]⟩] [(0,(t 13))]),UA 15 (.litsf [10,11,14] 2 1 3 [.slice o 0 0] [(0,(t 10)),(1,(t 11)),(2,(t 14))]),UA 16 (.call 71 [(t 15)]),
 (UA 17 (.call 70 [(t 7),(t 16)])),WA 16 6 17]) .ret))
def c69:LCode:=(q (r 2 [UA 5 (u 0 (t 0)),UA 9 (u 1 (t 4)),CA 10 0]) (q (z 0 (q (r 0 [FA 12 0 9,LA 13 12,UA 14 (b .lss g (t 13) (k (i j 0))),MA 15 14,
 (GA 16 (f 0 (t 9)) 15 g),GA 17 (l o (t 16)) 15 g,GA 18 (m (t 3)) 15 g,GA 19 (b .gtr g (t 17) (t 18)) 15 g,UA 20 (p (t 15) (k (y d)) (t 19)),MA 21 20,GA 22 (l (s 2) (t 5)) 21 g,
 (GA 23 (m (t 1)) 21 g),GA 24 (m (t 2)) 21 g,GA 25 (l (s 5) (t 9)) 21 g,GA 26 (.call 93 [(t 22),(t 23),(t 24),(t 25)]) 21 g,GA 27 (.not (t 26)) 21 g,UA 28 (p (t 21) (k (y d)) (t 27)),
 (MA 29 28),GA 30 (l (s 2) (t 5)) 29 g,GA 31 (m (t 1)) 29 g,GA 32 (l (s 5) (t 9)) 29 g,GA 33 (.call 94 [(t 30),(t 31),(t 32)]) 29 g,GA 34 (.not (t 33)) 29 g,UA 35 (p (t 29) (k (y d)) (t 34)),
 (MA 11 35)]) (c (t 11) (q (r 0 [CA 10 110]) .ret) (q (r 0 [FA 37 0 9,LA 38 37,MA 39 3,UA 40 (b .eql g (t 38) (t 39)),MA 41 40,GA 42 (f 4 (t 9)) 41 d,
 (GA 43 (l o (t 42)) 41 d),GA 44 (n (t 43)) 41 d,GA 45 (b .eql g (t 44) (k (i j 0))) 41 d,UA 46 (p (t 41) (t 45) (k (y g))),MA 47 46,GA 48 (f 0 (t 9)) 47 g,GA 49 (l o (t 48)) 47 g,
 (GA 50 (m (t 3)) 47 g),GA 51 (b .lss g (t 49) (t 50)) 47 g,GA 52 (m (t 51)) 47 g,GA 53 (l (s 2) (t 5)) 52 d,GA 54 (m (t 1)) 52 d,GA 55 (m (t 2)) 52 d,GA 56 (l (s 5) (t 9)) 52 d,
 (GA 57 (.call 95 [(t 53),(t 54),(t 55),(t 56)]) 52 d),GA 58 (p (t 52) (t 57) (k (y g))) 47 g,UA 59 (p (t 47) (k (y d)) (t 58)),MA 36 59]) (c (t 36) (q (r 0 [CA 10 0])
 .ret) .skip))))) (q (r 0 [CA 10 110]) .ret)))
def c80:LCode:=(q (r 2 [UA 2 (u 0 (t 0)),UA 3 (u 1 (t 1)),UA 4 (m (k (y g)))]) (q (r 0 [FA 5 0 3,LA 6 5,UA 7 (b .geq g (t 6) (k (i j 0))),MA 8 7,GA 9 (f 0 (t 3)) 8 d,
 (GA 10 (l o (t 9)) 8 d),GA 11 (f 1 (t 3)) 8 d,GA 12 (l o (t 11)) 8 d,GA 13 (b .leq g (t 10) (t 12)) 8 d,UA 14 (p (t 8) (t 13) (k (y g))),MA 15 14,GA 16 (f 1 (t 3)) 15 d,
 (GA 17 (l o (t 16)) 15 d),GA 18 (b .leq g (t 17) (k (i j 1099511627776))) 15 d,UA 19 (p (t 15) (t 18) (k (y g))),MA 20 19,GA 21 (f 3 (t 2)) 20 d,GA 22 (l o (t 21)) 20 d,
 (GA 23 (f 0 (t 3)) 20 d),GA 24 (l o (t 23)) 20 d,GA 25 (b .leq g (t 22) (t 24)) 20 d,UA 26 (p (t 20) (t 25) (k (y g))),MA 27 26,GA 28 (f 1 (t 3)) 27 d,GA 29 (l o (t 28)) 27 d,
 (GA 30 (f 4 (t 2)) 27 d),GA 31 (l o (t 30)) 27 d,GA 32 (b .lss g (t 29) (t 31)) 27 d,UA 33 (p (t 27) (t 32) (k (y g))),MA 4 33]) .ret))
def c86:LCode:=(q (r 1 [UA 1 (u 0 (t 0)),UA 2 (m (k (y g)))]) (q (q (r 0 [FA 3 2 1,LA 4 3,UA 5 (b .lss g (t 4) (k (i j 0))),MA 6 5,GA 7 (f 2 (t 1)) 6 g,
 (GA 8 (l o (t 7)) 6 g),GA 9 (b .gtr g (t 8) (k (i j 1073741824))) 6 g,UA 10 (p (t 6) (k (y d)) (t 9))]) (c (t 10) (q (r 0 [UA 2 (m (k (y g)))]) .ret) .skip)) (q (q (r 0 [FA 11 0 1,
 (LA 12 11)]) (z 0 (q (r 0 [UA 14 (b .eql g (t 12) (k (i j 1))),MA 13 14]) (c (t 13) (q (r 0 [FA 15 1 1,LA 16 15,UA 17 (b .geq g (t 16) (k (i j 0))),MA 18 17,
 (GA 19 (f 1 (t 1)) 18 d),GA 20 (l o (t 19)) 18 d,GA 21 (b .lss g (t 20) (k (i j 64))) 18 d,UA 22 (p (t 18) (t 21) (k (y g))),MA 2 22]) .ret) (q (q (r 0 [UA 24 (b .eql g (t 12) (k (i j 2))),
 (MA 23 24)]) (c (t 23) .skip (r 0 [UA 25 (b .eql g (t 12) (k (i j 3))),MA 23 25]))) (c (t 23) (q (r 0 [FA 26 1 1,LA 27 26,UA 28 (b .geq g (t 27) (k (i j 1))),
 (MA 29 28),GA 30 (f 1 (t 1)) 29 d,GA 31 (l o (t 30)) 29 d,GA 32 (b .leq g (t 31) (k (i j 1073741824))) 29 d,UA 33 (p (t 29) (t 32) (k (y g))),MA 2 33]) .ret) .skip))))))
 (q (r 0 [UA 2 (m (k (y g)))]) .ret))))
def c87:LCode:=(q (r 1 [UA 1 (u 0 (t 0)),CA 2 0]) (q (q (r 0 [FA 6 0 1,LA 7 6,UA 8 (b .gtr g (t 7) (k (i j 256))),MA 9 8,GA 10 (f 1 (t 1)) 9 g,
 (GA 11 (l o (t 10)) 9 g),GA 12 (n (t 11)) 9 g,GA 13 (b .gtr g (t 12) (k (i j 2048))) 9 g,UA 14 (p (t 9) (k (y d)) (t 13))]) (c (t 14) (q (r 0 [CA 2 2]) .ret) .skip)) (q
 (q (r 0 [FA 15 0 1,LA 16 15,UA 17 (b .lss g (t 16) (k (i j 1)))]) (c (t 17) (q (r 0 [CA 2 1]) .ret) .skip)) (q (r 0 [UA 18 (.fn 121 [(t 1)]),MA 3 18])
 (q (q (r 0 [FA 19 1 1,LA 20 19,UA 21 (n (t 20)),CA 22 0]) (z 0 (.loop (q (r 0 [UA 23 (b .lss g (t 22) (t 21))]) (q (c (t 23) .skip (.exit 0)) (q (z 1 (q (r 1 [
 (XA 24 4 20 22),SA 25 4 24,UA 5 (.alloc 0 (.agg #[i j 0,i j 0,i j 0,i j 0])),WA 4 5 25]) (q (r 0 [MA 26 3,FA 27 0 5,LA 28 27,UA 29 (.callv (t 26) [(t 28)]),
 (UA 30 (.not (t 29))),MA 31 30,GA 32 (m (t 3)) 31 g,GA 33 (f 1 (t 5)) 31 g,GA 34 (l o (t 33)) 31 g,GA 35 (.callv (t 32) [(t 34)]) 31 g,GA 36 (.not (t 35)) 31 g,
 (UA 37 (p (t 31) (k (y d)) (t 36))),MA 38 37,GA 39 (f 0 (t 5)) 38 g,GA 40 (l o (t 39)) 38 g,GA 41 (f 1 (t 5)) 38 g,GA 42 (l o (t 41)) 38 g,GA 43 (b .eql g (t 40) (t 42)) 38 g,
 (UA 44 (p (t 38) (k (y d)) (t 43))),MA 45 44,GA 46 (f 2 (t 5)) 45 g,GA 47 (l o (t 46)) 45 g,GA 48 (b .lss g (t 47) (k (i j 0))) 45 g,UA 49 (p (t 45) (k (y d)) (t 48)),MA 50 49,
 (GA 51 (f 2 (t 5)) 50 g),GA 52 (l o (t 51)) 50 g,GA 53 (b .gtr g (t 52) (k (i j 1073741824))) 50 g,UA 54 (p (t 50) (k (y d)) (t 53)),MA 55 54,GA 56 (f 3 (t 5)) 55 g,GA 57 (l o (t 56)) 55 g,
 (GA 58 (b .lss g (t 57) (k (i j 0))) 55 g),UA 59 (p (t 55) (k (y d)) (t 58)),MA 60 59,GA 61 (f 3 (t 5)) 60 g,GA 62 (l o (t 61)) 60 g,GA 63 (b .gtr g (t 62) (k (i j 1048576))) 60 g,
 (UA 64 (p (t 60) (k (y d)) (t 63)))]) (c (t 64) (q (r 0 [CA 2 1]) .ret) .skip)))) (r 0 [UA 65 (b .add d (t 22) (k (i j 1))),MA 22 65]))))))) (q (r 0 [CA 2 0])
 .ret))))))
def c93:LCode:=(q (r 2 [UA 4 (u 0 (t 0)),UA 7 (u 1 (t 3)),UA 8 (m (k (y g)))]) (q (q (r 0 [FA 16 2 7,LA 17 16,UA 18 (n (t 17)),FA 19 1 4,LA 20 19,
 (UA 21 (n (t 20))),UA 22 (b .neq g (t 18) (t 21))]) (c (t 22) (q (r 0 [UA 8 (m (k (y g)))]) .ret) .skip)) (q (r 1 [FA 23 0 4,LA 24 23,UA 25 (.mk 0 1 8 [i j 0] (t 24) (t 24)),
 (MA 9 25)]) (q (r 0 [CA 10 0]) (q (q (r 0 [FA 26 1 4,LA 27 26,UA 28 (n (t 27)),CA 29 0]) (z 0 (.loop (q (r 0 [UA 30 (b .lss g (t 29) (t 28))])
 (q (c (t 30) .skip (.exit 0)) (q (z 1 (q (r 1 [MA 31 29,XA 32 4 27 29,SA 33 4 32,UA 12 (.alloc 0 (.agg #[i j 0,i j 0,i j 0,i j 0])),MA 11 31,WA 4 12 33])
 (q (r 0 [FA 34 2 7,LA 35 34,MA 36 11,XA 37 1 35 36,LA 38 37,MA 13 38]) (q (q (r 0 [MA 39 13,UA 40 (b .lss g (t 39) (k (i j 0))),
 (MA 41 40),GA 42 (m (t 13)) 41 g,GA 43 (f 2 (t 12)) 41 g,GA 44 (l o (t 43)) 41 g,GA 45 (b .gtr g (t 42) (t 44)) 41 g,UA 46 (p (t 41) (k (y d)) (t 45))]) (c (t 46) (q (r 0 [
 (UA 8 (m (k (y g))))]) .ret) .skip)) (q (r 0 [MA 47 9,FA 48 0 12,LA 49 48,XA 50 1 47 49,LA 51 50,MA 52 13,UA 53 (b .add d (t 51) (t 52)),
 (XA 54 1 47 49),WA 1 54 53]) (q (r 0 [MA 55 9,FA 56 1 12,LA 57 56,XA 58 1 55 57,LA 59 58,MA 60 13,UA 61 (b .sub d (t 59) (t 60)),
 (XA 62 1 55 57),WA 1 62 61]) (r 0 [MA 63 10,MA 64 13,FA 65 3 12,LA 66 65,UA 67 (b .mul d (t 64) (t 66)),UA 68 (b .add d (t 63) (t 67)),
 (MA 10 68)]))))))) (r 0 [UA 69 (b .add d (t 29) (k (i j 1))),MA 29 69]))))))) (q (q (r 0 [MA 70 9,UA 71 (n (t 70)),CA 72 0]) (z 2 (.loop (q (r 0 [UA 73 (b .lss g (t 72) (t 71))])
 (q (c (t 73) .skip (.exit 2)) (q (z 3 (q (r 0 [MA 74 72,XA 75 1 70 72,LA 76 75,MA 14 74,MA 15 76]) (q (r 0 [MA 77 14,MA 78 1,
 (UA 79 (b .eql g (t 77) (t 78))),MA 80 79,GA 81 (m (t 15)) 80 d,GA 82 (f 0 (t 7)) 80 d,GA 83 (l o (t 82)) 80 d,GA 84 (b .neq g (t 81) (t 83)) 80 d,UA 85 (p (t 80) (t 84) (k (y g))),
 (MA 86 85),GA 87 (m (t 14)) 86 g,GA 88 (m (t 1)) 86 g,GA 89 (b .neq g (t 87) (t 88)) 86 g,GA 90 (m (t 89)) 86 g,GA 91 (m (t 14)) 90 d,GA 92 (m (t 2)) 90 d,GA 93 (b .neq g (t 91) (t 92)) 90 d,
 (GA 94 (p (t 90) (t 93) (k (y g))) 86 g),GA 95 (m (t 94)) 86 g,GA 96 (m (t 15)) 95 d,GA 97 (b .neq g (t 96) (k (i j 0))) 95 d,GA 98 (p (t 95) (t 97) (k (y g))) 86 g,UA 99 (p (t 86) (k (y d)) (t 98))])
 (c (t 99) (q (r 0 [UA 8 (m (k (y g)))]) .ret) .skip)))) (r 0 [UA 100 (b .add d (t 72) (k (i j 1))),MA 72 100]))))))) (q (r 0 [MA 101 10,FA 102 1 7,LA 103 102,
 (UA 104 (b .eql g (t 101) (t 103))),MA 8 104]) .ret)))))))
def c101l0:LCode:=q (r 0 [UA 14 (b .lss g (t 13) (t 12))]) (q (c (t 14) .skip (.exit 0)) (q (z 1 (q (r 0 [XA 15 1 11 13,LA 16 15,MA 7 16]) (r 1 [MA 17 5,
 (MA 18 1),MA 19 7,UA 20 (.callv (t 18) [(t 19)]),UA 21 (.append 0 1 1 (t 17) (t 20)),MA 5 21]))) (r 0 [UA 22 (b .add d (t 13) (k (i j 1))),MA 13 22])))
def c101:LCode:=(q (r 0 [UA 4 (m (k (.slice o 0 0)))]) (q (r 0 [MA 8 0,UA 9 (n (t 8)),UA 10 (.call 102 [(t 9)]),MA 5 10]) (q (q (r 0 [MA 11 0,UA 12 (n (t 11)),
 (CA 13 0)]) (z 0 (.loop c101l0))) (q (r 0 [MA 23 5,MA 4 23]) .ret))))
def c129:LCode:=(q (r 0 [UA 4 (m (k (y g)))]) (q (r 0 [MA 5 0,MA 6 1,UA 7 (.call 147 [(t 5),(t 6)]),UA 8 (b .geq g (t 7) (k (i j 0))),MA 4 8]) .ret))
def c149:LCode:=(q (r 0 [UA 8 (m (k (.int .u32 0)))]) (q (r 0 [MA 9 0,MA 10 1,UA 11 (.neg (t 10)),UA 12 (.call 156 [(t 9),(t 11)]),MA 13 0,MA 14 2,UA 15 (.neg (t 14)),
 (UA 16 (.call 156 [(t 13),(t 15)])),UA 17 (b .xor g (t 12) (t 16)),MA 18 0,MA 19 3,UA 20 (.neg (t 19)),UA 21 (.call 156 [(t 18),(t 20)]),UA 22 (b .xor g (t 17) (t 21)),MA 8 22])
 .ret))
open Go Go.Fx Go.Proofs
theorem lw31:rlF Tryz.prog 31 c31=some (c31,[.tmp 6],21):=by kernel_rfl
theorem lw32:rlF Tryz.prog 32 c32=some (c32,[.tmp 2],82):=by kernel_rfl
theorem lw40:rlF Tryz.prog 40 c40=some (c40,[.cell 6 (some 16)],18):=by kernel_rfl
theorem lw69:rlF Tryz.prog 69 c69=some (c69,[.tmp 10],60):=by kernel_rfl
theorem lw80:rlF Tryz.prog 80 c80=some (c80,[.tmp 4],34):=by kernel_rfl
theorem lw86:rlF Tryz.prog 86 c86=some (c86,[.tmp 2],34):=by kernel_rfl
theorem lw87:rlF Tryz.prog 87 c87=some (c87,[.tmp 2],66):=by kernel_rfl
theorem lw93:rlF Tryz.prog 93 c93=some (c93,[.tmp 8],105):=by kernel_rfl
theorem lw101:rlF Tryz.prog 101 c101=some (c101,[.tmp 4],24):=by kernel_rfl
theorem lw129:rlF Tryz.prog 129 c129=some (c129,[.tmp 4],9):=by kernel_rfl
theorem lw149:rlF Tryz.prog 149 c149=some (c149,[.tmp 8],23):=by kernel_rfl
end Go.Fx.E
namespace Go.Fx.E
open Go Go.Fx
open Go.Operand renaming tmp → t, const → k
open Go.Value renaming int → i, bool → y
open Go.IntKind renaming i64 → j
open Option renaming some → s, none → o
open Go.Fx.LOp renaming mov → m, load → l, fld → f, bin → b, idx → x, store → w, pick → p, len → n, box → u
open Go.Fx.LCode renaming seq → q, reg → r, cond → c, block → z
open Go.Fx.LPlan renaming take → v, alt → h
open Bool renaming false → g, true → d
def c5:LCode:=(q (r 2 [UA 3 (u 0 (t 0)),UA 4 (u 1 (t 1)),UA 6 (m (k (y g)))]) (q (r 0 [SA 9 2 3,UA 10 (.call 8 [(t 9)]),MA 7 10]) (q (q (r 0 [MA 11 7,UA 12 (.not (t 11)),
 (MA 13 12),GA 14 (f 4 (t 4)) 13 g,GA 15 (l o (t 14)) 13 g,GA 16 (n (t 15)) 13 g,GA 17 (b .gtr g (t 16) (k (i j 40))) 13 g,UA 18 (p (t 13) (k (y d)) (t 17))]) (c (t 18)
 (q (r 0 [UA 19 (.call 9 []),MA 6 19]) .ret) .skip)) (q (r 1 [SA 20 2 3,UA 21 (.call 25 [(t 20)]),UA 8 (.alloc 0 (.agg #[i j 0,.slice o 0 0])),WA 2 8 21]) (q
 (q (r 0 [SA 22 2 3,SA 23 24 4,UA 24 (.call 14 [(t 22),(t 23)]),UA 25 (b .neq g (t 24) (k (i j 0))),MA 26 25,GA 27 (l (s 2) (t 8)) 26 g,GA 28 (m (t 2)) 26 g,
 (GA 29 (.call 26 [(t 27),(k (i j 0)),(k (i j 1)),(t 28)]) 26 g),GA 30 (.not (t 29)) 26 g,UA 31 (p (t 26) (k (y d)) (t 30))]) (c (t 31) (q (r 0 [UA 32 (.call 9 []),MA 6 32]) .ret)
 .skip)) (q (.tree 0 (h 0 (UA 33 (.call 9 [])) g (v 1 [2,3,4,5,6,7,8,9,10,11,12,13,14,15,16] (MA 34 33) (v 2 [4,7,8,9,10,11,12,13,14,15,16] (GA 35 (l (s 2) (t 8)) 34 d) (v 3 [4,7,8,9,10,11,12,13,14,15,16] (GA 36 (m (t 2)) 34 d)
 (v 5 [6,7,8,9,10,11,12,13,14,15,16] (GA 38 (f 3 (t 4)) 34 d) (v 6 [7,8,9,10,11,12,13,14,15,16] (GA 39 (l o (t 38)) 34 d) (h 4 (GA 37 (.call 27 [(t 35),(t 36),(k (i j 0))]) 34 d) d (v 7 [8,9,10,11,12,13,14,15,16] (GA 40 (b .leq g (t 37) (t 39)) 34 d)
 (v 8 [9,10,11,12,13,14,15,16] (UA 41 (p (t 34) (t 40) (k (y g)))) (v 9 [10,11,12,13,14,15,16] (MA 42 41) (v 10 [11,14,15,16] (GA 43 (f 3 (t 4)) 42 d) (v 11 [14,15,16] (GA 44 (l o (t 43)) 42 d)
 (v 12 [13,14,15,16] (GA 45 (l (s 2) (t 3)) 42 d) (h 13 (GA 46 (.call 28 [(t 45)]) 42 d) d (v 14 [15,16] (GA 47 (b .lss g (t 44) (t 46)) 42 d) (v 15 [16] (UA 48 (p (t 42) (t 47) (k (y g)))) (v 16 [] (MA 6 48)
 .done))) .none))))))) .none)))))) .none)) .ret))))))
def c36:LCode:=(q (r 1 [UA 1 (u 0 (t 0)),UA 2 (m (k (y g)))]) (q (r 0 [FA 3 0 1,LA 4 3,UA 5 (b .geq g (t 4) (k (i j 0))),MA 6 5,GA 7 (f 0 (t 1)) 6 d,GA 8 (l o (t 7)) 6 d,
 (GA 9 (f 1 (t 1)) 6 d),GA 10 (l o (t 9)) 6 d,GA 11 (b .leq g (t 8) (t 10)) 6 d,UA 12 (p (t 6) (t 11) (k (y g))),MA 13 12,GA 14 (f 1 (t 1)) 13 d,GA 15 (l o (t 14)) 13 d,
 (GA 16 (b .leq g (t 15) (k (i j 1099511627776))) 13 d),UA 17 (p (t 13) (t 16) (k (y g))),MA 2 17]) .ret))
def c52:LCode:=(q (r 0 [UA 3 (m (k (y g)))]) (q (.tree 0 (v 0 [3,4,5,6,7,8,9,10,11,12,13,14,15,16,17,18,19,20,21,22,23,24,25,26,27,28,29] (SA 4 2 0) (v 1 [2,3,4,5,6,7,8,9,10,11,12,13,14,15,16,17,18,19,20,21,22,23,24,25,26,27,28,29] (FA 5 4 1)
 (v 2 [3,4,5,6,7,8,9,10,11,12,13,14,15,16,17,18,19,20,21,22,23,24,25,26,27,28,29] (LA 6 5) (h 3 (UA 7 (.call 53 [(t 4),(t 6)])) g (v 4 [5,6,7,8,9,10,11,12,13,14,15,16,17,18,19,20,21,22,23,24,25,26,27,28,29] (MA 8 7)
 (v 5 [8,11,12,13,14,15,16,17,18,19,20,21,22,23,24,25,26,27,28,29] (GA 9 (l (s 2) (t 0)) 8 d) (v 6 [7,8,11,12,13,14,15,16,17,18,19,20,21,22,23,24,25,26,27,28,29] (GA 10 (f 4 (t 1)) 8 d) (v 7 [8,11,12,13,14,15,16,17,18,19,20,21,22,23,24,25,26,27,28,29] (GA 11 (l o (t 10)) 8 d)
 (v 9 [10,11,12,13,14,15,16,17,18,19,20,21,22,23,24,25,26,27,28,29] (GA 13 (f 3 (t 1)) 8 d) (v 10 [11,12,13,14,15,16,17,18,19,20,21,22,23,24,25,26,27,28,29] (GA 14 (l o (t 13)) 8 d) (h 8 (GA 12 (.call 54 [(t 9),(t 11)]) 8 d) d
 (v 11 [12,13,14,15,16,17,18,19,20,21,22,23,24,25,26,27,28,29] (GA 15 (b .eql g (t 12) (t 14)) 8 d) (v 12 [13,14,15,16,17,18,19,20,21,22,23,24,25,26,27,28,29] (UA 16 (p (t 8) (t 15) (k (y g)))) (v 13 [14,15,16,17,18,19,20,21,22,23,24,25,26,27,28,29] (MA 17 16)
 (v 14 [15,18,19,20,21,22,23,24,25,26,27,28,29] (GA 18 (f 3 (t 1)) 17 d) (v 15 [18,19,20,21,22,23,24,25,26,27,28,29] (GA 19 (l o (t 18)) 17 d) (v 16 [17,18,19,20,21,22,23,24,25,26,27,28,29] (GA 20 (l (s 2) (t 2)) 17 d)
 (h 17 (GA 21 (.call 55 [(t 20)]) 17 d) d (v 18 [19,20,21,22,23,24,25,26,27,28,29] (GA 22 (b .lss g (t 19) (t 21)) 17 d) (v 19 [20,21,22,23,24,25,26,27,28,29] (UA 23 (p (t 17) (t 22) (k (y g)))) (v 20 [21,22,23,24,25,26,27,28,29] (MA 24 23)
 (v 21 [22,27,28,29] (GA 25 (f 4 (t 1)) 24 d) (v 22 [27,28,29] (GA 26 (l o (t 25)) 24 d) (v 23 [24,25,26,27,28,29] (GA 27 (f 0 (t 1)) 24 d) (v 24 [25,26,27,28,29] (GA 28 (l o (t 27)) 24 d)
 (v 25 [26,27,28,29] (GA 29 (b .mul d (k (i j 2)) (t 28)) 24 d) (v 26 [27,28,29] (GA 30 (b .add d (k (i j 2)) (t 29)) 24 d) (h 27 (GA 31 (.call 56 [(t 26),(t 30)]) 24 d) g (v 28 [29] (UA 32 (p (t 24) (t 31) (k (y g))))
 (v 29 [] (MA 3 32) .done)) .none)))))))))) .none))))))) .none))))))) .none))))) .ret))
def c53l0:LCode:=q (r 0 [UA 10 (b .lss g (t 9) (t 8))]) (q (c (t 10) .skip (.exit 0)) (q (z 1 (q (r 0 [MA 11 9,XA 12 1 7 9,LA 13 12,MA 5 11,MA 6 13])
 (q (r 0 [MA 14 6,UA 15 (b .lss g (t 14) (k (i j 0))),MA 16 15,GA 17 (m (t 6)) 16 g,GA 18 (f 0 (t 2)) 16 g,GA 19 (l o (t 18)) 16 g,GA 20 (b .geq g (t 17) (t 19)) 16 g,
 (UA 21 (p (t 16) (k (y d)) (t 20))),MA 22 21,GA 23 (m (t 6)) 22 g,GA 24 (b .eql g (t 23) (k (i j 1))) 22 g,UA 25 (p (t 22) (k (y d)) (t 24)),MA 26 25,GA 27 (m (t 5)) 26 g,
 (GA 28 (b .gtr g (t 27) (k (i j 0))) 26 g),GA 29 (m (t 28)) 26 g,GA 30 (m (t 6)) 29 d,GA 31 (m (t 1)) 29 d,GA 32 (m (t 5)) 29 d,GA 33 (b .sub d (t 32) (k (i j 1))) 29 d,
 (GA 34 (x 1 (t 31) (t 33)) 29 d),GA 35 (l o (t 34)) 29 d,GA 36 (b .leq g (t 30) (t 35)) 29 d,GA 37 (p (t 29) (t 36) (k (y g))) 26 g,UA 38 (p (t 26) (k (y d)) (t 37))]) (c (t 38)
 (q (r 0 [UA 4 (m (k (y g)))]) .ret) .skip)))) (r 0 [UA 39 (b .add d (t 9) (k (i j 1))),MA 9 39])))
def c53:LCode:=(q (r 1 [UA 2 (u 0 (t 0)),UA 4 (m (k (y g)))]) (q (q (r 0 [MA 7 1,UA 8 (n (t 7)),CA 9 0]) (z 0 (.loop c53l0))) (q (r 0 [MA 40 1,UA 41 (n (t 40)),
 (UA 42 (b .gtr g (t 41) (k (i j 0)))),MA 43 42,GA 44 (m (t 1)) 43 d,GA 45 (x 1 (t 44) (k (i j 0))) 43 d,GA 46 (l o (t 45)) 43 d,GA 47 (b .eql g (t 46) (k (i j 0))) 43 d,
 (UA 48 (p (t 43) (t 47) (k (y g)))),MA 4 48]) .ret)))
def c66l1:LCode:=q (r 0 [UA 56 (b .lss g (t 55) (t 54))]) (q (c (t 56) .skip (.exit 2)) (q (z 3 (q (r 0 [MA 57 55,MA 14 57]) (.tail 18 0 [MA 58 11,UA 59 (.nilc (t 58)),
 (FA 60 4 59),LA 61 60,MA 62 14,XA 63 1 61 62,LA 64 63,MA 65 13,MA 66 14,XA 67 1 65 66,LA 68 67,MA 69 13,
 (MA 70 2),XA 71 1 69 70,LA 72 71,UA 73 (.minmax g (t 68) (t 72)),UA 74 (b .add d (t 64) (t 73)),XA 75 1 61 62,WA 1 75 74]))) (r 0 [UA 76 (b .add d (t 55) (k (i j 1))),
 (MA 55 76)])))
def c66l2:LCode:=q (q (r 0 [MA 77 15,UA 78 (b .gtr g (t 77) (k (i j 0))),MA 79 78,GA 80 (m (t 12)) 79 d,GA 81 (m (t 3)) 79 d,GA 82 (b .lss g (t 80) (t 81)) 79 d,
 (UA 83 (p (t 79) (t 82) (k (y g))))]) (c (t 83) .skip (.exit 4))) (z 5 (q (r 0 [MA 84 11,MA 85 1,MA 86 2,MA 87 3,MA 88 12,UA 89 (b .sub d (t 87) (t 88)),
 (UA 90 (.call 92 [(t 84),(t 85),(t 86),(t 89)])),MA 15 90]) (r 0 [MA 91 12,MA 92 15,UA 93 (b .add d (t 91) (t 92)),MA 12 93])))
def c66l0:LCode:=q (q (r 0 [MA 35 12,MA 36 3,UA 37 (b .lss g (t 35) (t 36))]) (c (t 37) .skip (.exit 0))) (z 1 (q (r 0 [MA 38 11,MA 39 1,UA 40 (.call 90 [(t 38),(t 39)]),
 (MA 13 40)]) (q (q (r 0 [MA 41 13,MA 42 2,XA 43 1 41 42,LA 44 43,UA 45 (b .eql g (t 44) (k (i j 4611686018427387904)))]) (c (t 45) (q (r 0 [MA 46 11,
 (MA 47 12),MA 48 13,UA 49 (.call 91 [(t 46),(t 47),(t 48)]),WA 5 8 49,CA 9 0]) .ret) .skip)) (q (q (r 0 [MA 50 11,UA 51 (.nilc (t 50)),FA 52 4 51,
 (LA 53 52),UA 54 (n (t 53)),CA 55 0]) (z 2 (.loop c66l1))) (q (r 0 [CA 15 1]) (z 4 (.loop c66l2)))))))
def c66:LCode:=(q (r 2 [UA 4 (u 0 (t 0)),UA 8 (.alloc 1 (.agg #[i j 0,i j 0,.slice o 0 0,.slice o 0 0,.slice o 0 0])),CA 9 0]) (q (q (r 0 [SA 16 2 4,UA 17 (.call 87 [(t 16)]),
 (MA 10 17)]) (q (r 0 [MA 18 10,UA 19 (b .neq g (t 18) (k (i j 0)))]) (c (t 19) (q (r 0 [UA 20 (.build [i j 0,i j 0,.slice o 0 0,.slice o 0 0,.slice o 0 0] []),MA 21 10,
 (WA 5 8 20),MA 9 21]) .ret) .skip))) (q (q (r 0 [SA 22 2 4,MA 23 1,MA 24 2,MA 25 3,UA 26 (.call 88 [(t 22),(t 23),(t 24),(t 25)]),UA 27 (.not (t 26))])
 (c (t 27) (q (r 0 [UA 28 (.build [i j 0,i j 0,.slice o 0 0,.slice o 0 0,.slice o 0 0] []),WA 5 8 28,CA 9 1]) .ret) .skip)) (q (.tree 1 (v 0 [5,6] (SA 29 2 4)
 (v 1 [2,3,4,5,6] (FA 30 1 4) (v 2 [3,4,5,6] (LA 31 30) (v 3 [4,5,6] (UA 32 (n (t 31))) (h 4 (UA 33 (.mk 0 1 8 [i j 0] (t 32) (t 32))) d (h 5 (UA 34 (.call 89 [(t 29),(t 33)])) g (v 6 [] (MA 11 34)
 .done) .none) .none)))))) (q (r 0 [CA 12 0]) (q (z 0 (.loop c66l0)) (q (r 0 [MA 94 11,MA 95 12,UA 96 (.call 91 [(t 94),(t 95),(k (.slice o 0 0))]),WA 5 8 96,
 (CA 9 0)]) .ret)))))))
def c88:LCode:=(q (r 1 [UA 4 (u 0 (t 0)),UA 8 (m (k (y g)))]) (q (r 0 [MA 9 1,UA 10 (b .geq g (t 9) (k (i j 0))),MA 11 10,GA 12 (m (t 1)) 11 d,GA 13 (f 0 (t 4)) 11 d,
 (GA 14 (l o (t 13)) 11 d),GA 15 (b .lss g (t 12) (t 14)) 11 d,UA 16 (p (t 11) (t 15) (k (y g))),MA 17 16,GA 18 (m (t 2)) 17 d,GA 19 (b .geq g (t 18) (k (i j 0))) 17 d,
 (UA 20 (p (t 17) (t 19) (k (y g)))),MA 21 20,GA 22 (m (t 2)) 21 d,GA 23 (f 0 (t 4)) 21 d,GA 24 (l o (t 23)) 21 d,GA 25 (b .lss g (t 22) (t 24)) 21 d,UA 26 (p (t 21) (t 25) (k (y g))),
 (MA 27 26),GA 28 (m (t 1)) 27 d,GA 29 (m (t 2)) 27 d,GA 30 (b .neq g (t 28) (t 29)) 27 d,UA 31 (p (t 27) (t 30) (k (y g))),MA 32 31,GA 33 (m (t 3)) 32 d,GA 34 (b .geq g (t 33) (k (i j 0))) 32 d,
 (UA 35 (p (t 32) (t 34) (k (y g)))),MA 36 35,GA 37 (m (t 3)) 36 d,GA 38 (b .leq g (t 37) (k (i j 2199023255552))) 36 d,UA 39 (p (t 36) (t 38) (k (y g))),MA 8 39]) .ret))

def c89l0:LCode:=q (r 0 [UA 22 (b .lss g (t 21) (t 20))]) (q (c (t 22) .skip (.exit 0)) (q (z 1 (q (r 1 [MA 23 21,XA 24 4 19 21,SA 25 4 24,UA 7 (.alloc 0 (.agg #[i j 0,i j 0,i j 0,i j 0])),
 (MA 6 23),WA 4 7 25]) (q (.tree 2 (v 0 [1,2,3,17,18] (MA 26 5) (v 1 [2,3,17,18] (UA 27 (.nilc (t 26))) (v 2 [3,17,18] (FA 28 3 27) (v 3 [17,18] (LA 29 28) (v 4 [5,17,18] (FA 30 0 7)
 (v 5 [17,18] (LA 31 30) (v 6 [7,8,9,12,13,16,17,18] (MA 32 5) (v 7 [8,9,12,13,16,17,18] (UA 33 (.nilc (t 32))) (v 8 [9,12,13,16,17,18] (FA 34 3 33) (v 9 [12,13,16,17,18] (LA 35 34)
 (v 10 [11,12,13,16,17,18] (FA 36 0 7) (v 11 [12,13,16,17,18] (LA 37 36) (v 12 [13,16,17,18] (XA 38 1 35 37) (v 13 [16,17,18] (LA 39 38) (v 14 [15,16,17,18] (MA 40 6)
 (h 15 (UA 41 (.lits 0 1 1 [i j 0] [(0,(t 40))])) d (h 16 (UA 42 (.append 1 1 8 (t 39) (t 41))) d (v 17 [18] (XA 43 1 29 31) (h 18 (WA 1 43 42) g .done .none)) .none) .none)))))))))))))))))
 (.tree 2 (v 0 [1,2,3,17,18] (MA 44 5) (v 1 [2,3,17,18] (UA 45 (.nilc (t 44))) (v 2 [3,17,18] (FA 46 3 45) (v 3 [17,18] (LA 47 46) (v 4 [5,17,18] (FA 48 1 7) (v 5 [17,18] (LA 49 48)
 (v 6 [7,8,9,12,13,16,17,18] (MA 50 5) (v 7 [8,9,12,13,16,17,18] (UA 51 (.nilc (t 50))) (v 8 [9,12,13,16,17,18] (FA 52 3 51) (v 9 [12,13,16,17,18] (LA 53 52) (v 10 [11,12,13,16,17,18] (FA 54 1 7)
 (v 11 [12,13,16,17,18] (LA 55 54) (v 12 [13,16,17,18] (XA 56 1 53 55) (v 13 [16,17,18] (LA 57 56) (v 14 [15,16,17,18] (MA 58 6) (h 15 (UA 59 (.lits 0 1 1 [i j 0] [(0,(t 58))])) d
 (h 16 (UA 60 (.append 1 1 8 (t 57) (t 59))) d (v 17 [18] (XA 61 1 47 49) (h 18 (WA 1 61 60) g .done .none)) .none) .none)))))))))))))))))))) (r 0 [UA 62 (b .add d (t 21) (k (i j 1))),
 (MA 21 62)])))
def c89:LCode:=(q (r 1 [UA 2 (u 0 (t 0)),UA 4 (m (k (.pointer o)))]) (q (.tree 3 (v 0 [8,9,10] (SA 8 2 2) (v 1 [8,9,10] (MA 9 1) (v 2 [3,4,8,9,10] (FA 10 0 2) (v 3 [4,8,9,10] (LA 11 10)
 (v 5 [6,7,8,9,10] (FA 13 0 2) (v 6 [7,8,9,10] (LA 14 13) (h 4 (UA 12 (.mkv 0 1 24 [.slice o 0 0] (t 11) (t 11))) d (h 7 (UA 15 (.mk 1 1 8 [i j 0] (t 14) (t 14))) d (v 8 [9,10] (UA 16 (.build [i j 0,.slice o 0 0,.slice o 0 0,.slice o 0 0,.slice o 0 0] [(0,2,(t 8)),(2,1,(t 9)),(3,1,(t 12)),(4,1,(t 15))]))
 (h 9 (UA 17 (u 2 (t 16))) g (v 10 [] (MA 5 17) .done) .none)) .none) (h 7 (UA 15 (.mk 1 1 8 [i j 0] (t 14) (t 14))) d (h 4 (UA 12 (.mkv 0 1 24 [.slice o 0 0] (t 11) (t 11))) d (v 8 [9,10] (UA 16 (.build [i j 0,.slice o 0 0,.slice o 0 0,.slice o 0 0,.slice o 0 0] [(0,2,(t 8)),(2,1,(t 9)),(3,1,(t 12)),(4,1,(t 15))]))
 (h 9 (UA 17 (u 2 (t 16))) g (v 10 [] (MA 5 17) .done) .none)) .none) .none))))))))) (q (q (r 0 [FA 18 1 2,LA 19 18,UA 20 (n (t 19)),CA 21 0]) (z 0 (.loop c89l0)))
 (q (r 0 [MA 63 5,MA 4 63]) .ret))))
def c92:LCode:=(q (r 2 [UA 4 (u 0 (t 0)),UA 6 (u 1 (t 2)),CA 8 0]) (q (r 2 [LA 11 4,UA 12 (.nilc (t 11)),FA 13 0 12,FA 14 0 13,LA 15 14,
 (UA 16 (.mk 0 1 1 [.bool g] (t 15) (t 15))),UA 9 (.alloc 1 (.slice o 0 0)),WA 1 9 16]) (q (r 1 [UA 10 (.alloc 0 (.nilFunc))]) (q (r 0 [UA 17 (.fn 128 [(t 6),(t 9),(t 4),(t 10)]),WA 1 10 17])
 (q (r 0 [LA 18 10,MA 19 1,MA 20 3,UA 21 (.callv (t 18) [(t 19),(t 20)]),MA 8 21]) .ret)))))
def c102l0:LCode:=q (q (r 0 [MA 12 3,UA 13 (b .gtr g (t 12) (k (.int .u64 127)))]) (c (t 13) .skip (.exit 0))) (q (z 1 (r 2 [MA 16 4,MA 17 3,UA 18 (.conv g .u8 (t 17)),
 (UA 19 (b .or g (t 18) (k (.int .u8 128)))),UA 20 (.lits 0 1 1 [.int .u8 0] [(0,(t 19))]),UA 21 (.append 1 1 1 (t 16) (t 20)),MA 4 21])) (r 0 [MA 14 3,UA 15 (.shift .shr (t 14) (k (.int .u64 7))),
 (MA 3 15)]))
def c102:LCode:=(q (r 0 [UA 2 (m (k (.slice o 0 0)))]) (q (r 0 [MA 5 0,UA 6 (.conv g .u64 (t 5)),UA 7 (.shift .shl (t 6) (k (.int .u64 1))),MA 8 0,UA 9 (.shift .shr (t 8) (k (.int .u64 63))),
 (UA 10 (.conv g .u64 (t 9))),UA 11 (b .xor g (t 7) (t 10)),MA 3 11]) (q (r 0 [UA 4 (m (k (.slice o 0 0)))]) (q (z 0 (.loop c102l0)) (q (r 2 [MA 22 4,MA 23 3,UA 24 (.conv g .u8 (t 23)),
 (UA 25 (.lits 0 1 1 [.int .u8 0] [(0,(t 24))])),UA 26 (.append 1 1 1 (t 22) (t 25)),MA 2 26]) .ret)))))
def c121:LCode:=(q (r 0 [UA 3 (m (k (y g)))]) (q (r 0 [MA 4 0,UA 5 (b .geq g (t 4) (k (i j 0))),MA 6 5,GA 7 (m (t 0)) 6 d,GA 8 (f 0 (t 1)) 6 d,GA 9 (l o (t 8)) 6 d,
 (GA 10 (b .lss g (t 7) (t 9)) 6 d),UA 11 (p (t 6) (t 10) (k (y g))),MA 3 11]) .ret))
def c131l0:LCode:=q (r 0 [UA 23 (b .lss g (t 22) (k (i j 64)))]) (q (c (t 23) .skip (.exit 0)) (q (z 1 (q (r 0 [MA 24 22,UA 25 (.prim (.aidx 64 1 g) [(t 21),(t 22)]),MA 8 24,
 (MA 9 25)]) (q (.tree 0 (v 0 [1,5,18,20,24,25] (UA 26 (.prim (.pidx 4 1) [(t 7),(k (i j 3))])) (v 1 [5,18,20,24,25] (LA 27 26) (v 2 [3,4,5,18,20,24,25] (UA 28 (.prim (.pidx 4 1) [(t 7),(k (i j 0))]))
 (v 3 [4,5,18,20,24,25] (LA 29 28) (v 6 [7,10,17,18,20,24,25] (UA 32 (.prim (.pidx 4 1) [(t 7),(k (i j 0))])) (v 7 [10,17,18,20,24,25] (LA 33 32) (v 8 [9,10,17,18,20,24,25] (UA 34 (.prim (.pidx 4 1) [(t 7),(k (i j 1))]))
 (v 9 [10,17,18,20,24,25] (LA 35 34) (v 10 [17,18,20,24,25] (UA 36 (b .and g (t 33) (t 35))) (v 11 [12,13,16,17,18,20,24,25] (UA 37 (.prim (.pidx 4 1) [(t 7),(k (i j 0))])) (v 12 [13,16,17,18,20,24,25] (LA 38 37)
 (v 13 [16,17,18,20,24,25] (UA 39 (.prim .cpl [(t 38)])) (v 14 [15,16,17,18,20,24,25] (UA 40 (.prim (.pidx 4 1) [(t 7),(k (i j 2))])) (v 15 [16,17,18,20,24,25] (LA 41 40) (v 16 [17,18,20,24,25] (UA 42 (b .and g (t 39) (t 41)))
 (v 17 [18,20,24,25] (UA 43 (b .xor g (t 36) (t 42))) (v 19 [20,24,25] (MA 45 9) (v 21 [22,23,24,25] (MA 47 8) (v 22 [23,24,25] (UA 48 (.prim (.pidx 64 1) [(t 5),(t 47)])) (v 23 [24,25] (LA 49 48)
 (h 4 (UA 30 (.call 149 [(t 29),(k (i j 6)),(k (i j 11)),(k (i j 25))])) d (v 5 [18,20,24,25] (UA 31 (b .add g (t 27) (t 30))) (v 18 [20,24,25] (UA 44 (b .add g (t 31) (t 43))) (v 20 [24,25] (UA 46 (b .add g (t 44) (t 45)))
 (v 24 [25] (UA 50 (b .add g (t 46) (t 49))) (v 25 [] (MA 10 50) .done))))) .none)))))))))))))))))))))) (q (.tree 0 (v 0 [1,2,20,21] (UA 51 (.prim (.pidx 4 1) [(t 6),(k (i j 0))])) (v 1 [2,20,21] (LA 52 51)
 (v 3 [4,7,13,19,20,21] (UA 54 (.prim (.pidx 4 1) [(t 6),(k (i j 0))])) (v 4 [7,13,19,20,21] (LA 55 54) (v 5 [6,7,13,19,20,21] (UA 56 (.prim (.pidx 4 1) [(t 6),(k (i j 1))])) (v 6 [7,13,19,20,21] (LA 57 56)
 (v 7 [13,19,20,21] (UA 58 (b .and g (t 55) (t 57))) (v 8 [9,12,13,19,20,21] (UA 59 (.prim (.pidx 4 1) [(t 6),(k (i j 0))])) (v 9 [12,13,19,20,21] (LA 60 59) (v 10 [11,12,13,19,20,21] (UA 61 (.prim (.pidx 4 1) [(t 6),(k (i j 2))]))
 (v 11 [12,13,19,20,21] (LA 62 61) (v 12 [13,19,20,21] (UA 63 (b .and g (t 60) (t 62))) (v 13 [19,20,21] (UA 64 (b .xor g (t 58) (t 63))) (v 14 [15,18,19,20,21] (UA 65 (.prim (.pidx 4 1) [(t 6),(k (i j 1))]))
 (v 15 [18,19,20,21] (LA 66 65) (v 16 [17,18,19,20,21] (UA 67 (.prim (.pidx 4 1) [(t 6),(k (i j 2))])) (v 17 [18,19,20,21] (LA 68 67) (v 18 [19,20,21] (UA 69 (b .and g (t 66) (t 68))) (v 19 [20,21] (UA 70 (b .xor g (t 64) (t 69)))
 (h 2 (UA 53 (.call 149 [(t 52),(k (i j 2)),(k (i j 13)),(k (i j 22))])) d (v 20 [21] (UA 71 (b .add g (t 53) (t 70))) (v 21 [] (MA 11 71) .done)) .none))))))))))))))))))))) (q (r 0 [UA 72 (.prim (.pidx 4 1) [(t 6),(k (i j 3))]),
 (LA 73 72),MA 74 10,UA 75 (b .add g (t 73) (t 74)),UA 76 (.prim (.pidx 4 1) [(t 7),(k (i j 0))]),LA 77 76,UA 78 (.prim (.pidx 4 1) [(t 7),(k (i j 1))]),LA 79 78,
 (UA 80 (.prim (.pidx 4 1) [(t 7),(k (i j 2))])),LA 81 80,UA 82 (.build [.int .u32 0,.int .u32 0,.int .u32 0,.int .u32 0] [(0,1,(t 75)),(1,1,(t 77)),(2,1,(t 79)),(3,1,(t 81))]),WA 4 7 82])
 (r 0 [MA 83 10,MA 84 11,UA 85 (b .add g (t 83) (t 84)),UA 86 (.prim (.pidx 4 1) [(t 6),(k (i j 0))]),LA 87 86,UA 88 (.prim (.pidx 4 1) [(t 6),(k (i j 1))]),LA 89 88,
 (UA 90 (.prim (.pidx 4 1) [(t 6),(k (i j 2))])),LA 91 90,UA 92 (.build [.int .u32 0,.int .u32 0,.int .u32 0,.int .u32 0] [(0,1,(t 85)),(1,1,(t 87)),(2,1,(t 89)),(3,1,(t 91))]),WA 4 6 92]))))))
 (r 0 [UA 93 (b .add d (t 22) (k (i j 1))),MA 22 93])))
def c131l1:LCode:=q (r 0 [UA 95 (b .lss g (t 94) (k (i j 4)))]) (q (c (t 95) .skip (.exit 2)) (q (z 3 (q (r 0 [MA 96 94,MA 12 96]) (q (.tail 8 0 [MA 97 12,UA 98 (.prim (.pidx 8 1) [(t 2),(t 97)]),
 (LA 99 98),MA 100 12,UA 101 (.prim (.pidx 4 1) [(t 6),(t 100)]),LA 102 101,UA 103 (b .add g (t 99) (t 102)),UA 104 (.prim (.pidx 8 1) [(t 2),(t 97)]),WA 1 104 103])
 (.tail 9 0 [MA 105 12,UA 106 (b .add d (t 105) (k (i j 4))),UA 107 (.prim (.pidx 8 1) [(t 2),(t 106)]),LA 108 107,MA 109 12,UA 110 (.prim (.pidx 4 1) [(t 7),(t 109)]),
 (LA 111 110),UA 112 (b .add g (t 108) (t 111)),UA 113 (.prim (.pidx 8 1) [(t 2),(t 106)]),WA 1 113 112])))) (r 0 [UA 114 (b .add d (t 94) (k (i j 1))),MA 94 114])))
def c131:LCode:=(q (r 2 [UA 2 (u 0 (t 0)),UA 4 (.alloc 1 (.agg #[.int .u32 0,.int .u32 0,.int .u32 0,.int .u32 0,.int .u32 0,.int .u32 0,.int .u32 0,.int .u32 0]))]) (q (r 1 [MA 13 1,
 (UA 14 (.call 148 [(t 13)])),UA 5 (.alloc 0 (.agg (yaa 64 (.int .u32 0)))),WA 64 5 14]) (q (.tree 2 (v 0 [1,2,8,9] (UA 15 (.prim (.pslc 8 g d g) [(t 2),(k (i j 4))])) (v 1 [2,8,9] (UA 16 (.prim (.s2a 4) [(t 15)]))
 (v 2 [8,9] (SA 17 4 16) (v 3 [4,5,9] (UA 18 (.prim (.pslc 8 d g g) [(t 2),(k (i j 4))])) (v 4 [5,9] (UA 19 (.prim (.s2a 4) [(t 18)])) (v 5 [9] (SA 20 4 19) (h 6 (UA 6 (.alloc 0 (.agg #[.int .u32 0,.int .u32 0,.int .u32 0,.int .u32 0]))) d
 (h 7 (UA 7 (.alloc 1 (.agg #[.int .u32 0,.int .u32 0,.int .u32 0,.int .u32 0]))) d (h 8 (WA 4 6 17) d (h 9 (WA 4 7 20) g .done .none) .none) .none) (h 7 (UA 7 (.alloc 1 (.agg #[.int .u32 0,.int .u32 0,.int .u32 0,.int .u32 0]))) d
 (h 6 (UA 6 (.alloc 0 (.agg #[.int .u32 0,.int .u32 0,.int .u32 0,.int .u32 0]))) d (h 8 (WA 4 6 17) d (h 9 (WA 4 7 20) g .done .none) .none) .none) .none))))))))) (q (q (r 0 [UA 21 (.eff (.gload 0 64) 0 []),
 (CA 22 0)]) (z 0 (.loop c131l0))) (q (q (r 0 [CA 94 0]) (z 2 (.loop c131l1))) (q (r 0 [SA 115 8 2,WA 8 4 115]) .ret))))))
def c136l0:LCode:=q (q (r 0 [MA 15 9,MA 16 10,UA 17 (b .lss g (t 15) (t 16))]) (c (t 17) .skip (.exit 0))) (z 1 (q (r 0 [MA 18 9,MA 19 10,UA 20 (b .add d (t 18) (t 19)),
 (UA 21 (.conv g .u64 (t 20))),UA 22 (.shift .shr (t 21) (k (.int .u64 1))),UA 23 (.conv g .i64 (t 22)),MA 11 23]) (q (r 0 [MA 24 2,MA 25 0,MA 26 11,XA 27 5 25 26,
 (SA 28 5 27),MA 29 1,UA 30 (.callv (t 24) [(t 28),(t 29)]),UA 31 (b .lss g (t 30) (k (i j 0)))]) (c (t 31) (r 0 [MA 32 11,UA 33 (b .add d (t 32) (k (i j 1))),MA 9 33])
 (r 0 [MA 34 11,MA 10 34])))))
def c136:LCode:=(q (r 0 [CA 6 0,UA 7 (m (k (y g)))]) (q (r 0 [MA 12 0,UA 13 (n (t 12)),MA 8 13]) (q (r 0 [MA 14 8,CA 9 0,MA 10 14])
 (q (z 0 (.loop c136l0)) (q (r 0 [MA 35 9,MA 36 9,MA 37 8,UA 38 (b .lss g (t 36) (t 37)),MA 39 38,GA 40 (m (t 2)) 39 d,GA 41 (m (t 0)) 39 d,GA 42 (m (t 9)) 39 d,
 (GA 43 (x 5 (t 41) (t 42)) 39 d),GA 44 (l (s 5) (t 43)) 39 d,GA 45 (m (t 1)) 39 d,GA 46 (.callv (t 40) [(t 44),(t 45)]) 39 d,GA 47 (b .eql g (t 46) (k (i j 0))) 39 d,UA 48 (p (t 39) (t 47) (k (y g))),
 (MA 6 35),MA 7 48]) .ret)))))
def c146l0:LCode:=q (r 0 [UA 17 (b .lss g (t 16) (t 15))]) (q (c (t 17) .skip (.exit 0)) (q (z 1 (q (r 0 [XA 18 1 14 16,LA 19 18,MA 5 19]) (q (r 1 [LA 20 1,
 (UA 21 (.nilc (t 20))),FA 22 0 21,FA 23 1 22,LA 24 23,MA 25 5,XA 26 4 24 25,SA 27 4 26,UA 6 (.alloc 0 (.agg #[i j 0,i j 0,i j 0,i j 0])),
 (WA 4 6 27)]) (q (.tree 1 (v 0 [15,17] (MA 28 5) (v 1 [2,15,17] (FA 29 1 6) (v 2 [15,17] (LA 30 29) (v 3 [4,12,15,17] (FA 31 2 6) (v 4 [12,15,17] (LA 32 31)
 (v 5 [6,7,8,10,11,12,15,17] (LA 33 1) (v 6 [7,8,10,11,12,15,17] (UA 34 (.nilc (t 33))) (v 7 [8,10,11,12,15,17] (FA 35 2 34) (v 8 [10,11,12,15,17] (LA 36 35) (v 9 [10,11,12,15,17] (MA 37 5)
 (v 10 [11,12,15,17] (XA 38 1 36 37) (v 11 [12,15,17] (LA 39 38) (v 12 [15,17] (UA 40 (b .sub d (t 32) (t 39))) (v 13 [14,15,17] (FA 41 3 6) (v 14 [15,17] (LA 42 41)
 (v 15 [17] (UA 43 (.build [i j 0,i j 0,i j 0,i j 0,.bool g] [(0,1,(t 28)),(1,1,(t 30)),(2,1,(t 40)),(3,1,(t 42))])) (h 16 (UA 7 (.alloc 0 (.agg #[i j 0,i j 0,i j 0,i j 0,.bool g]))) d (h 17 (WA 5 7 43) g
 .done .none) .none)))))))))))))))))) (q (q (r 0 [FA 44 0 6,LA 45 44,LA 46 2,UA 47 (b .neq g (t 45) (t 46))]) (c (t 47) (.tail 14 0 [MA 48 5,FA 49 0 6,
 (LA 50 49),LA 51 1,UA 52 (.nilc (t 51)),FA 53 2 52,LA 54 53,MA 55 5,XA 56 1 54 55,LA 57 56,FA 58 3 6,LA 59 58,
 (UA 60 (.neg (t 59))),UA 61 (.build [i j 0,i j 0,i j 0,i j 0,.bool g] [(0,1,(t 48)),(1,1,(t 50)),(2,1,(t 57)),(3,1,(t 60)),(4,1,(k (y d)))]),WA 5 7 61]) .skip)) (q (.yreg 0 0 [FA 62 2 7,
 (LA 63 62),UA 64 (b .gtr g (t 63) (k (i j 0))),MA 65 64,GA 66 (m (t 0)) 65 d,GA 67 (l (s 5) (t 7)) 65 d,GA 68 (.yld (t 66) [(t 67)]) 65 d,GA 69 (.not (t 68)) 65 d,
 (UA 70 (p (t 65) (t 69) (k (y g))))]) (c (t 70) .ret .skip))))))) (r 0 [UA 71 (b .add d (t 16) (k (i j 1))),MA 16 71])))
def c146:LCode:=(q (.qui 0 [LA 8 1,UA 9 (.nilc (t 8)),FA 10 3 9,LA 11 10,LA 12 2,XA 13 1 11 12,LA 14 13,UA 15 (n (t 14)),
 (CA 16 0)]) (z 0 (.loop c146l0)))
open Go Go.Fx Go.Proofs
theorem lw36:rlF Tryz.prog 36 c36=some (c36,[.tmp 2],18):=by kernel_rfl
theorem lw52:rlF Tryz.prog 52 c52=some (c52,[.tmp 3],33):=by kernel_rfl
theorem lw53:rlF Tryz.prog 53 c53=some (c53,[.tmp 4],49):=by kernel_rfl
theorem lw66:rlF Tryz.prog 66 c66=some (c66,[.cell 8 (some 5),.tmp 9],97):=by kernel_rfl
theorem lw88:rlF Tryz.prog 88 c88=some (c88,[.tmp 8],40):=by kernel_rfl
theorem lw89:rlF Tryz.prog 89 c89=some (c89,[.tmp 4],64):=by kernel_rfl
theorem lw92:rlF Tryz.prog 92 c92=some (c92,[.tmp 8],22):=by kernel_rfl
theorem lw102:rlF Tryz.prog 102 c102=some (c102,[.tmp 2],27):=by kernel_rfl
theorem lw121:rlF Tryz.prog 121 c121=some (c121,[.tmp 3],12):=by kernel_rfl
theorem lw131:rlF Tryz.prog 131 c131=some (c131,[.cell 4 (some 8)],116):=by kernel_rfl
theorem lw136:rlF Tryz.prog 136 c136=some (c136,[.tmp 6,.tmp 7],49):=by kernel_rfl
theorem lw146:rlF Tryz.prog 146 c146=some (c146,[],72):=by kernel_rfl
end Go.Fx.E
namespace Go.Fx.E
open Go Go.Fx
open Go.Operand renaming tmp → t, const → k
open Go.Value renaming int → i, bool → y
open Go.IntKind renaming i64 → j
open Option renaming some → s, none → o
open Go.Fx.LOp renaming mov → m, load → l, fld → f, bin → b, idx → x, store → w, pick → p, len → n, box → u
open Go.Fx.LCode renaming seq → q, reg → r, cond → c, block → z
open Go.Fx.LPlan renaming take → v, alt → h
open Bool renaming false → g, true → d
def c3:LCode:=(q (r 4 [UA 7 (u 0 (t 0)),UA 8 (u 1 (t 1)),UA 9 (u 2 (t 2)),UA 13 (u 3 (t 6)),UA 14 (m (k (y g)))]) (q (r 0 [SA 19 2 8,UA 20 (.call 8 [(t 19)]),MA 15 20])
 (q (q (r 0 [MA 21 15,UA 22 (.not (t 21)),MA 23 22,GA 24 (f 2 (t 9)) 23 g,GA 25 (l o (t 24)) 23 g,GA 26 (n (t 25)) 23 g,GA 27 (b .gtr g (t 26) (k (i j 40))) 23 g,
 (UA 28 (p (t 23) (k (y d)) (t 27))),MA 29 28,GA 30 (f 3 (t 9)) 29 g,GA 31 (l o (t 30)) 29 g,GA 32 (n (t 31)) 29 g,GA 33 (b .gtr g (t 32) (k (i j 40))) 29 g,UA 34 (p (t 29) (k (y d)) (t 33)),
 (MA 35 34),GA 36 (f 4 (t 9)) 35 g,GA 37 (l o (t 36)) 35 g,GA 38 (n (t 37)) 35 g,GA 39 (b .gtr g (t 38) (k (i j 40))) 35 g,UA 40 (p (t 35) (k (y d)) (t 39)),MA 41 40,
 (GA 42 (f 2 (t 7)) 41 g),GA 43 (l o (t 42)) 41 g,GA 44 (.lens (t 43)) 41 g,GA 45 (b .gtr g (t 44) (k (i j 100))) 41 g,UA 46 (p (t 41) (k (y d)) (t 45))]) (c (t 46) (q (r 0 [UA 47 (.call 9 []),
 (MA 14 47)]) .ret) .skip)) (q (r 1 [SA 49 5 7,SA 50 2 8,SA 51 5 9,MA 52 3,MA 53 4,MA 54 5,SA 55 2 13,UA 56 (.call 10 [(t 49),(t 50),(t 51),(t 52),(t 53),(t 54),(t 55)]),
 (MA 48 56),UA 57 (.ext (t 48) 0),UA 58 (.ext (t 48) 1),UA 16 (.alloc 0 (.agg #[i j 0,i j 0,i j 0,i j 0,.slice o 0 0,i j 0,i j 0,i j 0,.int .u8 0,.int .u8 0,.int .u8 0,.int .u8 0,.int .u8 0,.int .u8 0,.int .u8 0,.int .u8 0,.int .u8 0,.int .u8 0,.int .u8 0,.int .u8 0,.int .u8 0,.int .u8 0,.int .u8 0,.int .u8 0])),
 (WA 24 16 57),MA 17 58]) (q (r 1 [SA 59 5 7,SA 60 2 8,SA 61 5 9,MA 62 3,MA 63 4,MA 64 5,SA 65 2 13,
 (UA 66 (.call 11 [(t 59),(t 60),(t 61),(t 62),(t 63),(t 64),(t 65)])),UA 18 (.alloc 0 (.agg #[i j 0,i j 0,i j 0,i j 0,.slice o 0 0,i j 0,i j 0,i j 0,.int .u8 0,.int .u8 0,.int .u8 0,.int .u8 0,.int .u8 0,.int .u8 0,.int .u8 0,.int .u8 0,.int .u8 0,.int .u8 0,.int .u8 0,.int .u8 0,.int .u8 0,.int .u8 0,.int .u8 0,.int .u8 0,i j 0])),
 (WA 25 18 66)]) (q (r 0 [UA 67 (.call 9 []),MA 68 67,GA 69 (m (t 17)) 68 d,GA 70 (f 24 (t 18)) 68 d,GA 71 (l o (t 70)) 68 d,GA 72 (b .eql g (t 69) (t 71)) 68 d,
 (UA 73 (p (t 68) (t 72) (k (y g)))),MA 74 73,GA 75 (l (s 24) (t 16)) 74 d,GA 76 (f 0 (t 18)) 74 d,GA 77 (l (s 24) (t 76)) 74 d,GA 78 (.call 12 [(t 75),(t 77)]) 74 d,UA 79 (p (t 74) (t 78) (k (y g))),
 (MA 14 79)]) .ret))))))
def c25l0:LCode:=q (q (r 0 [MA 15 4,FA 16 0 1,LA 17 16,UA 18 (n (t 17)),UA 19 (b .lss g (t 15) (t 18))]) (c (t 19) .skip (.exit 0))) (q (z 1 (.tree 2 (v 0 [1,16,17,18] (FA 22 1 3)
 (v 1 [16,17,18] (LA 23 22) (v 2 [3,4,14,15,16,17,18] (MA 24 4) (v 3 [4,14,15,16,17,18] (UA 25 (b .mul d (k (i j 2)) (t 24))) (v 4 [14,15,16,17,18] (UA 26 (b .add d (k (i j 2)) (t 25))) (v 5 [6,7,14,15,16,17,18] (MA 27 4)
 (v 6 [7,14,15,16,17,18] (UA 28 (b .mul d (k (i j 2)) (t 27))) (v 7 [14,15,16,17,18] (UA 29 (b .add d (k (i j 3)) (t 28))) (v 8 [9,11,12,13,14,15,16,17,18] (FA 30 0 1) (v 9 [11,12,13,14,15,16,17,18] (LA 31 30)
 (v 10 [11,12,13,14,15,16,17,18] (MA 32 4) (v 11 [12,13,14,15,16,17,18] (XA 33 3 31 32) (v 12 [13,14,15,16,17,18] (FA 34 2 33) (v 13 [14,15,16,17,18] (LA 35 34) (v 14 [15,16,17,18] (UA 36 (.build [i j 0,i j 0,i j 0,i j 0] [(0,1,(t 26)),(1,1,(t 29)),(2,1,(t 35))]))
 (h 15 (UA 37 (.lits 0 4 1 [i j 0,i j 0,i j 0,i j 0] [(0,(t 36))])) d (h 16 (UA 38 (.append 1 4 32 (t 23) (t 37))) g (v 17 [18] (FA 39 1 3) (h 18 (WA 1 39 38) g .done .none)) .none) .none))))))))))))))))))
 (r 0 [MA 20 4,UA 21 (b .add d (t 20) (k (i j 1))),MA 4 21]))
def c25l1:LCode:=q (q (r 0 [MA 40 5,FA 41 0 1,LA 42 41,UA 43 (n (t 42)),UA 44 (b .lss g (t 40) (t 43))]) (c (t 44) .skip (.exit 2))) (q (z 3 (q (r 0 [FA 47 0 1,
 (LA 48 47),MA 49 5,XA 50 3 48 49,FA 51 0 50,LA 52 51,UA 53 (b .eql g (t 52) (k (i j 1)))]) (c (t 53) (.tree 2 (v 0 [1,13,14,15] (FA 54 1 3)
 (v 1 [13,14,15] (LA 55 54) (v 2 [3,4,11,12,13,14,15] (MA 56 5) (v 3 [4,11,12,13,14,15] (UA 57 (b .mul d (k (i j 2)) (t 56))) (v 4 [11,12,13,14,15] (UA 58 (b .add d (k (i j 2)) (t 57))) (v 5 [6,8,9,10,11,12,13,14,15] (FA 59 0 1)
 (v 6 [8,9,10,11,12,13,14,15] (LA 60 59) (v 7 [8,9,10,11,12,13,14,15] (MA 61 5) (v 8 [9,10,11,12,13,14,15] (XA 62 3 60 61) (v 9 [10,11,12,13,14,15] (FA 63 2 62) (v 10 [11,12,13,14,15] (LA 64 63)
 (v 11 [12,13,14,15] (UA 65 (.build [i j 0,i j 0,i j 0,i j 0] [(0,1,(k (i j 0))),(1,1,(t 58)),(2,1,(t 64))])) (h 12 (UA 66 (.lits 0 4 1 [i j 0,i j 0,i j 0,i j 0] [(0,(t 65))])) d (h 13 (UA 67 (.append 1 4 32 (t 55) (t 66))) g
 (v 14 [15] (FA 68 1 3) (h 15 (WA 1 68 67) g .done .none)) .none) .none)))))))))))))) .skip))) (r 0 [MA 45 5,UA 46 (b .add d (t 45) (k (i j 1))),MA 5 46]))
def c25l2:LCode:=q (q (r 0 [MA 69 6,FA 70 0 1,LA 71 70,UA 72 (n (t 71)),UA 73 (b .lss g (t 69) (t 72))]) (c (t 73) .skip (.exit 4))) (q (z 5 (q (r 0 [FA 76 0 1,
 (LA 77 76),MA 78 6,XA 79 3 77 78,FA 80 0 79,LA 81 80,UA 82 (b .eql g (t 81) (k (i j 3)))]) (c (t 82) (.tree 2 (v 0 [1,13,14,15] (FA 83 1 3)
 (v 1 [13,14,15] (LA 84 83) (v 2 [3,4,11,12,13,14,15] (MA 85 6) (v 3 [4,11,12,13,14,15] (UA 86 (b .mul d (k (i j 2)) (t 85))) (v 4 [11,12,13,14,15] (UA 87 (b .add d (k (i j 3)) (t 86))) (v 5 [6,8,9,10,11,12,13,14,15] (FA 88 0 1)
 (v 6 [8,9,10,11,12,13,14,15] (LA 89 88) (v 7 [8,9,10,11,12,13,14,15] (MA 90 6) (v 8 [9,10,11,12,13,14,15] (XA 91 3 89 90) (v 9 [10,11,12,13,14,15] (FA 92 2 91) (v 10 [11,12,13,14,15] (LA 93 92)
 (v 11 [12,13,14,15] (UA 94 (.build [i j 0,i j 0,i j 0,i j 0] [(0,1,(t 87)),(1,1,(k (i j 1))),(2,1,(t 93))])) (h 12 (UA 95 (.lits 0 4 1 [i j 0,i j 0,i j 0,i j 0] [(0,(t 94))])) d (h 13 (UA 96 (.append 1 4 32 (t 84) (t 95))) g
 (v 14 [15] (FA 97 1 3) (h 15 (WA 1 97 96) g .done .none)) .none) .none)))))))))))))) .skip))) (r 0 [MA 74 6,UA 75 (b .add d (t 74) (k (i j 1))),MA 6 75]))
def c25l3:LCode:=q (q (r 0 [MA 98 7,FA 99 1 1,LA 100 99,UA 101 (n (t 100)),UA 102 (b .lss g (t 98) (t 101))]) (c (t 102) .skip (.exit 6))) (q (z 7 (q (r 1 [FA 105 1 1,
 (LA 106 105),MA 107 7,XA 108 4 106 107,SA 109 4 108,UA 8 (.alloc 0 (.agg #[i j 0,i j 0,i j 0,i j 0])),WA 4 8 109]) (r 2 [FA 110 1 3,
 (LA 111 110),FA 112 0 8,LA 113 112,UA 114 (b .mul d (k (i j 2)) (t 113)),UA 115 (b .add d (k (i j 3)) (t 114)),FA 116 1 8,LA 117 116,UA 118 (b .mul d (k (i j 2)) (t 117)),
 (UA 119 (b .add d (k (i j 2)) (t 118))),FA 120 2 8,LA 121 120,FA 122 3 8,LA 123 122,UA 124 (.build [i j 0,i j 0,i j 0,i j 0] [(0,1,(t 115)),(1,1,(t 119)),(2,1,(t 121)),(3,1,(t 123))]),
 (UA 125 (.lits 0 4 1 [i j 0,i j 0,i j 0,i j 0] [(0,(t 124))])),UA 126 (.append 1 4 32 (t 111) (t 125)),FA 127 1 3,WA 1 127 126]))) (r 0 [MA 103 7,UA 104 (b .add d (t 103) (k (i j 1))),
 (MA 7 104)]))
def c25:LCode:=(q (r 2 [UA 1 (u 0 (t 0)),UA 2 (.alloc 1 (.agg #[i j 0,.slice o 0 0]))]) (q (r 1 [FA 9 0 1,LA 10 9,UA 11 (n (t 10)),UA 12 (b .mul d (k (i j 2)) (t 11)),
 (UA 13 (b .add d (k (i j 2)) (t 12))),UA 14 (.build [i j 0,.slice o 0 0] [(0,1,(t 13))]),UA 3 (.alloc 0 (.agg #[i j 0,.slice o 0 0])),WA 2 3 14]) (q (q (r 0 [CA 4 0])
 (z 0 (.loop c25l0))) (q (q (r 0 [CA 5 0]) (z 2 (.loop c25l1))) (q (q (r 0 [CA 6 0]) (z 4 (.loop c25l2))) (q (q (r 0 [CA 7 0]) (z 6 (.loop c25l3))) (q (r 0 [
 (SA 128 2 3),WA 2 2 128]) .ret)))))))
def c37:LCode:=(q (r 0 [UA 2 (m (k (y g)))]) (q (r 0 [MA 3 0,UA 4 (b .geq g (t 3) (k (i j 0))),MA 5 4,GA 6 (m (t 0)) 5 d,GA 7 (b .leq g (t 6) (k (i j 1099511627776))) 5 d,
 (UA 8 (p (t 5) (t 7) (k (y g)))),MA 2 8]) .ret))
def c38:LCode:=(q (r 2 [UA 2 (u 0 (t 0)),UA 3 (u 1 (t 1)),CA 4 0]) (q (q (r 0 [SA 6 2 2,UA 7 (.call 65 [(t 6)]),MA 5 7]) (q (r 0 [MA 8 5,UA 9 (b .neq g (t 8) (k (i j 0)))])
 (c (t 9) (q (r 0 [MA 10 5,MA 4 10]) .ret) .skip))) (q (.tree 0 (v 0 [1,3,5,6] (SA 11 2 2) (v 2 [3,5,6] (SA 13 2 2) (v 4 [5,6] (SA 15 5 3) (h 1 (UA 12 (.call 51 [(t 11)])) d
 (h 3 (UA 14 (.call 55 [(t 13)])) d (h 5 (UA 16 (.call 69 [(t 12),(k (i j 0)),(k (i j 1)),(t 14),(t 15)])) g (v 6 [] (MA 4 16) .done) .none) .none) .none))))) .ret)))
def c58:LCode:=(q (r 2 [UA 12 (u 0 (t 5)),UA 13 (u 1 (t 6)),CA 14 0]) (q (r 1 [MA 18 0,MA 19 1,MA 20 2,UA 21 (.call 79 [(t 18),(t 19),(t 20)]),MA 17 21,
 (UA 22 (.ext (t 17) 0)),UA 23 (.ext (t 17) 1),UA 15 (.alloc 0 (.agg #[i j 0,i j 0,.string ⟨#[]⟩,i j 0,i j 0])),WA 5 15 22,MA 16 23]) (q (z 0 (q (r 0 [MA 25 16,UA 26 (b .neq g (t 25) (k (i j 0))),
 (MA 24 26)]) (c (t 24) (q (r 0 [MA 27 16,MA 14 27]) .ret) (q (r 0 [SA 29 5 15,SA 30 2 13,UA 31 (.call 80 [(t 29),(t 30)]),UA 32 (.not (t 31)),
 (MA 28 32)]) (c (t 28) (q (r 0 [CA 14 9]) .ret) (q (.tree 0 (v 0 [3,5,6] (SA 34 5 15) (v 1 [3,5,6] (MA 35 3) (v 2 [3,5,6] (MA 36 4) (v 4 [5,6] (SA 38 16 12)
 (h 3 (UA 37 (.call 40 [(t 34),(t 35),(t 36)])) d (v 5 [6] (UA 39 (.prim (.aeq d ((List.range' 0 16).map fun i=>(i,(.int .u8)))) [(t 37),(t 38)])) (v 6 [] (MA 33 39) .done)) .none)))))) (c (t 33)
 (q (r 0 [CA 14 8]) .ret) .skip))))))) (q (r 0 [CA 14 0]) .ret))))
def c91l0:LCode:=q (r 0 [UA 25 (b .lss g (t 24) (t 23))]) (q (c (t 25) .skip (.exit 0)) (q (z 1 (q (r 0 [MA 26 24,XA 27 1 22 24,LA 28 27,MA 8 26,MA 9 28])
 (q (r 0 [MA 29 9,UA 30 (b .lss g (t 29) (k (i j 4611686018427387904)))]) (c (t 30) (r 2 [FA 31 4 7,LA 32 31,MA 33 8,UA 34 (.lits 0 1 1 [i j 0] [(0,(t 33))]),
 (UA 35 (.append 1 1 8 (t 32) (t 34))),FA 36 4 7,WA 1 36 35]) .skip)))) (r 0 [UA 37 (b .add d (t 24) (k (i j 1))),MA 24 37])))
def c91:LCode:=(q (r 1 [UA 6 (.alloc 0 (.agg #[i j 0,i j 0,.slice o 0 0,.slice o 0 0,.slice o 0 0]))]) (q (.tree 1 (v 0 [11,13] (MA 10 1) (v 1 [2,11,13] (MA 11 0) (v 3 [4,5,6,11,13] (MA 13 0)
 (v 4 [5,6,11,13] (UA 14 (.nilc (t 13))) (v 5 [6,11,13] (FA 15 2 14) (v 7 [8,9,10,11,13] (MA 17 0) (v 8 [9,10,11,13] (UA 18 (.nilc (t 17))) (v 9 [10,11,13] (FA 19 4 18) (h 2 (UA 12 (.call 127 [(t 11)])) d
 (v 6 [11,13] (LA 16 15) (v 10 [11,13] (LA 20 19) (v 11 [13] (UA 21 (.build [i j 0,i j 0,.slice o 0 0,.slice o 0 0,.slice o 0 0] [(0,1,(t 10)),(1,1,(t 12)),(2,1,(t 16)),(3,1,(t 20))]))
 (h 12 (UA 7 (.alloc 0 (.agg #[i j 0,i j 0,.slice o 0 0,.slice o 0 0,.slice o 0 0]))) d (h 13 (WA 5 7 21) g .done .none) .none)))) (h 6 (LA 16 15) d (h 2 (UA 12 (.call 127 [(t 11)])) d
 (v 10 [11,13] (LA 20 19) (v 11 [13] (UA 21 (.build [i j 0,i j 0,.slice o 0 0,.slice o 0 0,.slice o 0 0] [(0,1,(t 10)),(1,1,(t 12)),(2,1,(t 16)),(3,1,(t 20))])) (h 12 (UA 7 (.alloc 0 (.agg #[i j 0,i j 0,.slice o 0 0,.slice o 0 0,.slice o 0 0]))) d
 (h 13 (WA 5 7 21) g .done .none) .none))) (h 10 (LA 20 19) d (h 2 (UA 12 (.call 127 [(t 11)])) d (v 11 [13] (UA 21 (.build [i j 0,i j 0,.slice o 0 0,.slice o 0 0,.slice o 0 0] [(0,1,(t 10)),(1,1,(t 12)),(2,1,(t 16)),(3,1,(t 20))]))
 (h 12 (UA 7 (.alloc 0 (.agg #[i j 0,i j 0,.slice o 0 0,.slice o 0 0,.slice o 0 0]))) d (h 13 (WA 5 7 21) g .done .none) .none)) (h 12 (UA 7 (.alloc 0 (.agg #[i j 0,i j 0,.slice o 0 0,.slice o 0 0,.slice o 0 0]))) d
 (h 2 (UA 12 (.call 127 [(t 11)])) d (v 11 [13] (UA 21 (.build [i j 0,i j 0,.slice o 0 0,.slice o 0 0,.slice o 0 0] [(0,1,(t 10)),(1,1,(t 12)),(2,1,(t 16)),(3,1,(t 20))])) (h 13 (WA 5 7 21) g
 .done .none)) .none) .none)) (h 12 (UA 7 (.alloc 0 (.agg #[i j 0,i j 0,.slice o 0 0,.slice o 0 0,.slice o 0 0]))) d (h 2 (UA 12 (.call 127 [(t 11)])) d (v 10 [11,13] (LA 20 19) (v 11 [13] (UA 21 (.build [i j 0,i j 0,.slice o 0 0,.slice o 0 0,.slice o 0 0] [(0,1,(t 10)),(1,1,(t 12)),(2,1,(t 16)),(3,1,(t 20))]))
 (h 13 (WA 5 7 21) g .done .none))) (h 10 (LA 20 19) d (h 2 (UA 12 (.call 127 [(t 11)])) d (v 11 [13] (UA 21 (.build [i j 0,i j 0,.slice o 0 0,.slice o 0 0,.slice o 0 0] [(0,1,(t 10)),(1,1,(t 12)),(2,1,(t 16)),(3,1,(t 20))]))
 (h 13 (WA 5 7 21) g .done .none)) .none) .none)) .none))) (h 10 (LA 20 19) d (h 2 (UA 12 (.call 127 [(t 11)])) d (v 6 [11,13] (LA 16 15) (v 11 [13] (UA 21 (.build [i j 0,i j 0,.slice o 0 0,.slice o 0 0,.slice o 0 0] [(0,1,(t 10)),(1,1,(t 12)),(2,1,(t 16)),(3,1,(t 20))]))
 (h 12 (UA 7 (.alloc 0 (.agg #[i j 0,i j 0,.slice o 0 0,.slice o 0 0,.slice o 0 0]))) d (h 13 (WA 5 7 21) g .done .none) .none))) (h 6 (LA 16 15) d (h 2 (UA 12 (.call 127 [(t 11)])) d
 (v 11 [13] (UA 21 (.build [i j 0,i j 0,.slice o 0 0,.slice o 0 0,.slice o 0 0] [(0,1,(t 10)),(1,1,(t 12)),(2,1,(t 16)),(3,1,(t 20))])) (h 12 (UA 7 (.alloc 0 (.agg #[i j 0,i j 0,.slice o 0 0,.slice o 0 0,.slice o 0 0]))) d
 (h 13 (WA 5 7 21) g .done .none) .none)) (h 12 (UA 7 (.alloc 0 (.agg #[i j 0,i j 0,.slice o 0 0,.slice o 0 0,.slice o 0 0]))) d (h 2 (UA 12 (.call 127 [(t 11)])) d (v 11 [13] (UA 21 (.build [i j 0,i j 0,.slice o 0 0,.slice o 0 0,.slice o 0 0] [(0,1,(t 10)),(1,1,(t 12)),(2,1,(t 16)),(3,1,(t 20))]))
 (h 13 (WA 5 7 21) g .done .none)) .none) .none)) (h 12 (UA 7 (.alloc 0 (.agg #[i j 0,i j 0,.slice o 0 0,.slice o 0 0,.slice o 0 0]))) d (h 2 (UA 12 (.call 127 [(t 11)])) d (v 6 [11,13] (LA 16 15)
 (v 11 [13] (UA 21 (.build [i j 0,i j 0,.slice o 0 0,.slice o 0 0,.slice o 0 0] [(0,1,(t 10)),(1,1,(t 12)),(2,1,(t 16)),(3,1,(t 20))])) (h 13 (WA 5 7 21) g .done .none))) (h 6 (LA 16 15) d
 (h 2 (UA 12 (.call 127 [(t 11)])) d (v 11 [13] (UA 21 (.build [i j 0,i j 0,.slice o 0 0,.slice o 0 0,.slice o 0 0] [(0,1,(t 10)),(1,1,(t 12)),(2,1,(t 16)),(3,1,(t 20))])) (h 13 (WA 5 7 21) g
 .done .none)) .none) .none)) .none))) (h 12 (UA 7 (.alloc 0 (.agg #[i j 0,i j 0,.slice o 0 0,.slice o 0 0,.slice o 0 0]))) d (h 2 (UA 12 (.call 127 [(t 11)])) d (v 6 [11,13] (LA 16 15) (v 10 [11,13] (LA 20 19)
 (v 11 [13] (UA 21 (.build [i j 0,i j 0,.slice o 0 0,.slice o 0 0,.slice o 0 0] [(0,1,(t 10)),(1,1,(t 12)),(2,1,(t 16)),(3,1,(t 20))])) (h 13 (WA 5 7 21) g .done .none)))) (h 6 (LA 16 15) d
 (h 2 (UA 12 (.call 127 [(t 11)])) d (v 10 [11,13] (LA 20 19) (v 11 [13] (UA 21 (.build [i j 0,i j 0,.slice o 0 0,.slice o 0 0,.slice o 0 0] [(0,1,(t 10)),(1,1,(t 12)),(2,1,(t 16)),(3,1,(t 20))]))
 (h 13 (WA 5 7 21) g .done .none))) (h 10 (LA 20 19) d (h 2 (UA 12 (.call 127 [(t 11)])) d (v 11 [13] (UA 21 (.build [i j 0,i j 0,.slice o 0 0,.slice o 0 0,.slice o 0 0] [(0,1,(t 10)),(1,1,(t 12)),(2,1,(t 16)),(3,1,(t 20))]))
 (h 13 (WA 5 7 21) g .done .none)) .none) .none)) (h 10 (LA 20 19) d (h 2 (UA 12 (.call 127 [(t 11)])) d (v 6 [11,13] (LA 16 15) (v 11 [13] (UA 21 (.build [i j 0,i j 0,.slice o 0 0,.slice o 0 0,.slice o 0 0] [(0,1,(t 10)),(1,1,(t 12)),(2,1,(t 16)),(3,1,(t 20))]))
 (h 13 (WA 5 7 21) g .done .none))) (h 6 (LA 16 15) d (h 2 (UA 12 (.call 127 [(t 11)])) d (v 11 [13] (UA 21 (.build [i j 0,i j 0,.slice o 0 0,.slice o 0 0,.slice o 0 0] [(0,1,(t 10)),(1,1,(t 12)),(2,1,(t 16)),(3,1,(t 20))]))
 (h 13 (WA 5 7 21) g .done .none)) .none) .none)) .none))) .none))))))))))))) (q (q (r 0 [MA 22 2,UA 23 (n (t 22)),CA 24 0]) (z 0 (.loop c91l0))) (q (r 0 [SA 38 5 7,
 (WA 5 6 38)]) .ret))))
def c95:LCode:=(q (r 2 [UA 4 (u 0 (t 0)),UA 7 (u 1 (t 3)),UA 8 (m (k (y g)))]) (q (r 1 [FA 14 0 4,LA 15 14,UA 16 (.mk 0 1 1 [.bool g] (t 15) (t 15)),MA 9 16])
 (q (q (r 0 [FA 17 4 7,LA 18 17,UA 19 (n (t 18)),CA 20 0]) (z 0 (.loop (q (r 0 [UA 21 (b .lss g (t 20) (t 19))]) (q (c (t 21) .skip (.exit 0)) (q (z 1 (q (r 0 [
 (MA 22 20),XA 23 1 18 20,LA 24 23,MA 10 22,MA 11 24]) (q (q (r 0 [MA 25 11,UA 26 (b .lss g (t 25) (k (i j 0))),MA 27 26,GA 28 (m (t 11)) 27 g,
 (GA 29 (f 0 (t 4)) 27 g),GA 30 (l o (t 29)) 27 g,GA 31 (b .geq g (t 28) (t 30)) 27 g,UA 32 (p (t 27) (k (y d)) (t 31)),MA 33 32,GA 34 (m (t 10)) 33 g,GA 35 (b .gtr g (t 34) (k (i j 0))) 33 g,
 (GA 36 (m (t 35)) 33 g),GA 37 (m (t 11)) 36 d,GA 38 (f 4 (t 7)) 36 d,GA 39 (l o (t 38)) 36 d,GA 40 (m (t 10)) 36 d,GA 41 (b .sub d (t 40) (k (i j 1))) 36 d,GA 42 (x 1 (t 39) (t 41)) 36 d,
 (GA 43 (l o (t 42)) 36 d),GA 44 (b .leq g (t 37) (t 43)) 36 d,GA 45 (p (t 36) (t 44) (k (y g))) 33 g,UA 46 (p (t 33) (k (y d)) (t 45))]) (c (t 46) (q (r 0 [UA 8 (m (k (y g)))]) .ret)
 .skip)) (r 0 [MA 47 9,MA 48 11,XA 49 1 47 48,⟨o,w 1 (t 49) (k (y d)),o⟩])))) (r 0 [UA 50 (b .add d (t 20) (k (i j 1))),MA 20 50]))))))) (q (q (r 0 [MA 51 9,
 (MA 52 1),XA 53 1 51 52,LA 54 53,UA 55 (.not (t 54)),MA 56 55,GA 57 (m (t 9)) 56 g,GA 58 (m (t 2)) 56 g,GA 59 (x 1 (t 57) (t 58)) 56 g,GA 60 (l o (t 59)) 56 g,
 (UA 61 (p (t 56) (k (y d)) (t 60)))]) (c (t 61) (q (r 0 [UA 8 (m (k (y g)))]) .ret) .skip)) (q (q (r 0 [FA 62 1 4,LA 63 62,UA 64 (n (t 63)),CA 65 0]) (z 2 (.loop
 (q (r 0 [UA 66 (b .lss g (t 65) (t 64))]) (q (c (t 66) .skip (.exit 2)) (q (z 3 (q (r 1 [MA 67 65,XA 68 4 63 65,SA 69 4 68,UA 13 (.alloc 0 (.agg #[i j 0,i j 0,i j 0,i j 0])),
 (MA 12 67),WA 4 13 69]) (q (.qui 0 [MA 70 9,FA 71 0 13,LA 72 71,XA 73 1 70 72,LA 74 73,MA 75 74,GA 76 (m (t 9)) 75 d,
 (GA 77 (f 1 (t 13)) 75 d),GA 78 (l o (t 77)) 75 d,GA 79 (x 1 (t 76) (t 78)) 75 d,GA 80 (l o (t 79)) 75 d,GA 81 (.not (t 80)) 75 d,UA 82 (p (t 75) (t 81) (k (y g))),MA 83 82,
 (GA 84 (f 2 (t 7)) 83 d),GA 85 (l o (t 84)) 83 d,GA 86 (m (t 12)) 83 d,GA 87 (x 1 (t 85) (t 86)) 83 d,GA 88 (l o (t 87)) 83 d,GA 89 (f 2 (t 13)) 83 d,GA 90 (l o (t 89)) 83 d,
 (GA 91 (b .neq g (t 88) (t 90)) 83 d),UA 92 (p (t 83) (t 91) (k (y g))),MA 93 92,GA 94 (m (t 9)) 93 g,GA 95 (f 0 (t 13)) 93 g,GA 96 (l o (t 95)) 93 g,GA 97 (x 1 (t 94) (t 96)) 93 g,
 (GA 98 (l o (t 97)) 93 g),GA 99 (.not (t 98)) 93 g,GA 100 (m (t 99)) 93 g,GA 101 (m (t 9)) 100 d,GA 102 (f 1 (t 13)) 100 d,GA 103 (l o (t 102)) 100 d,GA 104 (x 1 (t 101) (t 103)) 100 d,
 (GA 105 (l o (t 104)) 100 d),GA 106 (p (t 100) (t 105) (k (y g))) 93 g,GA 107 (m (t 106)) 93 g,GA 108 (f 2 (t 7)) 107 d,GA 109 (l o (t 108)) 107 d,GA 110 (m (t 12)) 107 d,
 (GA 111 (x 1 (t 109) (t 110)) 107 d),GA 112 (l o (t 111)) 107 d,GA 113 (b .neq g (t 112) (k (i j 0))) 107 d,GA 114 (p (t 107) (t 113) (k (y g))) 93 g,UA 115 (p (t 93) (k (y d)) (t 114))])
 (c (t 115) (q (r 0 [UA 8 (m (k (y g)))]) .ret) .skip)))) (r 0 [UA 116 (b .add d (t 65) (k (i j 1))),MA 65 116]))))))) (q (r 0 [UA 8 (m (k (y d)))]) .ret))))))
def c122:LCode:=(q (r 0 [UA 4 (m (k (.slice o 0 0)))]) (q (q (r 0 [MA 9 1,UA 10 (b .lss g (t 9) (k (i j 0)))]) (c (t 10) .bad .skip)) (q (r 0 [MA 13 0,UA 14 (n (t 13)),UA 15 (.conv g .u64 (t 14)),
 (MA 16 1),UA 17 (.conv g .u64 (t 16)),UA 18 (.call 144 [(t 15),(t 17)]),MA 12 18,UA 19 (.ext (t 12) 0),UA 20 (.ext (t 12) 1),MA 5 19,MA 6 20]) (q (q (r 0 [
 (MA 21 5),UA 22 (b .gtr g (t 21) (k (.int .u64 0))),MA 23 22,GA 24 (m (t 6)) 23 g,GA 25 (b .gtr g (t 24) (k (.int .u64 9223372036854775807))) 23 g,UA 26 (p (t 23) (k (y d)) (t 25))])
 (c (t 26) .bad .skip)) (q (r 1 [MA 28 6,UA 29 (.conv g .i64 (t 28)),UA 30 (.mk 0 1 8 [i j 0] (t 29) (t 29)),MA 7 30]) (q (r 0 [MA 31 7,MA 32 0,UA 33 (.copy 1 (t 31) (t 32)),
 (MA 8 33)]) (q (z 0 (.loop (q (q (r 0 [MA 34 8,MA 35 7,UA 36 (n (t 35)),UA 37 (b .lss g (t 34) (t 36))]) (c (t 37) .skip (.exit 0))) (z 1 (.tree 0 (v 0 [8,9] (MA 38 8)
 (v 1 [3,7,8,9] (MA 39 7) (v 2 [3,7,8,9] (MA 40 8) (v 3 [7,8,9] (UA 41 (.slice 1 (t 39) (s (t 40)) o o)) (v 4 [6,7,8,9] (MA 42 7) (v 5 [6,7,8,9] (MA 43 8) (v 6 [7,8,9] (UA 44 (.slice 1 (t 42) o (s (t 43)) o))
 (h 7 (UA 45 (.copy 1 (t 41) (t 44))) g (v 8 [9] (UA 46 (b .add d (t 38) (t 45))) (v 9 [] (MA 8 46) .done)) .none))))))))))))) (q (r 0 [MA 47 7,MA 4 47]) .ret))))))))
def c127:LCode:=(q (r 0 [CA 2 0]) (q (r 0 [CA 3 0]) (q (q (r 0 [MA 6 0,UA 7 (.nilc (t 6)),FA 8 0 7,FA 9 1 8,LA 10 9,UA 11 (n (t 10)),
 (CA 12 0)]) (z 0 (.loop (q (r 0 [UA 13 (b .lss g (t 12) (t 11))]) (q (c (t 13) .skip (.exit 0)) (q (z 1 (q (r 1 [MA 14 12,XA 15 4 10 12,SA 16 4 15,
 (UA 5 (.alloc 0 (.agg #[i j 0,i j 0,i j 0,i j 0]))),MA 4 14,WA 4 5 16]) (.qui 0 [MA 17 3,FA 18 3 5,LA 19 18,MA 20 0,UA 21 (.nilc (t 20)),
 (FA 22 2 21),LA 23 22,MA 24 4,XA 25 1 23 24,LA 26 25,UA 27 (b .mul d (t 19) (t 26)),UA 28 (b .add d (t 17) (t 27)),MA 3 28]))) (r 0 [
 (UA 29 (b .add d (t 12) (k (i j 1)))),MA 12 29]))))))) (q (r 0 [MA 30 3,MA 2 30]) .ret))))
def c144:LCode:=(q (r 0 [UA 4 (m (k (.int .u64 0))),UA 5 (m (k (.int .u64 0)))]) (q (c (k (y g)) (q (r 0 [MA 11 0,UA 12 (.conv g .u32 (t 11)),MA 13 1,UA 14 (.conv g .u32 (t 13)),
 (UA 15 (.call 154 [(t 12),(t 14)])),MA 10 15,UA 16 (.ext (t 10) 0),UA 17 (.ext (t 10) 1),MA 6 16,MA 7 17]) (q (r 0 [MA 18 6,UA 19 (.conv d .u64 (t 18)),MA 20 7,
 (UA 21 (.conv d .u64 (t 20))),MA 4 19,MA 5 21]) .ret)) .skip) (q (r 0 [MA 23 0,MA 24 1,UA 25 (.call 155 [(t 23),(t 24)]),MA 22 25,UA 26 (.ext (t 22) 0),
 (UA 27 (.ext (t 22) 1)),MA 8 26,MA 9 27]) (q (r 0 [MA 28 8,MA 29 9,MA 4 28,MA 5 29]) .ret))))
def c145:LCode:=(q (.tree 0 (v 0 [1,2,3,24,25,26,27] (MA 6 0) (v 1 [2,3,24,25,26,27] (UA 7 (.nilc (t 6))) (v 2 [3,24,25,26,27] (FA 8 0 7) (v 3 [24,25,26,27] (LA 9 8) (v 4 [24,25,26,27] (MA 10 1)
 (v 5 [6,7,8,24,25,26,27] (MA 11 0) (v 6 [7,8,24,25,26,27] (UA 12 (.nilc (t 11))) (v 7 [8,24,25,26,27] (FA 13 0 12) (v 8 [24,25,26,27] (LA 14 13) (v 9 [26,27] (MA 15 2) (v 10 [11,12,13,15,16,24,25,26,27] (MA 16 0)
 (v 11 [12,13,15,16,24,25,26,27] (UA 17 (.nilc (t 16))) (v 12 [13,15,16,24,25,26,27] (FA 18 0 17) (v 13 [15,16,24,25,26,27] (LA 19 18) (v 14 [15,16,24,25,26,27] (MA 20 2) (v 15 [16,24,25,26,27] (XA 21 1 19 20)
 (v 16 [24,25,26,27] (LA 22 21) (v 17 [18,19,20,22,23,24,25,26,27] (MA 23 0) (v 18 [19,20,22,23,24,25,26,27] (UA 24 (.nilc (t 23))) (v 19 [20,22,23,24,25,26,27] (FA 25 0 24) (v 20 [22,23,24,25,26,27] (LA 26 25)
 (v 21 [22,23,24,25,26,27] (MA 27 1) (v 22 [23,24,25,26,27] (XA 28 1 26 27) (v 23 [24,25,26,27] (LA 29 28) (v 24 [25,26,27] (XA 30 1 9 10) (h 25 (WA 1 30 22) g
 (v 26 [27] (XA 31 1 14 15) (h 27 (WA 1 31 29) g .done .none)) .none))))))))))))))))))))))))))) (.tree 0 (v 0 [1,2,3,24,25,26,27] (MA 32 0) (v 1 [2,3,24,25,26,27] (UA 33 (.nilc (t 32)))
 (v 2 [3,24,25,26,27] (FA 34 1 33) (v 3 [24,25,26,27] (LA 35 34) (v 4 [24,25,26,27] (MA 36 1) (v 5 [6,7,8,24,25,26,27] (MA 37 0) (v 6 [7,8,24,25,26,27] (UA 38 (.nilc (t 37)))
 (v 7 [8,24,25,26,27] (FA 39 1 38) (v 8 [24,25,26,27] (LA 40 39) (v 9 [26,27] (MA 41 2) (v 10 [11,12,13,15,16,24,25,26,27] (MA 42 0) (v 11 [12,13,15,16,24,25,26,27] (UA 43 (.nilc (t 42)))
 (v 12 [13,15,16,24,25,26,27] (FA 44 1 43) (v 13 [15,16,24,25,26,27] (LA 45 44) (v 14 [15,16,24,25,26,27] (MA 46 2) (v 15 [16,24,25,26,27] (XA 47 1 45 46) (v 16 [24,25,26,27] (LA 48 47)
 (v 17 [18,19,20,22,23,24,25,26,27] (MA 49 0) (v 18 [19,20,22,23,24,25,26,27] (UA 50 (.nilc (t 49))) (v 19 [20,22,23,24,25,26,27] (FA 51 1 50) (v 20 [22,23,24,25,26,27] (LA 52 51)
 (v 21 [22,23,24,25,26,27] (MA 53 1) (v 22 [23,24,25,26,27] (XA 54 1 52 53) (v 23 [24,25,26,27] (LA 55 54) (v 24 [25,26,27] (XA 56 1 35 36) (h 25 (WA 1 56 48) g
 (v 26 [27] (XA 57 1 40 41) (h 27 (WA 1 57 55) g .done .none)) .none))))))))))))))))))))))))))))
def c147l0:LCode:=q (r 0 [UA 9 (b .lss g (t 8) (t 7))]) (q (c (t 9) .skip (.exit 0)) (q (z 1 (q (r 0 [MA 10 8,MA 5 10]) (q (r 0 [MA 11 1,MA 12 0,MA 13 5,
 (XA 14 1 12 13),LA 15 14,UA 16 (.callv (t 11) [(t 15)])]) (c (t 16) (q (r 0 [MA 17 5,MA 4 17]) .ret) .skip)))) (r 0 [UA 18 (b .add d (t 8) (k (i j 1))),
 (MA 8 18)])))
def c147:LCode:=(q (r 0 [CA 4 0]) (q (q (r 0 [MA 6 0,UA 7 (n (t 6)),CA 8 0]) (z 0 (.loop c147l0))) (q (r 0 [UA 4 (m (k (.int .i64 (-1))))]) .ret)))
open Go Go.Fx Go.Proofs
theorem lw25:rlF Tryz.prog 25 c25=some (c25,[.cell 2 (some 2)],129):=by kernel_rfl
theorem lw37:rlF Tryz.prog 37 c37=some (c37,[.tmp 2],9):=by kernel_rfl
theorem lw38:rlF Tryz.prog 38 c38=some (c38,[.tmp 4],17):=by kernel_rfl
theorem lw58:rlF Tryz.prog 58 c58=some (c58,[.tmp 14],40):=by kernel_rfl
theorem lw91:rlF Tryz.prog 91 c91=some (c91,[.cell 6 (some 5)],39):=by kernel_rfl
theorem lw95:rlF Tryz.prog 95 c95=some (c95,[.tmp 8],117):=by kernel_rfl
theorem lw122:rlF Tryz.prog 122 c122=some (c122,[.tmp 4],48):=by kernel_rfl
theorem lw127:rlF Tryz.prog 127 c127=some (c127,[.tmp 2],31):=by kernel_rfl
theorem lw144:rlF Tryz.prog 144 c144=some (c144,[.tmp 4,.tmp 5],30):=by kernel_rfl
theorem lw145:rlF Tryz.prog 145 c145=some (c145,[],58):=by kernel_rfl
theorem lw147:rlF Tryz.prog 147 c147=some (c147,[.tmp 4],19):=by kernel_rfl
end Go.Fx.E
namespace Go.Fx.E
open Go Go.Fx
open Go.Operand renaming tmp → t, const → k
open Go.Value renaming int → i, bool → y
open Go.IntKind renaming i64 → j
open Option renaming some → s, none → o
open Go.Fx.LOp renaming mov → m, load → l, fld → f, bin → b, idx → x, store → w, pick → p, len → n, box → u
open Go.Fx.LCode renaming seq → q, reg → r, cond → c, block → z
open Go.Fx.LPlan renaming take → v, alt → h
open Bool renaming false → g, true → d
end Go.Fx.E
