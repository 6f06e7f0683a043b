import Derived.Test.YtgahgbpccjcmmaaFxRun
set_option linter.unusedVariables false
set_option linter.unusedSimpArgs false
set_option linter.unusedSectionVars false
namespace Go.Fx.D
open Go Go.Fx
abbrev MA (n x : Nat) : LOper := ⟨some n,.mov (.tmp x),none⟩
abbrev LA (n x : Nat) : LOper := ⟨some n,.load none (.tmp x),none⟩
abbrev FA (n k x : Nat) : LOper := ⟨some n,.fld k (.tmp x),none⟩
abbrev SA (n k x : Nat) : LOper := ⟨some n,.load (some k) (.tmp x),none⟩
abbrev XA (n k x y : Nat) : LOper := ⟨some n,.idx k (.tmp x) (.tmp y),none⟩
abbrev CA (n : Nat) (x : Int) : LOper := ⟨some n,.mov (.const (.int .i64 x)),none⟩
abbrev WA (k x y : Nat) : LOper := ⟨none,.store k (.tmp x) (.tmp y),none⟩
abbrev UA (n : Nat) (x : LOp) : LOper := ⟨some n,x,none⟩
abbrev GA (n : Nat) (x : LOp) (a : Nat) (b : Bool) : LOper := ⟨some n,x,some (a,b)⟩
open Go.Operand renaming tmp → t, const → k
open Go.Value renaming int → i, bool → y
open Go.IntKind renaming i64 → j
open Option renaming some → s, none → o
open Go.Fx.LOp renaming mov → m, load → l, fld → f, bin → b, idx → x, store → w, pick → p, len → n, box → u
open Go.Fx.LCode renaming seq → q, reg → r, cond → c, block → z
open Go.Fx.LPlan renaming take → v, alt → h
open Bool renaming false → g, true → d
def c3l0 : LCode :=
 q (r 0 [UA 50 (b .lss g (t 49) (t 48))]) (q (c (t 50) .skip (.exit 0)) (q (z 1 (q (r 1 [XA 51 3 47 49,SA 52 3 51,UA 8 (.alloc 0 (.agg #[i j 0,i j 0,i j 0])),WA 3 8 52])
 (q (r 0 [UA 9 (m (k (y d)))]) (q (r 0 [MA 54 5,MA 55 6,SA 56 3 8,UA 57 (.call 10 [(t 54),(t 55),(t 56)]),MA 53 57,UA 58 (.ext (t 53) 0),UA 59 (.ext (t 53) 1),
 (UA 60 (.ext (t 53) 2)),MA 5 58,MA 6 59,MA 9 60]) (q (r 0 [MA 61 9,UA 62 (.not (t 61))]) (c (t 62) (q (r 0 [UA 4 (m (k (y g)))]) .ret) .skip)))))) (r 0 [UA 63 (b .add d (t 49) (k (i j 1))),
 (MA 49 63)])))
def c3l1 : LCode :=
 q (r 0 [UA 66 (b .lss g (t 65) (t 64))]) (q (c (t 66) .skip (.exit 2)) (q (z 3 (q (r 0 [MA 67 65,MA 10 67]) (q (r 1 [MA 69 5,MA 70 10,UA 71 (.call 11 [(t 69),(t 70)]),
 (MA 68 71),UA 72 (.ext (t 68) 0),UA 73 (.ext (t 68) 1),UA 11 (.alloc 0 (.agg (Array.replicate 64 (.int .u8 0)))),WA 64 11 72,MA 12 73]) (q (r 1 [MA 74 6,
 (MA 75 10),UA 76 (.call 12 [(t 74),(t 75)]),UA 13 (.alloc 0 (.agg (Array.replicate 64 (.int .u8 0) ++ #[i j 0]))),WA 65 13 76]) (q (r 0 [SA 77 64 11,FA 78 0 13,
 (SA 79 64 78),UA 80 (.prim (.aeq d ((List.range' 0 64).map fun i => (i,(.int .u8)))) [(t 77),(t 79)]),MA 81 80,GA 82 (m (t 12)) 81 g,GA 83 (f 64 (t 13)) 81 g,GA 84 (l o (t 83)) 81 g,
 (GA 85 (b .neq g (t 82) (t 84)) 81 g),UA 86 (p (t 81) (k (y d)) (t 85))]) (c (t 86) (q (r 0 [UA 4 (m (k (y g)))]) .ret) .skip)))))) (r 0 [UA 87 (b .add d (t 65) (k (i j 1))),MA 65 87])))
def c3 : LCode :=
 (q (r 0 [UA 4 (m (k (y g)))]) (q (r 0 [MA 14 0,UA 15 (.call 7 [(t 14)]),MA 5 15]) (q (q (r 0 [MA 16 0,UA 17 (b .lss g (t 16) (k (i j 1))),MA 18 17,GA 19 (m (t 0)) 18 g,
 (GA 20 (b .gtr g (t 19) (k (i j 65536))) 18 g),UA 21 (p (t 18) (k (y d)) (t 20))]) (c (t 21) (q (r 0 [UA 22 (.call 8 []),MA 23 22,GA 24 (m (t 5)) 23 d,GA 25 (.prim (.peq g) [(t 24),(k (.pointer o))]) 23 d,
 (UA 26 (p (t 23) (t 25) (k (y g)))),MA 4 26]) .ret) .skip)) (q (q (r 0 [MA 27 0,UA 28 (b .gtr g (t 27) (k (i j 200))),MA 29 28,GA 30 (m (t 1)) 29 g,GA 31 (n (t 30)) 29 g,
 (GA 32 (b .gtr g (t 31) (k (i j 60))) 29 g),UA 33 (p (t 29) (k (y d)) (t 32))]) (c (t 33) (q (r 0 [UA 34 (.call 8 []),MA 4 34]) .ret) .skip)) (q (q (r 0 [MA 35 5,UA 36 (.prim (.peq g) [(t 35),(k (.pointer o))])])
 (c (t 36) (q (r 0 [UA 4 (m (k (y g)))]) .ret) .skip)) (q (r 0 [MA 37 0,UA 38 (.call 9 [(t 37)]),MA 6 38]) (q (q (r 2 [MA 39 1,MA 40 1,UA 41 (n (t 40)),MA 42 1,
 (UA 43 (n (t 42))),UA 44 (.slice 3 (t 39) o (s (t 41)) (s (t 43))),UA 45 (.build [i j 0,i j 0,i j 0] [(0,1,(k (i j 9)))]),UA 46 (.lits 0 3 1 [i j 0,i j 0,i j 0] [(0,(t 45))]),UA 47 (.append 1 3 24 (t 44) (t 46)),
 (UA 48 (n (t 47))),CA 49 0]) (z 0 (.loop c3l0))) (q (q (r 0 [MA 64 0,CA 65 0]) (z 2 (.loop c3l1))) (q (r 0 [UA 88 (.call 8 []),MA 4 88]) .ret)))))))))
 
def c4l0 : LCode :=
 q (r 0 [UA 62 (b .lss g (t 61) (k (i j 16)))]) (q (c (t 62) .skip (.exit 0)) (q (z 1 (q (r 0 [MA 63 61,MA 11 63]) (q (r 1 [MA 65 10,MA 66 11,UA 67 (.call 11 [(t 65),(t 66)]),
 (MA 64 67),UA 68 (.ext (t 64) 0),UA 69 (.ext (t 64) 1),UA 12 (.alloc 0 (.agg (Array.replicate 64 (.int .u8 0)))),WA 64 12 68,MA 13 69]) (q (q (r 0 [MA 70 11,
 (UA 71 (.prim (.pidx 16 1) [(t 9),(t 70)])),LA 72 71,UA 73 (n (t 72)),UA 74 (b .eql g (t 73) (k (i j 0)))]) (c (t 74) (q (q (.qui 0 [MA 75 13,UA 76 (b .neq g (t 75) (k (i j 0))),
 (MA 77 76),GA 78 (l (s 64) (t 12)) 77 g,GA 79 (m (t 11)) 77 g,GA 80 (.prim (.pidx 16 64) [(t 8),(t 79)]) 77 g,GA 81 (l (s 64) (t 80)) 77 g,GA 82 (.prim (.aeq d ((List.range' 0 64).map fun i => (i,(.int .u8)))) [(t 78),(t 81)]) 77 g,
 (UA 83 (p (t 77) (k (y d)) (t 82)))]) (c (t 83) (q (r 0 [UA 6 (m (k (y g)))]) .ret) .skip)) (.exit 1)) .skip)) (q (q (.tail 8 0 [SA 84 64 12,MA 85 13,MA 86 11,UA 87 (.prim (.pidx 16 64) [(t 8),(t 86)]),
 (SA 88 64 87),MA 89 11,UA 90 (.prim (.pidx 16 1) [(t 9),(t 89)]),LA 91 90,UA 92 (.call 19 [(t 84),(t 85),(t 88),(t 91)]),UA 93 (.not (t 92))]) (c (t 93) (q (r 0 [
 (UA 6 (m (k (y g))))]) .ret) .skip)) (q (r 1 [MA 95 7,MA 96 11,UA 97 (.call 11 [(t 95),(t 96)]),MA 94 97,UA 98 (.ext (t 94) 0),UA 99 (.ext (t 94) 1),UA 14 (.alloc 0 (.agg (Array.replicate 64 (.int .u8 0)))),
 (WA 64 14 98),MA 15 99]) (q (.qui 0 [MA 100 15,UA 101 (b .neq g (t 100) (k (i j 0))),MA 102 101,GA 103 (l (s 64) (t 14)) 102 g,GA 104 (m (t 11)) 102 g,
 (GA 105 (.prim (.pidx 16 1) [(t 9),(t 104)]) 102 g),GA 106 (l o (t 105)) 102 g,GA 107 (m (t 11)) 102 g,GA 108 (.prim (.pidx 16 1) [(t 9),(t 107)]) 102 g,GA 109 (l o (t 108)) 102 g,
 (GA 110 (n (t 109)) 102 g),GA 111 (b .sub d (t 110) (k (i j 1))) 102 g,GA 112 (x 64 (t 106) (t 111)) 102 g,GA 113 (l (s 64) (t 112)) 102 g,GA 114 (.prim (.aeq d ((List.range' 0 64).map fun i => (i,(.int .u8)))) [(t 103),(t 113)]) 102 g,
 (UA 115 (p (t 102) (k (y d)) (t 114)))]) (c (t 115) (q (r 0 [UA 6 (m (k (y g)))]) .ret) .skip)))))))) (r 0 [UA 116 (b .add d (t 61) (k (i j 1))),MA 61 116])))
def c4 : LCode :=
 (q (r 0 [UA 6 (m (k (y g)))]) (q (q (r 0 [MA 16 0,UA 17 (n (t 16)),UA 18 (b .gtr g (t 17) (k (i j 40))),MA 19 18,GA 20 (m (t 2)) 19 g,GA 21 (n (t 20)) 19 g,GA 22 (b .gtr g (t 21) (k (i j 20))) 19 g,
 (UA 23 (p (t 19) (k (y d)) (t 22)))]) (c (t 23) (q (r 0 [UA 24 (.call 8 []),MA 6 24]) .ret) .skip)) (q (r 2 [MA 26 0,MA 27 1,UA 28 (.conv d .i64 (t 27)),UA 29 (b .rem g (t 28) (k (i j 41))),
 (UA 30 (.call 13 [(t 26),(t 29)])),MA 25 30,UA 31 (.ext (t 25) 0),UA 32 (.ext (t 25) 1),UA 33 (.ext (t 25) 2),UA 8 (.alloc 0 (.agg (Array.replicate 1024 (.int .u8 0)))),UA 9 (.alloc 1 (.agg (Array.replicate 16 (.slice o 0 0)))),
 (MA 7 31),WA 1024 8 32,WA 16 9 33]) (q (q (r 0 [MA 34 7,UA 35 (.prim (.peq g) [(t 34),(k (.pointer o))])]) (c (t 35) (q (r 0 [UA 6 (m (k (y g)))]) .ret)
 .skip)) (q (r 0 [MA 36 7,MA 37 2,UA 38 (.call 14 [(t 36),(t 37)]),MA 10 38]) (q (q (r 0 [MA 39 10,UA 40 (.prim (.peq g) [(t 39),(k (.pointer o))]),MA 41 40,
 (GA 42 (m (t 10)) 41 g),GA 43 (.call 15 [(t 42)]) 41 g,GA 44 (b .neq g (t 43) (k (i j 16))) 41 g,UA 45 (p (t 41) (k (y d)) (t 44)),MA 46 45,GA 47 (m (t 10)) 46 g,GA 48 (.call 16 [(t 47)]) 46 g,
 (UA 49 (p (t 46) (k (y d)) (t 48))),MA 50 49,GA 51 (m (t 10)) 50 g,GA 52 (.call 17 [(t 51)]) 50 g,GA 53 (b .neq g (t 52) (k (i j 0))) 50 g,UA 54 (p (t 50) (k (y d)) (t 53)),
 (MA 55 54),GA 56 (m (t 10)) 55 g,GA 57 (.call 18 [(t 56)]) 55 g,GA 58 (n (t 57)) 55 g,GA 59 (b .neq g (t 58) (k (i j 0))) 55 g,UA 60 (p (t 55) (k (y d)) (t 59))]) (c (t 60)
 (q (r 0 [UA 6 (m (k (y g)))]) .ret) .skip)) (q (q (r 0 [CA 61 0]) (z 0 (.loop c4l0))) (q (r 0 [UA 117 (.call 8 []),MA 6 117]) .ret)))))))) 
def c7 : LCode :=
 (q (r 0 [UA 2 (m (k (.pointer o)))]) (q (q (r 0 [MA 3 0,UA 4 (b .lss g (t 3) (k (i j 1))),MA 5 4,GA 6 (m (t 0)) 5 g,GA 7 (b .gtr g (t 6) (k (i j 65536))) 5 g,UA 8 (p (t 5) (k (y d)) (t 7))])
 (c (t 8) (q (r 0 [UA 2 (m (k (.pointer o)))]) .ret) .skip)) (q (r 3 [MA 9 0,UA 10 (.mk 0 65 65 (List.replicate 64 (.int .u8 0) ++ [.bool g]) (t 9) (t 9)),UA 11 (.mkmap 1 o),UA 12 (.build [.slice o 0 0,.map o,i j 0,i j 0,.bool g] [(0,1,(t 10)),(1,1,(t 11)),(3,1,(k (.int .i64 (-1))))]),
 (UA 13 (u 2 (t 12))),MA 2 13]) .ret))) 
def c8 : LCode :=
 (q (r 0 [UA 0 (m (k (y g)))]) (q (r 2 [UA 17 (.call 23 [(k (i j 1))]),UA 18 (.call 23 [(k (i j 2))]),UA 1 (.alloc 0 (.agg (Array.replicate 64 (.int .u8 0)))),UA 2 (.alloc 1 (.agg (Array.replicate 64 (.int .u8 0)))),
 (WA 64 1 17),WA 64 2 18]) (q (r 0 [UA 19 (.call 7 [(k (i j 4))]),MA 3 19]) (q (q (r 0 [MA 20 3,UA 21 (.prim (.peq g) [(t 20),(k (.pointer o))]),MA 22 21,
 (GA 23 (m (t 3)) 22 g),GA 24 (l (s 64) (t 1)) 22 g,GA 25 (.call 22 [(t 23),(k (i j 2)),(t 24)]) 22 g,GA 26 (b .neq g (t 25) (k (i j 0))) 22 g,UA 27 (p (t 22) (k (y d)) (t 26))])
 (c (t 27) (q (r 0 [UA 0 (m (k (y g)))]) .ret) .skip)) (q (r 1 [MA 29 3,UA 30 (.call 11 [(t 29),(k (i j 2))]),MA 28 30,UA 31 (.ext (t 28) 0),UA 32 (.ext (t 28) 1),UA 4 (.alloc 0 (.agg (Array.replicate 64 (.int .u8 0)))),
 (WA 64 4 31),MA 5 32]) (q (q (r 1 [MA 33 5,UA 34 (b .neq g (t 33) (k (i j 0))),MA 35 34,GA 36 (l (s 64) (t 4)) 35 g,GA 37 (l (s 64) (t 1)) 35 g,
 (GA 38 (.prim (.aeq d ((List.range' 0 64).map fun i => (i,(.int .u8)))) [(t 36),(t 37)]) 35 g),UA 39 (p (t 35) (k (y d)) (t 38)),MA 40 39,GA 41 (m (t 3)) 40 g,GA 42 (.call 18 [(t 41)]) 40 g,
 (GA 43 (.lits 0 1 1 [i j 0] [(0,(k (i j 2)))]) 40 g),GA 44 (.call 26 [(t 42),(t 43)]) 40 g,GA 45 (.not (t 44)) 40 g,UA 46 (p (t 40) (k (y d)) (t 45)),MA 47 46,GA 48 (m (t 3)) 47 g,
 (GA 49 (l (s 64) (t 2)) 47 g),GA 50 (.call 22 [(t 48),(k (i j 2)),(t 49)]) 47 g,GA 51 (b .neq g (t 50) (k (i j 0))) 47 g,UA 52 (p (t 47) (k (y d)) (t 51))]) (c (t 52) (q (r 0 [UA 0 (m (k (y g)))])
 .ret) .skip)) (q (r 1 [SA 53 64 2,UA 6 (.alloc 0 (.agg (Array.replicate 64 (.int .u8 0)))),WA 64 6 53]) (q (.tail 2 0 [UA 54 (.prim (.pslc 64 d g g) [(t 6),(k (i j 32))]),
 (UA 55 (.prim (.pslc 64 g d g) [(t 1),(k (i j 32))])),UA 56 (.copy 1 (t 54) (t 55))]) (q (q (r 1 [UA 57 (.build (List.replicate 64 (.int .u8 0)) []),SA 58 64 1,SA 59 64 2,
 (UA 60 (.build (List.replicate 64 (.int .u8 0)) [])),SA 61 64 6,UA 62 (.lits 0 64 5 (List.replicate 64 (.int .u8 0)) [(0,(t 57)),(1,(t 58)),(2,(t 59)),(3,(t 60)),(4,(t 61))]),UA 63 (n (t 62)),
 (CA 64 0)]) (z 0 (.loop (q (r 0 [UA 65 (b .lss g (t 64) (t 63))]) (q (c (t 65) .skip (.exit 0)) (q (z 1 (q (r 1 [MA 66 64,XA 67 64 62 64,SA 68 64 67,
 (UA 8 (.alloc 0 (.agg (Array.replicate 64 (.int .u8 0))))),MA 7 66,WA 64 8 68]) (q (r 1 [MA 69 3,MA 70 7,UA 71 (.lits 0 1 1 [i j 0] [(0,(t 70))]),UA 72 (.call 14 [(t 69),(t 71)]),
 (MA 9 72)]) (q (q (r 0 [MA 73 9,UA 74 (.prim (.peq g) [(t 73),(k (.pointer o))])]) (c (t 74) (q (r 0 [UA 0 (m (k (y g)))]) .ret) .skip)) (q (r 1 [MA 76 9,UA 77 (.call 11 [(t 76),(k (i j 2))]),
 (MA 75 77),UA 78 (.ext (t 75) 0),UA 79 (.ext (t 75) 1),UA 10 (.alloc 0 (.agg (Array.replicate 64 (.int .u8 0)))),WA 64 10 78,MA 11 79]) (q (r 0 [SA 80 64 10,
 (SA 81 64 8),UA 82 (.prim (.aeq d ((List.range' 0 64).map fun i => (i,(.int .u8)))) [(t 80),(t 81)]),MA 83 82,GA 84 (m (t 11)) 83 g,GA 85 (b .eql g (t 84) (k (i j 131))) 83 g,
 (GA 86 (m (t 7)) 83 g),GA 87 (b .eql g (t 86) (k (i j 3))) 83 g,GA 88 (.eqb d (t 85) (t 87)) 83 g,UA 89 (p (t 83) (k (y d)) (t 88)),MA 90 89,GA 91 (m (t 9)) 90 g,GA 92 (.call 15 [(t 91)]) 90 g,
 (GA 93 (b .neq g (t 92) (k (i j 4))) 90 g),UA 94 (p (t 90) (k (y d)) (t 93)),MA 95 94,GA 96 (m (t 9)) 95 g,GA 97 (.call 18 [(t 96)]) 95 g,GA 98 (n (t 97)) 95 g,GA 99 (b .neq g (t 98) (k (i j 0))) 95 g,
 (UA 100 (p (t 95) (k (y d)) (t 99)))]) (c (t 100) (q (r 0 [UA 0 (m (k (y g)))]) .ret) .skip))))))) (r 0 [UA 101 (b .add d (t 64) (k (i j 1))),MA 64 101]))))))) (q (q (r 0 [MA 102 3,
 (UA 103 (.call 21 [(t 102)])),UA 104 (b .neq g (t 103) (k (i j 0))),MA 105 104,GA 106 (m (t 3)) 105 g,GA 107 (.call 17 [(t 106)]) 105 g,GA 108 (b .neq g (t 107) (k (i j 3))) 105 g,
 (UA 109 (p (t 105) (k (y d)) (t 108))),MA 110 109,GA 111 (m (t 3)) 110 g,GA 112 (.call 24 [(t 111),(k (i j 2)),(k (i j 9))]) 110 g,GA 113 (b .neq g (t 112) (k (i j 0))) 110 g,
 (UA 114 (p (t 110) (k (y d)) (t 113)))]) (c (t 114) (q (r 0 [UA 0 (m (k (y g)))]) .ret) .skip)) (q (r 0 [UA 115 (.prim (.pidx 64 1) [(t 2),(k (i j 1))]),⟨o,w 1 (t 115) (k (.int .u8 0)),o⟩]) (q (r 0 [
 (MA 117 3),UA 118 (.call 11 [(t 117),(k (i j 2))]),MA 116 118,UA 119 (.ext (t 116) 0),UA 120 (.ext (t 116) 1),WA 64 4 119,MA 5 120]) (q (r 0 [MA 121 5,
 (UA 122 (b .eql g (t 121) (k (i j 0)))),MA 123 122,GA 124 (l (s 64) (t 4)) 123 d,GA 125 (l (s 64) (t 2)) 123 d,GA 126 (.prim (.aeq g ((List.range' 0 64).map fun i => (i,(.int .u8)))) [(t 124),(t 125)]) 123 d,
 (UA 127 (p (t 123) (t 126) (k (y g)))),MA 128 127,GA 129 (m (t 3)) 128 d,GA 130 (.call 25 [(t 129),(k (i j 2))]) 128 d,GA 131 (b .eql g (t 130) (k (i j 0))) 128 d,UA 132 (p (t 128) (t 131) (k (y g))),
 (MA 12 132)]) (q (r 1 [MA 134 3,UA 135 (.call 11 [(t 134),(k (i j 2))]),MA 133 135,UA 136 (.ext (t 133) 0),UA 137 (.ext (t 133) 1),UA 13 (.alloc 0 (.agg (Array.replicate 64 (.int .u8 0)))),
 (WA 64 13 136),MA 14 137]) (q (r 0 [MA 138 14,UA 139 (b .eql g (t 138) (k (i j 131))),MA 140 139,GA 141 (m (t 3)) 140 d,GA 142 (l (s 64) (t 1)) 140 d,
 (GA 143 (.call 22 [(t 141),(k (i j 2)),(t 142)]) 140 d),GA 144 (b .eql g (t 143) (k (i j 0))) 140 d,UA 145 (p (t 140) (t 144) (k (y g))),MA 15 145]) (q (r 0 [MA 147 3,UA 148 (.call 11 [(t 147),(k (i j 2))]),
 (MA 146 148),UA 149 (.ext (t 146) 0),UA 150 (.ext (t 146) 1),WA 64 4 149,MA 5 150]) (q (r 0 [MA 151 3,UA 152 (.call 20 [(t 151),(k (i j 0))])]) (q (r 0 [
 (MA 153 5),UA 154 (b .eql g (t 153) (k (i j 0))),MA 155 154,GA 156 (l (s 64) (t 4)) 155 d,GA 157 (l (s 64) (t 1)) 155 d,GA 158 (.prim (.aeq g ((List.range' 0 64).map fun i => (i,(.int .u8)))) [(t 156),(t 157)]) 155 d,
 (UA 159 (p (t 155) (t 158) (k (y g)))),MA 160 159,GA 161 (m (t 3)) 160 d,GA 162 (l (s 64) (t 1)) 160 d,GA 163 (.call 22 [(t 161),(k (i j 0)),(t 162)]) 160 d,GA 164 (b .eql g (t 163) (k (i j 130))) 160 d,
 (UA 165 (p (t 160) (t 164) (k (y g)))),MA 166 165,GA 167 (m (t 3)) 166 d,GA 168 (.call 16 [(t 167)]) 166 d,UA 169 (p (t 166) (t 168) (k (y g))),MA 16 169]) (q (r 0 [MA 171 3,
 (UA 172 (.call 11 [(t 171),(k (i j 0))])),MA 170 172,UA 173 (.ext (t 170) 0),UA 174 (.ext (t 170) 1),MA 14 174]) (q (r 0 [MA 175 12,MA 176 175,GA 177 (m (t 15)) 176 d,
 (UA 178 (p (t 176) (t 177) (k (y g)))),MA 179 178,GA 180 (m (t 16)) 179 d,UA 181 (p (t 179) (t 180) (k (y g))),MA 182 181,GA 183 (m (t 14)) 182 d,GA 184 (b .eql g (t 183) (k (i j 130))) 182 d,
 (UA 185 (p (t 182) (t 184) (k (y g)))),MA 0 185]) .ret)))))))))))))))))))) 
def c9 : LCode :=
 (q (r 0 [UA 2 (m (k (.pointer o)))]) (q (q (r 0 [MA 3 0,UA 4 (b .lss g (t 3) (k (i j 1))),MA 5 4,GA 6 (m (t 0)) 5 g,GA 7 (b .gtr g (t 6) (k (i j 65536))) 5 g,UA 8 (p (t 5) (k (y d)) (t 7))])
 (c (t 8) (q (r 0 [UA 2 (m (k (.pointer o)))]) .ret) .skip)) (q (r 2 [MA 9 0,UA 10 (.mkv 0 66 96 (List.replicate 64 (.int .u8 0) ++ [.bool g,.slice o 0 0]) (t 9) (t 9)),UA 11 (.build [.slice o 0 0,i j 0,i j 0,.bool g] [(0,1,(t 10)),(2,1,(k (.int .i64 (-1))))]),
 (UA 12 (u 1 (t 11))),MA 2 12]) .ret))) 
def c10 : LCode :=
 (q (r 1 [UA 5 (u 0 (t 2)),UA 6 (m (k (.pointer o))),UA 7 (m (k (.pointer o))),UA 8 (m (k (y g)))]) (q (q (r 0 [FA 12 0 5,LA 13 12]) (z 0 (q (r 0 [UA 15 (b .eql g (t 13) (k (i j 0))),
 (MA 14 15)]) (c (t 14) (q (.tree 0 (v 0 [17,18,19] (MA 16 0) (v 1 [18,19] (MA 17 1) (v 2 [8,14,15,16,17,18,19] (MA 18 0) (v 3 [4,8,14,15,16,17,18,19] (FA 19 1 5) (v 4 [8,14,15,16,17,18,19] (LA 20 19)
 (v 5 [6,7,8,14,15,16,17,18,19] (FA 21 2 5) (v 6 [7,8,14,15,16,17,18,19] (LA 22 21) (v 9 [15,16,17,18,19] (MA 25 1) (v 10 [11,15,16,17,18,19] (FA 26 1 5) (v 11 [15,16,17,18,19] (LA 27 26)
 (v 12 [13,14,15,16,17,18,19] (FA 28 2 5) (v 13 [14,15,16,17,18,19] (LA 29 28) (h 7 (UA 23 (.call 23 [(t 22)])) d (h 8 (UA 24 (.call 22 [(t 18),(t 20),(t 23)])) d (h 14 (UA 30 (.call 23 [(t 29)])) d
 (h 15 (UA 31 (.call 27 [(t 25),(t 27),(t 30)])) g (v 16 [19] (UA 32 (b .eql g (t 24) (t 31))) (v 17 [18,19] (MA 6 16) (v 18 [19] (MA 7 17) (v 19 [] (MA 8 32) .done)))) .none) .none)
 .none) .none)))))))))))))) .ret) (q (r 0 [UA 34 (b .eql g (t 13) (k (i j 1))),MA 33 34]) (c (t 33) (q (r 0 [MA 35 0,MA 36 1,MA 37 0,UA 38 (.call 21 [(t 37)]),
 (MA 39 1),UA 40 (.call 28 [(t 39)]),UA 41 (b .eql g (t 38) (t 40)),MA 6 35,MA 7 36,MA 8 41]) .ret) (q (r 0 [UA 43 (b .eql g (t 13) (k (i j 2))),MA 42 43])
 (c (t 42) (q (r 1 [MA 45 0,FA 46 1 5,LA 47 46,UA 48 (.call 11 [(t 45),(t 47)]),MA 44 48,UA 49 (.ext (t 44) 0),UA 50 (.ext (t 44) 1),UA 9 (.alloc 0 (.agg (Array.replicate 64 (.int .u8 0)))),
 (WA 64 9 49),MA 10 50]) (q (r 1 [MA 51 1,FA 52 1 5,LA 53 52,UA 54 (.call 12 [(t 51),(t 53)]),UA 11 (.alloc 0 (.agg (Array.replicate 64 (.int .u8 0) ++ #[i j 0]))),
 (WA 65 11 54)]) (q (.qui 0 [MA 55 0,MA 56 1,SA 57 64 9,FA 58 0 11,SA 59 64 58,UA 60 (.prim (.aeq g ((List.range' 0 64).map fun i => (i,(.int .u8)))) [(t 57),(t 59)]),
 (MA 61 60),GA 62 (m (t 10)) 61 d,GA 63 (f 64 (t 11)) 61 d,GA 64 (l o (t 63)) 61 d,GA 65 (b .eql g (t 62) (t 64)) 61 d,UA 66 (p (t 61) (t 65) (k (y g))),MA 6 55,
 (MA 7 56),MA 8 66]) .ret))) (q (r 0 [UA 68 (b .eql g (t 13) (k (i j 3))),MA 67 68]) (c (t 67) (q (r 0 [MA 69 0,FA 70 2 5,LA 71 70,UA 72 (.call 20 [(t 69),(t 71)])])
 (r 0 [MA 73 1,FA 74 2 5,LA 75 74,UA 76 (.call 29 [(t 73),(t 75)])])) (q (r 0 [UA 78 (b .eql g (t 13) (k (i j 4))),MA 77 78]) (c (t 77) (q (.tree 2 (v 0 [6,13,14,15] (MA 79 0)
 (v 1 [2,5,6,13,14,15] (FA 80 1 5) (v 2 [5,6,13,14,15] (LA 81 80) (v 3 [4,5,6,13,14,15] (FA 82 2 5) (v 4 [5,6,13,14,15] (LA 83 82) (v 7 [13,14,15] (MA 86 1) (v 8 [9,12,13,14,15] (FA 87 1 5)
 (v 9 [12,13,14,15] (LA 88 87) (v 10 [11,12,13,14,15] (FA 89 2 5) (v 11 [12,13,14,15] (LA 90 89) (h 5 (UA 84 (.lits 0 1 2 [i j 0] [(0,(t 81)),(1,(t 83))])) d (h 6 (UA 85 (.call 14 [(t 79),(t 84)])) d
 (h 12 (UA 91 (.lits 1 1 2 [i j 0] [(0,(t 88)),(1,(t 90))])) d (h 13 (UA 92 (.call 30 [(t 86),(t 91)])) g (v 14 [15] (MA 0 85) (v 15 [] (MA 1 92) .done)) .none) .none) (h 12 (UA 91 (.lits 1 1 2 [i j 0] [(0,(t 88)),(1,(t 90))])) d
 (h 6 (UA 85 (.call 14 [(t 79),(t 84)])) d (h 13 (UA 92 (.call 30 [(t 86),(t 91)])) g (v 14 [15] (MA 0 85) (v 15 [] (MA 1 92) .done)) .none) .none) .none)) (h 12 (UA 91 (.lits 1 1 2 [i j 0] [(0,(t 88)),(1,(t 90))])) d
 (h 5 (UA 84 (.lits 0 1 2 [i j 0] [(0,(t 81)),(1,(t 83))])) d (h 6 (UA 85 (.call 14 [(t 79),(t 84)])) d (h 13 (UA 92 (.call 30 [(t 86),(t 91)])) g (v 14 [15] (MA 0 85) (v 15 [] (MA 1 92) .done))
 .none) .none) .none) .none))))))))))))) (q (r 0 [MA 93 0,UA 94 (.prim (.peq g) [(t 93),(k (.pointer o))])]) (c (t 94) (q (r 0 [MA 95 0,MA 96 1,MA 6 95,MA 7 96,
 (UA 8 (m (k (y g))))]) .ret) .skip))) (q (r 0 [UA 98 (b .eql g (t 13) (k (i j 5))),MA 97 98]) (c (t 97) (q (.tree 0 (v 0 [15,16,17] (MA 99 0) (v 1 [16,17] (MA 100 1) (v 2 [7,13,14,15,16,17] (MA 101 0)
 (v 3 [4,7,13,14,15,16,17] (FA 102 1 5) (v 4 [7,13,14,15,16,17] (LA 103 102) (v 5 [6,7,13,14,15,16,17] (FA 104 2 5) (v 6 [7,13,14,15,16,17] (LA 105 104) (v 8 [13,14,15,16,17] (MA 107 1)
 (v 9 [10,13,14,15,16,17] (FA 108 1 5) (v 10 [13,14,15,16,17] (LA 109 108) (v 11 [12,13,14,15,16,17] (FA 110 2 5) (v 12 [13,14,15,16,17] (LA 111 110) (h 7 (UA 106 (.call 24 [(t 101),(t 103),(t 105)])) d
 (h 13 (UA 112 (.call 31 [(t 107),(t 109),(t 111)])) g (v 14 [17] (UA 113 (b .eql g (t 106) (t 112))) (v 15 [16,17] (MA 6 99) (v 16 [17] (MA 7 100) (v 17 [] (MA 8 113) .done)))) .none)
 .none)))))))))))))) .ret) (q (r 0 [UA 115 (b .eql g (t 13) (k (i j 6))),MA 114 115]) (c (t 114) (q (.tree 0 (v 0 [11,12,13] (MA 116 0) (v 1 [12,13] (MA 117 1) (v 2 [5,9,10,11,12,13] (MA 118 0)
 (v 3 [4,5,9,10,11,12,13] (FA 119 1 5) (v 4 [5,9,10,11,12,13] (LA 120 119) (v 6 [9,10,11,12,13] (MA 122 1) (v 7 [8,9,10,11,12,13] (FA 123 1 5) (v 8 [9,10,11,12,13] (LA 124 123)
 (h 5 (UA 121 (.call 25 [(t 118),(t 120)])) d (h 9 (UA 125 (.call 32 [(t 122),(t 124)])) g (v 10 [13] (UA 126 (b .eql g (t 121) (t 125))) (v 11 [12,13] (MA 6 116) (v 12 [13] (MA 7 117) (v 13 [] (MA 8 126)
 .done)))) .none) .none)))))))))) .ret) .skip)))))))))))))))) (q (.tree 0 (v 0 [35,36,37] (MA 127 0) (v 1 [36,37] (MA 128 1) (v 2 [3,9,10,11,12,13,14,15,16,17,18,19,20,21,22,23,24,25,26,27,28,29,30,31,32,33,34,35,36,37] (MA 129 0)
 (v 4 [5,6,7,8,9,10,11,12,13,14,15,16,17,18,19,20,21,22,23,24,25,26,27,28,29,30,31,32,33,34,35,36,37] (MA 131 1) (v 5 [6,7,8,9,10,11,12,13,14,15,16,17,18,19,20,21,22,23,24,25,26,27,28,29,30,31,32,33,34,35,36,37] (UA 132 (.nilc (t 131)))
 (v 6 [7,8,9,10,11,12,13,14,15,16,17,18,19,20,21,22,23,24,25,26,27,28,29,30,31,32,33,34,35,36,37] (FA 133 0 132) (v 7 [8,9,10,11,12,13,14,15,16,17,18,19,20,21,22,23,24,25,26,27,28,29,30,31,32,33,34,35,36,37] (LA 134 133)
 (v 8 [9,10,11,12,13,14,15,16,17,18,19,20,21,22,23,24,25,26,27,28,29,30,31,32,33,34,35,36,37] (UA 135 (n (t 134))) (h 3 (UA 130 (.call 15 [(t 129)])) d (v 9 [10,11,12,13,14,15,16,17,18,19,20,21,22,23,24,25,26,27,28,29,30,31,32,33,34,35,36,37] (UA 136 (b .eql g (t 130) (t 135)))
 (v 10 [11,12,13,14,15,16,17,18,19,20,21,22,23,24,25,26,27,28,29,30,31,32,33,34,35,36,37] (MA 137 136) (v 11 [12,17,18,19,20,21,22,23,24,25,26,27,28,29,30,31,32,33,34,35,36,37] (GA 138 (m (t 0)) 137 d)
 (v 13 [14,15,16,17,18,19,20,21,22,23,24,25,26,27,28,29,30,31,32,33,34,35,36,37] (GA 140 (m (t 1)) 137 d) (v 14 [15,16,17,18,19,20,21,22,23,24,25,26,27,28,29,30,31,32,33,34,35,36,37] (GA 141 (.nilc (t 140)) 137 d)
 (v 15 [16,17,18,19,20,21,22,23,24,25,26,27,28,29,30,31,32,33,34,35,36,37] (GA 142 (f 1 (t 141)) 137 d) (v 16 [17,18,19,20,21,22,23,24,25,26,27,28,29,30,31,32,33,34,35,36,37] (GA 143 (l o (t 142)) 137 d)
 (h 12 (GA 139 (.call 17 [(t 138)]) 137 d) d (v 17 [18,19,20,21,22,23,24,25,26,27,28,29,30,31,32,33,34,35,36,37] (GA 144 (b .eql g (t 139) (t 143)) 137 d) (v 18 [19,20,21,22,23,24,25,26,27,28,29,30,31,32,33,34,35,36,37] (UA 145 (p (t 137) (t 144) (k (y g))))
 (v 19 [20,21,22,23,24,25,26,27,28,29,30,31,32,33,34,35,36,37] (MA 146 145) (v 20 [21,26,27,28,29,30,31,32,33,34,35,36,37] (GA 147 (m (t 0)) 146 d) (v 22 [23,24,25,26,27,28,29,30,31,32,33,34,35,36,37] (GA 149 (m (t 1)) 146 d)
 (v 23 [24,25,26,27,28,29,30,31,32,33,34,35,36,37] (GA 150 (.nilc (t 149)) 146 d) (v 24 [25,26,27,28,29,30,31,32,33,34,35,36,37] (GA 151 (f 3 (t 150)) 146 d) (v 25 [26,27,28,29,30,31,32,33,34,35,36,37] (GA 152 (l o (t 151)) 146 d)
 (h 21 (GA 148 (.call 16 [(t 147)]) 146 d) d (v 26 [27,28,29,30,31,32,33,34,35,36,37] (GA 153 (.eqb g (t 148) (t 152)) 146 d) (v 27 [28,29,30,31,32,33,34,35,36,37] (UA 154 (p (t 146) (t 153) (k (y g))))
 (v 28 [29,30,31,32,33,34,35,36,37] (MA 155 154) (v 29 [30,32,33,34,35,36,37] (GA 156 (m (t 0)) 155 d) (v 31 [32,33,34,35,36,37] (GA 158 (m (t 1)) 155 d) (h 30 (GA 157 (.call 18 [(t 156)]) 155 d) g
 (h 32 (GA 159 (.call 33 [(t 158)]) 155 d) g (h 33 (GA 160 (.call 26 [(t 157),(t 159)]) 155 d) g (v 34 [37] (UA 161 (p (t 155) (t 160) (k (y g)))) (v 35 [36,37] (MA 6 127) (v 36 [37] (MA 7 128)
 (v 37 [] (MA 8 161) .done)))) .none) .none) .none)))))) .none))))))))) .none)))))))) .none)))))))))) .ret))) 
def c11 : LCode :=
 (q (r 1 [UA 4 (.alloc 0 (.agg (Array.replicate 64 (.int .u8 0)))),CA 5 0]) (q (q (r 0 [MA 8 0,MA 9 1,UA 10 (.call 34 [(t 8),(t 9)]),MA 6 10]) (q (r 0 [
 (MA 11 6),UA 12 (b .neq g (t 11) (k (i j 0)))]) (c (t 12) (q (r 0 [UA 13 (.build (List.replicate 64 (.int .u8 0)) []),MA 14 6,WA 64 4 13,MA 5 14]) .ret) .skip)))
 (q (q (r 0 [MA 15 0,UA 16 (.nilc (t 15)),FA 17 1 16,LA 18 17,MA 19 1,UA 20 (.lookup (.int .i64) (.slice o 0 0) g (t 18) (t 19)),MA 7 20]) (q (r 0 [
 (MA 21 7),UA 22 (n (t 21)),UA 23 (b .gtr g (t 22) (k (i j 0)))]) (c (t 23) (q (r 0 [MA 24 7,MA 25 7,UA 26 (n (t 25)),UA 27 (b .sub d (t 26) (k (i j 1))),XA 28 64 24 27,
 (SA 29 64 28),WA 64 4 29,CA 5 0]) .ret) .skip))) (q (q (r 0 [MA 30 0,UA 31 (.nilc (t 30)),FA 32 0 31,LA 33 32,MA 34 1,
 (XA 35 65 33 34),FA 36 64 35,LA 37 36]) (c (t 37) (q (r 0 [UA 38 (.build (List.replicate 64 (.int .u8 0)) []),WA 64 4 38,CA 5 131]) .ret)
 .skip)) (q (r 0 [MA 39 0,UA 40 (.nilc (t 39)),FA 41 0 40,LA 42 41,MA 43 1,XA 44 65 42 43,FA 45 0 44,SA 46 64 45,WA 64 4 46,
 (CA 5 0)]) .ret))))) 
def c12 : LCode :=
 (q (r 1 [UA 4 (.alloc 0 (.agg (Array.replicate 64 (.int .u8 0) ++ #[i j 0])))]) (q (r 0 [MA 7 0,MA 8 1,UA 9 (.call 35 [(t 7),(t 8)]),MA 5 9]) (q (q (r 0 [MA 10 5,
 (UA 11 (b .neq g (t 10) (k (i j 0))))]) (c (t 11) (q (r 0 [MA 12 5,UA 13 (.build (List.replicate 64 (.int .u8 0) ++ [i j 0]) [(64,1,(t 12))]),WA 65 4 13]) .ret) .skip)) (q (r 1 [
 (MA 14 0),UA 15 (.nilc (t 14)),FA 16 0 15,LA 17 16,MA 18 1,XA 19 66 17 18,SA 20 66 19,UA 6 (.alloc 0 (.agg (Array.replicate 64 (.int .u8 0) ++ #[.bool g,.slice o 0 0]))),
 (WA 66 6 20)]) (q (q (r 0 [FA 21 65 6,LA 22 21,UA 23 (n (t 22)),UA 24 (b .gtr g (t 23) (k (i j 0)))]) (c (t 24) (q (r 0 [FA 25 65 6,LA 26 25,
 (FA 27 65 6),LA 28 27,UA 29 (n (t 28)),UA 30 (b .sub d (t 29) (k (i j 1))),XA 31 64 26 30,SA 32 64 31,UA 33 (.build (List.replicate 64 (.int .u8 0) ++ [i j 0]) [(0,64,(t 32))]),
 (WA 65 4 33)]) .ret) .skip)) (q (q (r 0 [FA 34 64 6,LA 35 34]) (c (t 35) (q (r 0 [UA 36 (.build (List.replicate 64 (.int .u8 0) ++ [i j 0]) [(64,1,(k (i j 131)))]),
 (WA 65 4 36)]) .ret) .skip)) (q (r 0 [FA 37 0 6,SA 38 64 37,UA 39 (.build (List.replicate 64 (.int .u8 0) ++ [i j 0]) [(0,64,(t 38))]),WA 65 4 39]) .ret)))))))
 
def c14l0 : LCode :=
 q (r 0 [UA 28 (b .lss g (t 27) (t 26))]) (q (c (t 28) .skip (.exit 0)) (q (z 1 (q (r 0 [MA 29 27,XA 30 1 25 27,LA 31 30,MA 6 29,MA 7 31]) (q (r 0 [
 (CA 8 0)]) (q (q (r 0 [MA 32 1,UA 33 (n (t 32)),UA 34 (b .gtr g (t 33) (k (i j 0)))]) (c (t 34) (r 0 [MA 35 1,MA 36 6,MA 37 1,UA 38 (n (t 37)),
 (UA 39 (b .rem g (t 36) (t 38))),XA 40 1 35 39,LA 41 40,MA 8 41]) .skip)) (.tree 0 (v 0 [1,2,3,20,21] (MA 42 5) (v 1 [2,3,20,21] (UA 43 (.nilc (t 42))) (v 2 [3,20,21] (FA 44 0 43)
 (v 3 [20,21] (LA 45 44) (v 4 [20,21] (MA 46 7) (v 5 [6,7,8,10,11,19,20,21] (MA 47 0) (v 6 [7,8,10,11,19,20,21] (UA 48 (.nilc (t 47))) (v 7 [8,10,11,19,20,21] (FA 49 0 48)
 (v 8 [10,11,19,20,21] (LA 50 49) (v 9 [10,11,19,20,21] (MA 51 7) (v 10 [11,19,20,21] (XA 52 65 50 51) (v 11 [19,20,21] (SA 53 65 52) (v 12 [13,14,15,17,19,20,21] (MA 54 0)
 (v 13 [14,15,17,19,20,21] (UA 55 (.nilc (t 54))) (v 14 [15,17,19,20,21] (FA 56 1 55) (v 15 [17,19,20,21] (LA 57 56) (v 16 [17,19,20,21] (MA 58 7) (v 18 [19,20,21] (MA 60 8)
 (h 17 (UA 59 (.lookup (.int .i64) (.slice o 0 0) g (t 57) (t 58))) d (h 19 (UA 61 (.call 37 [(t 53),(t 59),(t 60)])) d (v 20 [21] (XA 62 65 45 46) (h 21 (WA 65 62 61) g .done .none))
 .none) .none)))))))))))))))))))))))) (r 0 [UA 63 (b .add d (t 27) (k (i j 1))),MA 27 63])))
def c14 : LCode :=
 (q (r 0 [UA 4 (m (k (.pointer o)))]) (q (r 0 [MA 9 0,UA 10 (.nilc (t 9)),FA 11 0 10,LA 12 11,UA 13 (n (t 12)),UA 14 (.call 7 [(t 13)]),MA 5 14]) (q (.tail 8 0 [
 (MA 15 5),UA 16 (.nilc (t 15)),FA 17 0 16,LA 18 17,MA 19 0,UA 20 (.nilc (t 19)),FA 21 0 20,LA 22 21,UA 23 (.copy 65 (t 18) (t 22))])
 (q (q (r 0 [MA 24 0,UA 25 (.call 36 [(t 24)]),UA 26 (n (t 25)),CA 27 0]) (z 0 (.loop c14l0))) (q (r 0 [MA 64 5,MA 4 64]) .ret))))) 
def c15 : LCode :=
 (q (r 0 [CA 2 0]) (q (r 0 [MA 3 0,UA 4 (.nilc (t 3)),FA 5 0 4,LA 6 5,UA 7 (n (t 6)),MA 2 7]) .ret)) 
def c16 : LCode :=
 (q (r 0 [UA 2 (m (k (y g)))]) (q (r 0 [MA 3 0,UA 4 (.nilc (t 3)),FA 5 4 4,LA 6 5,MA 2 6]) .ret)) 
def c17 : LCode :=
 (q (r 0 [CA 2 0]) (q (r 0 [MA 3 0,UA 4 (.nilc (t 3)),FA 5 2 4,LA 6 5,MA 2 6]) .ret)) 
def c18l0 : LCode :=
 q (r 0 [UA 10 (b .lss g (t 9) (t 8))]) (q (c (t 10) .skip (.exit 0)) (q (z 1 (q (r 0 [XA 11 1 7 9,LA 12 11,MA 5 12]) (r 2 [MA 13 3,MA 14 5,UA 15 (.lits 0 1 1 [i j 0] [(0,(t 14))]),
 (MA 16 0),UA 17 (.nilc (t 16)),FA 18 1 17,LA 19 18,MA 20 5,UA 21 (.lookup (.int .i64) (.slice o 0 0) g (t 19) (t 20)),UA 22 (n (t 21)),UA 23 (.call 38 [(t 15),(t 22)]),
 (UA 24 (.append 1 1 8 (t 13) (t 23))),MA 3 24]))) (r 0 [UA 25 (b .add d (t 9) (k (i j 1))),MA 9 25])))
def c18 : LCode :=
 (q (r 0 [UA 2 (m (k (.slice o 0 0)))]) (q (r 0 [UA 3 (m (k (.slice o 0 0)))]) (q (q (r 0 [MA 6 0,UA 7 (.call 36 [(t 6)]),UA 8 (n (t 7)),CA 9 0]) (z 0 (.loop c18l0)))
 (q (r 0 [MA 26 3,MA 2 26]) .ret)))) 
def c20 : LCode :=
 (r 0 [MA 4 0,MA 5 1,UA 6 (.minmax d (t 5) (k (.int .i64 (-1)))),UA 7 (.nilc (t 4)),FA 8 3 7,WA 1 8 6]) 
def c21l0 : LCode :=
 q (r 0 [UA 20 (.next (t 19)),UA 21 (.ext (t 20) 0)]) (q (c (t 21) .skip (.exit 0)) (z 1 (q (r 0 [UA 22 (.entry (t 19)),UA 23 (.ext (t 22) 0),UA 24 (.ext (t 22) 1),MA 4 23,MA 5 24])
 (q (.tail 13 0 [MA 25 0,UA 26 (.nilc (t 25)),FA 27 0 26,LA 28 27,MA 29 4,MA 30 5,MA 31 5,UA 32 (n (t 31)),UA 33 (b .sub d (t 32) (k (i j 1))),
 (XA 34 64 30 33),SA 35 64 34,UA 36 (.build (List.replicate 64 (.int .u8 0) ++ [.bool g]) [(0,64,(t 35))]),XA 37 65 28 29,WA 65 37 36]) (r 0 [MA 38 0,
 (UA 39 (.nilc (t 38))),FA 40 1 39,LA 41 40,MA 42 4,⟨o,.mdel (.int .i64) (t 41) (t 42),o⟩])))))
def c21 : LCode :=
 (q (r 0 [CA 2 0]) (q (r 0 [MA 6 0,UA 7 (.call 34 [(t 6),(k (i j 0))]),MA 3 7]) (q (q (r 0 [MA 8 3,UA 9 (b .eql g (t 8) (k (i j 0)))]) (c (t 9) (r 0 [
 (MA 10 0),UA 11 (.call 39 [(t 10)]),MA 3 11]) .skip)) (q (q (r 0 [MA 12 3,UA 13 (b .neq g (t 12) (k (i j 0)))]) (c (t 13) (q (r 0 [MA 14 3,MA 2 14])
 .ret) .skip)) (q (q (r 1 [MA 15 0,UA 16 (.nilc (t 15)),FA 17 1 16,LA 18 17,UA 19 (.range 0 (t 18))]) (z 0 (.loop c21l0))) (q (r 0 [CA 2 0]) .ret))))))
 
def c22 : LCode :=
 (q (r 1 [UA 5 (u 0 (t 2)),CA 6 0]) (q (r 0 [MA 8 0,MA 9 1,UA 10 (.call 34 [(t 8),(t 9)]),MA 7 10]) (q (q (r 0 [MA 11 7,UA 12 (b .eql g (t 11) (k (i j 0)))])
 (c (t 12) (r 0 [MA 13 0,UA 14 (.call 39 [(t 13)]),MA 7 14]) .skip)) (q (q (r 0 [MA 15 7,UA 16 (b .eql g (t 15) (k (i j 0)))]) (c (t 16) (.tree 2 (v 0 [1,2,3,14] (MA 17 0)
 (v 1 [2,3,14] (UA 18 (.nilc (t 17))) (v 2 [3,14] (FA 19 1 18) (v 3 [14] (LA 20 19) (v 4 [14] (MA 21 1) (v 5 [6,7,8,10,13,14] (MA 22 0) (v 6 [7,8,10,13,14] (UA 23 (.nilc (t 22)))
 (v 7 [8,10,13,14] (FA 24 1 23) (v 8 [10,13,14] (LA 25 24) (v 9 [10,13,14] (MA 26 1) (v 11 [12,13,14] (SA 28 64 5) (h 10 (UA 27 (.lookup (.int .i64) (.slice o 0 0) g (t 25) (t 26))) d
 (h 12 (UA 29 (.lits 0 64 1 (List.replicate 64 (.int .u8 0)) [(0,(t 28))])) d (h 13 (UA 30 (.append 1 64 64 (t 27) (t 29))) d (h 14 ⟨o,.mset (.int .i64) (t 20) (t 21) (t 30),o⟩ g .done .none) .none) .none)
 (h 12 (UA 29 (.lits 0 64 1 (List.replicate 64 (.int .u8 0)) [(0,(t 28))])) d (h 10 (UA 27 (.lookup (.int .i64) (.slice o 0 0) g (t 25) (t 26))) d (h 13 (UA 30 (.append 1 64 64 (t 27) (t 29))) d (h 14 ⟨o,.mset (.int .i64) (t 20) (t 21) (t 30),o⟩ g
 .done .none) .none) .none) .none)))))))))))))) .skip)) (q (r 0 [MA 31 7,MA 6 31]) .ret))))) 
def c23l0 : LCode :=
 q (q (r 0 [MA 5 4,UA 6 (b .lss g (t 5) (k (i j 64)))]) (c (t 6) .skip (.exit 0))) (q (z 1 (r 0 [MA 9 4,MA 10 0,UA 11 (.conv g .u8 (t 10)),UA 12 (.prim (.pidx 64 1) [(t 3),(t 9)]),
 (WA 1 12 11)])) (r 0 [MA 7 4,UA 8 (b .add d (t 7) (k (i j 1))),MA 4 8]))
def c23 : LCode :=
 (q (r 1 [UA 2 (.alloc 0 (.agg (Array.replicate 64 (.int .u8 0))))]) (q (r 1 [UA 3 (.alloc 0 (.agg (Array.replicate 64 (.int .u8 0))))]) (q (q (r 0 [CA 4 0]) (z 0 (.loop c23l0))) (q
 (r 0 [SA 13 64 3,WA 64 2 13]) .ret)))) 
def c24 : LCode :=
 (q (r 0 [CA 6 0]) (q (q (r 0 [MA 9 0,MA 10 1,UA 11 (.call 34 [(t 9),(t 10)]),MA 7 11]) (q (r 0 [MA 12 7,UA 13 (b .neq g (t 12) (k (i j 0)))])
 (c (t 13) (q (r 0 [MA 14 7,MA 6 14]) .ret) .skip))) (q (q (r 0 [MA 15 2,UA 16 (b .lss g (t 15) (k (i j 0))),MA 17 16,GA 18 (m (t 2)) 17 g,GA 19 (b .geq g (t 18) (k (i j 512))) 17 g,
 (UA 20 (p (t 17) (k (y d)) (t 19)))]) (c (t 20) (q (r 0 [CA 6 1]) .ret) .skip)) (q (q (r 1 [MA 21 0,UA 22 (.nilc (t 21)),FA 23 0 22,LA 24 23,MA 25 1,
 (XA 26 65 24 25),SA 27 65 26,UA 8 (.alloc 0 (.agg (Array.replicate 64 (.int .u8 0) ++ #[.bool g]))),WA 65 8 27]) (q (r 0 [SA 28 65 8,UA 29 (.build (List.replicate 64 (.int .u8 0) ++ [.bool g]) [(64,1,(k (y d)))]),
 (UA 30 (.prim (.aeq d (((List.range' 0 64).map fun i => (i,(.int .u8))) ++ [(64,.bool)])) [(t 28),(t 29)]))]) (c (t 30) (.tail 18 0 [MA 31 0,UA 32 (.nilc (t 31)),FA 33 0 32,LA 34 33,
 (MA 35 1),MA 36 2,UA 37 (b .quo d (t 36) (k (i j 8))),XA 38 65 34 35,FA 39 0 38,UA 40 (.prim (.pidx 64 1) [(t 39),(t 37)]),LA 41 40,MA 42 2,
 (UA 43 (b .rem g (t 42) (k (i j 8)))),UA 44 (.shift .shl (k (.int .u8 1)) (t 43)),UA 45 (b .xor g (t 41) (t 44)),XA 46 65 34 35,FA 47 0 46,UA 48 (.prim (.pidx 64 1) [(t 47),(t 37)]),
 (WA 1 48 45)]) .skip))) (q (r 0 [CA 6 0]) .ret))))) 
def c25 : LCode :=
 (q (r 0 [CA 4 0]) (q (r 0 [MA 6 0,MA 7 1,UA 8 (.call 34 [(t 6),(t 7)]),MA 5 8]) (q (q (r 0 [MA 9 5,UA 10 (b .eql g (t 9) (k (i j 0)))]) (c (t 10)
 (r 0 [MA 11 0,UA 12 (.nilc (t 11)),FA 13 0 12,LA 14 13,MA 15 1,UA 16 (.build (List.replicate 64 (.int .u8 0) ++ [.bool g]) [(64,1,(k (y d)))]),XA 17 65 14 15,
 (WA 65 17 16)]) .skip)) (q (r 0 [MA 18 5,MA 4 18]) .ret)))) 
def c26l0 : LCode :=
 q (q (r 0 [MA 11 5,MA 12 0,UA 13 (n (t 12)),UA 14 (b .lss g (t 11) (t 13))]) (c (t 14) .skip (.exit 0))) (q (z 1 (q (.qui 0 [MA 17 0,MA 18 5,XA 19 1 17 18,
 (LA 20 19),MA 21 1,MA 22 5,XA 23 1 21 22,LA 24 23,UA 25 (b .neq g (t 20) (t 24))]) (c (t 25) (q (r 0 [UA 4 (m (k (y g)))]) .ret) .skip))) (r 0 [
 (MA 15 5),UA 16 (b .add d (t 15) (k (i j 1))),MA 5 16]))
def c26 : LCode :=
 (q (r 0 [UA 4 (m (k (y g)))]) (q (q (r 0 [MA 6 0,UA 7 (n (t 6)),MA 8 1,UA 9 (n (t 8)),UA 10 (b .neq g (t 7) (t 9))]) (c (t 10) (q (r 0 [UA 4 (m (k (y g)))]) .ret) .skip))
 (q (q (r 0 [CA 5 0]) (z 0 (.loop c26l0))) (q (r 0 [UA 4 (m (k (y d)))]) .ret)))) 
def c27 : LCode :=
 (q (r 1 [UA 5 (u 0 (t 2)),CA 6 0]) (q (r 0 [MA 9 0,MA 10 1,UA 11 (.call 35 [(t 9),(t 10)]),MA 7 11]) (q (q (r 0 [MA 12 7,UA 13 (b .neq g (t 12) (k (i j 0)))])
 (c (t 13) (q (r 0 [MA 14 7,MA 6 14]) .ret) .skip)) (q (r 0 [MA 15 0,UA 16 (.call 40 [(t 15)]),MA 8 16]) (q (q (r 0 [MA 17 8,UA 18 (.not (t 17))])
 (c (t 18) (q (r 0 [CA 6 130]) .ret) .skip)) (q (.tree 4 (v 0 [1,2,3,18,19,20] (MA 19 0) (v 1 [2,3,18,19,20] (UA 20 (.nilc (t 19))) (v 2 [3,18,19,20] (FA 21 0 20) (v 3 [18,19,20] (LA 22 21)
 (v 4 [18,19,20] (MA 23 1) (v 6 [7,8,9,11,12,13,14,17,18,19,20] (MA 25 0) (v 7 [8,9,11,12,13,14,17,18,19,20] (UA 26 (.nilc (t 25))) (v 8 [9,11,12,13,14,17,18,19,20] (FA 27 0 26) (v 9 [11,12,13,14,17,18,19,20] (LA 28 27)
 (v 10 [11,12,13,14,17,18,19,20] (MA 29 1) (v 11 [12,13,14,17,18,19,20] (XA 30 66 28 29) (v 12 [13,14,17,18,19,20] (FA 31 65 30) (v 13 [14,17,18,19,20] (LA 32 31) (v 15 [16,17,18,19,20] (SA 34 64 5)
 (h 5 (UA 24 (.lits 0 64 0 (List.replicate 64 (.int .u8 0)) [])) d (h 14 (UA 33 (.append 1 64 64 (t 24) (t 32))) d (h 16 (UA 35 (.lits 2 64 1 (List.replicate 64 (.int .u8 0)) [(0,(t 34))])) d (h 17 (UA 36 (.append 3 64 64 (t 33) (t 35))) d
 (v 18 [19,20] (XA 37 66 22 23) (v 19 [20] (FA 38 65 37) (h 20 (WA 1 38 36) g .done .none))) .none) .none) (h 16 (UA 35 (.lits 2 64 1 (List.replicate 64 (.int .u8 0)) [(0,(t 34))])) d
 (h 14 (UA 33 (.append 1 64 64 (t 24) (t 32))) d (h 17 (UA 36 (.append 3 64 64 (t 33) (t 35))) d (v 18 [19,20] (XA 37 66 22 23) (v 19 [20] (FA 38 65 37) (h 20 (WA 1 38 36) g
 .done .none))) .none) .none) .none)) (h 16 (UA 35 (.lits 2 64 1 (List.replicate 64 (.int .u8 0)) [(0,(t 34))])) d (h 5 (UA 24 (.lits 0 64 0 (List.replicate 64 (.int .u8 0)) [])) d (h 14 (UA 33 (.append 1 64 64 (t 24) (t 32))) d
 (h 17 (UA 36 (.append 3 64 64 (t 33) (t 35))) d (v 18 [19,20] (XA 37 66 22 23) (v 19 [20] (FA 38 65 37) (h 20 (WA 1 38 36) g .done .none))) .none) .none) .none) .none)))))))))))))))))
 (q (r 0 [CA 6 0]) .ret))))))) 
def c28l0 : LCode :=
 q (q (r 0 [MA 14 4,MA 15 0,UA 16 (.nilc (t 15)),FA 17 0 16,LA 18 17,UA 19 (n (t 18)),UA 20 (b .lss g (t 14) (t 19))]) (c (t 20) .skip (.exit 0))) (q (z 1
 (q (r 0 [MA 23 0,UA 24 (.nilc (t 23)),FA 25 0 24,LA 26 25,MA 27 4,XA 28 66 26 27,FA 29 65 28,LA 30 29,UA 31 (n (t 30)),
 (MA 5 31)]) (q (r 0 [MA 32 5,UA 33 (b .gtr g (t 32) (k (i j 0)))]) (c (t 33) (.tail 19 0 [MA 34 0,UA 35 (.nilc (t 34)),FA 36 0 35,LA 37 36,MA 38 4,
 (MA 39 0),UA 40 (.nilc (t 39)),FA 41 0 40,LA 42 41,MA 43 4,XA 44 66 42 43,FA 45 65 44,LA 46 45,MA 47 5,UA 48 (b .sub d (t 47) (k (i j 1))),
 (XA 49 64 46 48),SA 50 64 49,UA 51 (.build (List.replicate 64 (.int .u8 0) ++ [.bool g,.slice o 0 0]) [(0,64,(t 50))]),XA 52 66 37 38,WA 66 52 51])
 .skip)))) (r 0 [MA 21 4,UA 22 (b .add d (t 21) (k (i j 1))),MA 4 22]))
def c28 : LCode :=
 (q (r 0 [CA 2 0]) (q (q (r 0 [MA 6 0,UA 7 (.nilc (t 6)),FA 8 3 7,LA 9 8]) (c (t 9) (q (r 0 [CA 2 130]) .ret) .skip)) (q (r 0 [MA 10 0,
 (UA 11 (.call 40 [(t 10)])),MA 3 11]) (q (q (r 0 [MA 12 3,UA 13 (.not (t 12))]) (c (t 13) (q (r 0 [CA 2 130]) .ret) .skip)) (q (q (r 0 [CA 4 0]) (z 0
 (.loop c28l0))) (q (r 0 [CA 2 0]) .ret)))))) 
def c29 : LCode :=
 (r 0 [MA 4 0,MA 5 1,UA 6 (.minmax d (t 5) (k (.int .i64 (-1)))),UA 7 (.nilc (t 4)),FA 8 2 7,WA 1 8 6]) 
def c30l0 : LCode :=
 q (q (r 0 [MA 17 7,MA 18 0,UA 19 (.nilc (t 18)),FA 20 0 19,LA 21 20,UA 22 (n (t 21)),UA 23 (b .lss g (t 17) (t 22))]) (c (t 23) .skip (.exit 0))) (q (z 1
 (q (q (r 0 [MA 26 0,UA 27 (.nilc (t 26)),FA 28 0 27,LA 29 28,MA 30 7,XA 31 66 29 30,FA 32 65 31,LA 33 32,UA 34 (n (t 33)),
 (UA 35 (b .eql g (t 34) (k (i j 0))))]) (c (t 35) (q (.tail 13 0 [MA 36 5,UA 37 (.nilc (t 36)),FA 38 0 37,LA 39 38,MA 40 7,MA 41 0,UA 42 (.nilc (t 41)),
 (FA 43 0 42),LA 44 43,MA 45 7,XA 46 66 44 45,SA 47 66 46,XA 48 66 39 40,WA 66 48 47]) (.exit 1)) .skip)) (q (r 0 [
 (CA 8 0)]) (q (q (r 0 [MA 49 1,UA 50 (n (t 49)),UA 51 (b .gtr g (t 50) (k (i j 0)))]) (c (t 51) (r 0 [MA 52 1,MA 53 6,MA 54 1,UA 55 (n (t 54)),
 (UA 56 (b .rem g (t 53) (t 55))),XA 57 1 52 56,LA 58 57,MA 8 58]) .skip)) (q (.tree 0 (v 0 [1,2,3,14,15] (MA 59 5) (v 1 [2,3,14,15] (UA 60 (.nilc (t 59))) (v 2 [3,14,15] (FA 61 0 60)
 (v 3 [14,15] (LA 62 61) (v 4 [14,15] (MA 63 7) (v 5 [6,7,8,10,11,13,14,15] (MA 64 0) (v 6 [7,8,10,11,13,14,15] (UA 65 (.nilc (t 64))) (v 7 [8,10,11,13,14,15] (FA 66 0 65)
 (v 8 [10,11,13,14,15] (LA 67 66) (v 9 [10,11,13,14,15] (MA 68 7) (v 10 [11,13,14,15] (XA 69 66 67 68) (v 11 [13,14,15] (SA 70 66 69) (v 12 [13,14,15] (MA 71 8)
 (h 13 (UA 72 (.call 41 [(t 70),(t 71)])) d (v 14 [15] (XA 73 66 62 63) (h 15 (WA 66 73 72) g .done .none)) .none))))))))))))))) (r 0 [MA 74 6,UA 75 (b .add d (t 74) (k (i j 1))),
 (MA 6 75)])))))) (r 0 [MA 24 7,UA 25 (b .add d (t 24) (k (i j 1))),MA 7 25]))
def c30 : LCode :=
 (q (r 0 [UA 4 (m (k (.pointer o)))]) (q (r 2 [MA 9 0,UA 10 (.nilc (t 9)),FA 11 0 10,LA 12 11,UA 13 (n (t 12)),UA 14 (.mkv 0 66 96 (List.replicate 64 (.int .u8 0) ++ [.bool g,.slice o 0 0]) (t 13) (t 13)),
 (UA 15 (.build [.slice o 0 0,i j 0,i j 0,.bool g] [(0,1,(t 14)),(2,1,(k (.int .i64 (-1))))])),UA 16 (u 1 (t 15)),MA 5 16]) (q (r 0 [CA 6 0]) (q (q (r 0 [CA 7 0])
 (z 0 (.loop c30l0))) (q (r 0 [MA 76 5,MA 4 76]) .ret))))) 
def c31 : LCode :=
 (q (r 0 [CA 6 0]) (q (r 0 [MA 8 0,MA 9 1,UA 10 (.call 35 [(t 8),(t 9)]),MA 7 10]) (q (q (r 0 [MA 11 7,UA 12 (b .neq g (t 11) (k (i j 0)))])
 (c (t 12) (q (r 0 [MA 13 7,MA 6 13]) .ret) .skip)) (q (q (r 0 [MA 14 2,UA 15 (b .lss g (t 14) (k (i j 0))),MA 16 15,GA 17 (m (t 2)) 16 g,GA 18 (b .gtr g (t 17) (k (i j 511))) 16 g,
 (UA 19 (p (t 16) (k (y d)) (t 18)))]) (c (t 19) (q (r 0 [CA 6 1]) .ret) .skip)) (q (q (r 0 [MA 20 0,UA 21 (.nilc (t 20)),FA 22 0 21,LA 23 22,MA 24 1,
 (XA 25 66 23 24),FA 26 64 25,LA 27 26,UA 28 (.not (t 27))]) (c (t 28) (.tail 25 0 [MA 29 0,UA 30 (.nilc (t 29)),FA 31 0 30,LA 32 31,
 (MA 33 1),MA 34 2,UA 35 (b .quo d (t 34) (k (i j 8))),MA 36 0,UA 37 (.nilc (t 36)),FA 38 0 37,LA 39 38,MA 40 1,MA 41 2,UA 42 (b .quo d (t 41) (k (i j 8))),
 (XA 43 66 39 40),FA 44 0 43,UA 45 (.prim (.pidx 64 1) [(t 44),(t 42)]),LA 46 45,MA 47 2,UA 48 (b .rem g (t 47) (k (i j 8))),UA 49 (.shift .shl (k (.int .u8 1)) (t 48)),
 (UA 50 (b .xor g (t 46) (t 49))),XA 51 66 32 33,FA 52 0 51,UA 53 (.prim (.pidx 64 1) [(t 52),(t 35)]),WA 1 53 50]) .skip)) (q (r 0 [CA 6 0]) .ret))))))
 
def c32 : LCode :=
 (q (r 0 [CA 4 0]) (q (r 0 [MA 6 0,MA 7 1,UA 8 (.call 35 [(t 6),(t 7)]),MA 5 8]) (q (q (r 0 [MA 9 5,UA 10 (b .neq g (t 9) (k (i j 0)))]) (c (t 10)
 (q (r 0 [MA 11 5,MA 4 11]) .ret) .skip)) (q (r 0 [MA 12 0,UA 13 (.nilc (t 12)),FA 14 0 13,LA 15 14,MA 16 1,XA 17 66 15 16,
 (FA 18 64 17),⟨o,w 1 (t 18) (k (y d)),o⟩]) (q (r 0 [MA 19 0,UA 20 (.nilc (t 19)),FA 21 0 20,LA 22 21,MA 23 1,UA 24 (.build (List.replicate 64 (.int .u8 0)) []),
 (XA 25 66 22 23),FA 26 0 25,WA 64 26 24]) (q (r 0 [CA 4 0]) .ret)))))) 
def c33l1 : LCode :=
 q (q (r 0 [MA 15 5,MA 16 0,UA 17 (.nilc (t 16)),FA 18 0 17,LA 19 18,MA 20 4,XA 21 66 19 20,FA 22 65 21,LA 23 22,
 (UA 24 (n (t 23))),UA 25 (b .lss g (t 15) (t 24))]) (c (t 25) .skip (.exit 2))) (q (z 3 (r 2 [MA 28 3,MA 29 4,UA 30 (.lits 0 1 1 [i j 0] [(0,(t 29))]),UA 31 (.append 1 1 8 (t 28) (t 30)),
 (MA 3 31)])) (r 0 [MA 26 5,UA 27 (b .add d (t 26) (k (i j 1))),MA 5 27]))
def c33l0 : LCode :=
 q (q (r 0 [MA 6 4,MA 7 0,UA 8 (.nilc (t 7)),FA 9 0 8,LA 10 9,UA 11 (n (t 10)),UA 12 (b .lss g (t 6) (t 11))]) (c (t 12) .skip (.exit 0))) (q (z 1 (q (r 0 [
 (CA 5 0)]) (z 2 (.loop c33l1)))) (r 0 [MA 13 4,UA 14 (b .add d (t 13) (k (i j 1))),MA 4 14]))
def c33 : LCode :=
 (q (r 0 [UA 2 (m (k (.slice o 0 0)))]) (q (r 0 [UA 3 (m (k (.slice o 0 0)))]) (q (q (r 0 [CA 4 0]) (z 0 (.loop c33l0))) (q (r 0 [MA 32 3,MA 2 32]) .ret)))) 
def c34 : LCode :=
 (q (r 0 [CA 4 0]) (q (z 0 (q (r 0 [MA 6 0,UA 7 (.nilc (t 6)),FA 8 4 7,LA 9 8,MA 5 9]) (c (t 5) (q (r 0 [CA 4 130]) .ret) (q
 (r 0 [MA 11 1,UA 12 (b .lss g (t 11) (k (i j 0))),MA 13 12,GA 14 (m (t 1)) 13 g,GA 15 (m (t 0)) 13 g,GA 16 (.nilc (t 15)) 13 g,GA 17 (f 0 (t 16)) 13 g,GA 18 (l o (t 17)) 13 g,
 (GA 19 (n (t 18)) 13 g),GA 20 (b .geq g (t 14) (t 19)) 13 g,UA 21 (p (t 13) (k (y d)) (t 20)),MA 10 21]) (c (t 10) (q (r 0 [CA 4 1]) .ret) .skip))))) (q (r 0 [CA 4 0])
 .ret))) 
def c35 : LCode :=
 (q (r 0 [CA 4 0]) (q (q (r 0 [MA 5 0,UA 6 (.nilc (t 5)),FA 7 3 6,LA 8 7]) (c (t 8) (q (r 0 [CA 4 130]) .ret) .skip)) (q (q (r 0 [MA 9 1,
 (UA 10 (b .lss g (t 9) (k (i j 0)))),MA 11 10,GA 12 (m (t 1)) 11 g,GA 13 (m (t 0)) 11 g,GA 14 (.nilc (t 13)) 11 g,GA 15 (f 0 (t 14)) 11 g,GA 16 (l o (t 15)) 11 g,
 (GA 17 (n (t 16)) 11 g),GA 18 (b .geq g (t 12) (t 17)) 11 g,UA 19 (p (t 11) (k (y d)) (t 18))]) (c (t 19) (q (r 0 [CA 4 1]) .ret) .skip)) (q (r 0 [CA 4 0]) .ret))))
 
def c36l0 : LCode :=
 q (r 0 [UA 10 (.next (t 9)),UA 11 (.ext (t 10) 0)]) (q (c (t 11) .skip (.exit 0)) (z 1 (q (r 0 [UA 12 (.entry (t 9)),UA 13 (.ext (t 12) 0),MA 4 13]) (r 2 [MA 14 3,MA 15 4,
 (UA 16 (.lits 0 1 1 [i j 0] [(0,(t 15))])),UA 17 (.append 1 1 8 (t 14) (t 16)),MA 3 17]))))
def c36 : LCode :=
 (q (r 0 [UA 2 (m (k (.slice o 0 0)))]) (q (r 0 [UA 3 (m (k (.slice o 0 0)))]) (q (q (r 1 [MA 5 0,UA 6 (.nilc (t 5)),FA 7 1 6,LA 8 7,UA 9 (.range 0 (t 8))]) (z 0
 (.loop c36l0))) (q (r 0 [MA 18 3,UA 19 (.call 42 [(t 18)])]) (q (r 0 [MA 20 3,MA 2 20]) .ret))))) 
def c37 : LCode :=
 (q (r 2 [UA 3 (u 0 (t 0)),UA 6 (.alloc 1 (.agg (Array.replicate 64 (.int .u8 0) ++ #[.bool g])))]) (q (r 0 [MA 11 1,UA 12 (n (t 11)),MA 7 12]) (q (q (r 0 [MA 13 2,
 (MA 14 7),UA 15 (b .add d (t 14) (k (i j 3))),UA 16 (b .rem g (t 13) (t 15)),MA 17 7,UA 18 (b .add d (t 16) (t 17)),UA 19 (b .add d (t 18) (k (i j 3))),MA 20 7,UA 21 (b .add d (t 20) (k (i j 3))),
 (UA 22 (b .rem g (t 19) (t 21))),MA 8 22]) (z 0 (q (r 0 [MA 24 8,UA 25 (b .eql g (t 24) (k (i j 0))),MA 23 25]) (c (t 23) (q (r 0 [SA 26 65 3,WA 65 6 26])
 .ret) (q (r 0 [MA 28 8,MA 29 7,UA 30 (b .leq g (t 28) (t 29)),MA 27 30]) (c (t 27) (q (r 0 [MA 31 1,MA 32 8,UA 33 (b .sub d (t 32) (k (i j 1))),XA 34 64 31 33,
 (SA 35 64 34),UA 36 (.build (List.replicate 64 (.int .u8 0) ++ [.bool g]) [(0,64,(t 35))]),WA 65 6 36]) .ret) (q (r 0 [MA 38 8,MA 39 7,UA 40 (b .add d (t 39) (k (i j 1))),
 (UA 41 (b .eql g (t 38) (t 40))),MA 37 41]) (c (t 37) (q (r 0 [UA 42 (.build (List.replicate 64 (.int .u8 0) ++ [.bool g]) [(64,1,(k (y d)))]),WA 65 6 42]) .ret) .skip))))))))
 (q (.tree 2 (v 0 [1,9,10] (FA 43 0 3) (v 1 [9,10] (SA 44 64 43) (v 2 [5,6,9,10] (MA 45 1) (v 3 [4,5,6,9,10] (MA 46 7) (v 4 [5,6,9,10] (UA 47 (b .sub d (t 46) (k (i j 1))))
 (v 5 [6,9,10] (XA 48 64 45 47) (v 6 [9,10] (SA 49 64 48) (h 7 (UA 9 (.alloc 0 (.agg (Array.replicate 64 (.int .u8 0))))) d (h 8 (UA 10 (.alloc 1 (.agg (Array.replicate 64 (.int .u8 0))))) d
 (h 9 (WA 64 9 44) g (h 10 (WA 64 10 49) g .done .none) .none) .none) (h 8 (UA 10 (.alloc 1 (.agg (Array.replicate 64 (.int .u8 0))))) d (h 7 (UA 9 (.alloc 0 (.agg (Array.replicate 64 (.int .u8 0))))) d
 (h 9 (WA 64 9 44) g (h 10 (WA 64 10 49) g .done .none) .none) .none) .none)))))))))) (q (q (r 0 [MA 50 7,UA 51 (b .gtr g (t 50) (k (i j 1)))]) (c (t 51) (r 0 [MA 52 1,
 (MA 53 7),UA 54 (b .sub d (t 53) (k (i j 2))),XA 55 64 52 54,SA 56 64 55,WA 64 9 56]) .skip)) (q (q (r 0 [SA 57 64 9,SA 58 64 10,
 (UA 59 (.prim (.aeq g ((List.range' 0 64).map fun i => (i,(.int .u8)))) [(t 57),(t 58)]))]) (c (t 59) (q (r 0 [SA 60 64 10,UA 61 (.build (List.replicate 64 (.int .u8 0) ++ [.bool g]) [(0,64,(t 60))]),
 (WA 65 6 61)]) .ret) .skip)) (q (.tail 2 0 [UA 62 (.prim (.pslc 64 d g g) [(t 10),(k (i j 32))]),UA 63 (.prim (.pslc 64 d g g) [(t 9),(k (i j 32))]),UA 64 (.copy 1 (t 62) (t 63))]) (q
 (r 0 [SA 65 64 10,UA 66 (.build (List.replicate 64 (.int .u8 0) ++ [.bool g]) [(0,64,(t 65))]),WA 65 6 66]) .ret)))))))) 
def c38l0 : LCode :=
 q (q (r 0 [MA 34 8,MA 35 7,UA 36 (n (t 35)),UA 37 (b .lss g (t 34) (t 36))]) (c (t 37) .skip (.exit 0))) (z 1 (.tree 0 (v 0 [8,9] (MA 38 8) (v 1 [3,7,8,9] (MA 39 7)
 (v 2 [3,7,8,9] (MA 40 8) (v 3 [7,8,9] (UA 41 (.slice 1 (t 39) (s (t 40)) o o)) (v 4 [6,7,8,9] (MA 42 7) (v 5 [6,7,8,9] (MA 43 8) (v 6 [7,8,9] (UA 44 (.slice 1 (t 42) o (s (t 43)) o))
 (h 7 (UA 45 (.copy 1 (t 41) (t 44))) g (v 8 [9] (UA 46 (b .add d (t 38) (t 45))) (v 9 [] (MA 8 46) .done)) .none))))))))))
def c38 : LCode :=
 (q (r 0 [UA 4 (m (k (.slice o 0 0)))]) (q (q (r 0 [MA 9 1,UA 10 (b .lss g (t 9) (k (i j 0)))]) (c (t 10) (r 0 [UA 11 (.bad),⟨o,.bad,o⟩]) .skip)) (q (r 0 [MA 13 0,UA 14 (n (t 13)),
 (UA 15 (.conv g .u64 (t 14))),MA 16 1,UA 17 (.conv g .u64 (t 16)),UA 18 (.call 43 [(t 15),(t 17)]),MA 12 18,UA 19 (.ext (t 12) 0),UA 20 (.ext (t 12) 1),MA 5 19,MA 6 20])
 (q (q (r 0 [MA 21 5,UA 22 (b .gtr g (t 21) (k (.int .u64 0))),MA 23 22,GA 24 (m (t 6)) 23 g,GA 25 (b .gtr g (t 24) (k (.int .u64 9223372036854775807))) 23 g,UA 26 (p (t 23) (k (y d)) (t 25))])
 (c (t 26) (r 0 [UA 27 (.bad),⟨o,.bad,o⟩]) .skip)) (q (r 1 [MA 28 6,UA 29 (.conv g .i64 (t 28)),UA 30 (.mk 0 1 8 [i j 0] (t 29) (t 29)),MA 7 30]) (q (r 0 [MA 31 7,
 (MA 32 0),UA 33 (.copy 1 (t 31) (t 32)),MA 8 33]) (q (z 0 (.loop c38l0)) (q (r 0 [MA 47 7,MA 4 47]) .ret)))))))) 
def c39 : LCode :=
 (q (r 0 [CA 2 0]) (q (z 0 (q (r 0 [MA 4 0,UA 5 (.nilc (t 4)),FA 6 3 5,LA 7 6,UA 8 (b .eql g (t 7) (k (i j 0))),MA 3 8]) (c (t 3) (q (r 0 [
 (MA 9 0),UA 10 (.nilc (t 9)),FA 11 4 10,⟨o,w 1 (t 11) (k (y d)),o⟩]) (q (r 0 [CA 2 130]) .ret)) (q (r 0 [MA 13 0,UA 14 (.nilc (t 13)),FA 15 3 14,
 (LA 16 15),UA 17 (b .gtr g (t 16) (k (i j 0))),MA 12 17]) (c (t 12) (r 0 [MA 18 0,UA 19 (.nilc (t 18)),FA 20 3 19,LA 21 20,UA 22 (b .sub d (t 21) (k (i j 1))),
 (UA 23 (.nilc (t 18))),FA 24 3 23,WA 1 24 22]) .skip))))) (q (r 0 [MA 25 0,UA 26 (.nilc (t 25)),FA 27 2 26,LA 28 27,UA 29 (b .add d (t 28) (k (i j 1))),
 (UA 30 (.nilc (t 25))),FA 31 2 30,WA 1 31 29]) (q (r 0 [CA 2 0]) .ret)))) 
def c40 : LCode :=
 (q (r 0 [UA 2 (m (k (y g)))]) (q (q (r 0 [MA 3 0,UA 4 (.nilc (t 3)),FA 5 2 4,LA 6 5,UA 7 (b .eql g (t 6) (k (i j 0)))]) (c (t 7) (q (r 0 [MA 8 0,UA 9 (.nilc (t 8)),
 (FA 10 3 9),⟨o,w 1 (t 10) (k (y d)),o⟩]) (q (r 0 [UA 2 (m (k (y g)))]) .ret)) .skip)) (q (q (r 0 [MA 11 0,UA 12 (.nilc (t 11)),FA 13 2 12,LA 14 13,UA 15 (b .gtr g (t 14) (k (i j 0)))])
 (c (t 15) (r 0 [MA 16 0,MA 17 0,UA 18 (.nilc (t 17)),FA 19 2 18,LA 20 19,UA 21 (b .sub d (t 20) (k (i j 1))),UA 22 (.nilc (t 16)),FA 23 2 22,
 (WA 1 23 21)]) .skip)) (q (r 0 [MA 24 0,MA 25 0,UA 26 (.nilc (t 25)),FA 27 1 26,LA 28 27,UA 29 (b .add d (t 28) (k (i j 1))),UA 30 (.nilc (t 24)),
 (FA 31 1 30),WA 1 31 29]) (q (r 0 [UA 2 (m (k (y d)))]) .ret))))) 
def c41l0 : LCode :=
 q (q (r 0 [MA 64 9,UA 65 (b .lss g (t 64) (k (i j 64)))]) (c (t 65) .skip (.exit 0))) (q (z 1 (r 0 [MA 68 9,MA 69 9,UA 70 (.prim (.pidx 64 1) [(t 7),(t 69)]),LA 71 70,
 (UA 72 (.prim (.pidx 64 1) [(t 8),(t 68)])),WA 1 72 71])) (r 0 [MA 66 9,UA 67 (b .add d (t 66) (k (i j 1))),MA 9 67]))
def c41 : LCode :=
 (q (r 2 [UA 2 (u 0 (t 0)),UA 4 (.alloc 1 (.agg (Array.replicate 64 (.int .u8 0) ++ #[.bool g,.slice o 0 0])))]) (q (r 0 [FA 10 65 2,LA 11 10,UA 12 (n (t 11)),MA 5 12])
 (q (r 0 [MA 13 1,MA 14 5,UA 15 (b .add d (t 14) (k (i j 3))),UA 16 (b .rem g (t 13) (t 15)),MA 17 5,UA 18 (b .add d (t 16) (t 17)),UA 19 (b .add d (t 18) (k (i j 3))),
 (MA 20 5),UA 21 (b .add d (t 20) (k (i j 3))),UA 22 (b .rem g (t 19) (t 21)),MA 6 22]) (q (q (r 0 [MA 23 6,UA 24 (b .eql g (t 23) (k (i j 0)))]) (c (t 24) (q (r 0 [FA 25 0 2,
 (SA 26 64 25),FA 27 64 2,LA 28 27,UA 29 (.build (List.replicate 64 (.int .u8 0) ++ [.bool g,.slice o 0 0]) [(0,64,(t 26)),(64,1,(t 28))]),WA 66 4 29])
 .ret) .skip)) (q (q (r 0 [MA 30 6,MA 31 5,UA 32 (b .leq g (t 30) (t 31))]) (c (t 32) (q (r 0 [FA 33 65 2,LA 34 33,MA 35 6,UA 36 (b .sub d (t 35) (k (i j 1))),
 (XA 37 64 34 36),SA 38 64 37,UA 39 (.build (List.replicate 64 (.int .u8 0) ++ [.bool g,.slice o 0 0]) [(0,64,(t 38))]),WA 66 4 39]) .ret) .skip)) (q (q (r 0 [
 (MA 40 6),MA 41 5,UA 42 (b .add d (t 41) (k (i j 1))),UA 43 (b .eql g (t 40) (t 42))]) (c (t 43) (q (r 0 [UA 44 (.build (List.replicate 64 (.int .u8 0) ++ [.bool g,.slice o 0 0]) [(64,1,(k (y d)))]),
 (WA 66 4 44)]) .ret) .skip)) (q (r 1 [UA 7 (.alloc 0 (.agg (Array.replicate 64 (.int .u8 0))))]) (q (q (r 0 [FA 45 64 2,LA 46 45,UA 47 (.not (t 46))]) (c (t 47) (r 0 [
 (FA 48 0 2),SA 49 64 48,WA 64 7 49]) .skip)) (q (q (r 0 [MA 50 5,UA 51 (b .gtr g (t 50) (k (i j 1)))]) (c (t 51) (r 0 [FA 52 65 2,LA 53 52,
 (MA 54 5),UA 55 (b .sub d (t 54) (k (i j 2))),XA 56 64 53 55,SA 57 64 56,WA 64 7 57]) .skip)) (q (r 1 [FA 58 65 2,LA 59 58,MA 60 5,
 (UA 61 (b .sub d (t 60) (k (i j 1)))),XA 62 64 59 61,SA 63 64 62,UA 8 (.alloc 0 (.agg (Array.replicate 64 (.int .u8 0)))),WA 64 8 63]) (q (q (r 0 [CA 9 32])
 (z 0 (.loop c41l0))) (q (r 0 [SA 73 64 8,UA 74 (.build (List.replicate 64 (.int .u8 0) ++ [.bool g,.slice o 0 0]) [(0,64,(t 73))]),WA 66 4 74]) .ret)))))))))))) 
def c42 : LCode :=
 (q (r 0 [MA 3 0,UA 4 (n (t 3)),MA 2 4]) (r 0 [MA 5 0,MA 6 2,MA 7 2,UA 8 (.conv g .u64 (t 7)),UA 9 (.call 45 [(t 8)]),UA 10 (.call 44 [(t 5),(k (i j 0)),(t 6),(t 9)])]))
 
def c43 : LCode :=
 (q (r 0 [UA 4 (m (k (.int .u64 0))),UA 5 (m (k (.int .u64 0)))]) (q (c (k (y g)) (q (r 0 [MA 11 0,UA 12 (.conv g .u32 (t 11)),MA 13 1,UA 14 (.conv g .u32 (t 13)),UA 15 (.call 46 [(t 12),(t 14)]),
 (MA 10 15),UA 16 (.ext (t 10) 0),UA 17 (.ext (t 10) 1),MA 6 16,MA 7 17]) (q (r 0 [MA 18 6,UA 19 (.conv d .u64 (t 18)),MA 20 7,UA 21 (.conv d .u64 (t 20)),
 (MA 4 19),MA 5 21]) .ret)) .skip) (q (r 0 [MA 23 0,MA 24 1,UA 25 (.call 47 [(t 23),(t 24)]),MA 22 25,UA 26 (.ext (t 22) 0),UA 27 (.ext (t 22) 1),MA 8 26,
 (MA 9 27)]) (q (r 0 [MA 28 8,MA 29 9,MA 4 28,MA 5 29]) .ret)))) 
def c44 : LCode :=
 (q (r 0 [UA 8 (m (k (y d)))]) (q (r 0 [UA 9 (m (k (y d)))]) (z 0 (.loop (z 1 (q (r 0 [MA 19 2,MA 20 1,UA 21 (b .sub d (t 19) (t 20)),MA 10 21]) (q (q (r 0 [MA 22 10,
 (UA 23 (b .leq g (t 22) (k (i j 12))))]) (c (t 23) (q (r 0 [MA 24 0,MA 25 1,MA 26 2,UA 27 (.call 48 [(t 24),(t 25),(t 26)])]) .ret) .skip)) (q (q (r 0 [MA 28 3,
 (UA 29 (b .eql g (t 28) (k (i j 0))))]) (c (t 29) (q (r 0 [MA 30 0,MA 31 1,MA 32 2,UA 33 (.call 49 [(t 30),(t 31),(t 32)])]) .ret) .skip)) (q (q (r 0 [MA 34 8,
 (UA 35 (.not (t 34)))]) (c (t 35) (q (r 0 [MA 36 0,MA 37 1,MA 38 2,UA 39 (.call 50 [(t 36),(t 37),(t 38)])]) (r 0 [MA 40 3,UA 41 (b .sub d (t 40) (k (i j 1))),
 (MA 3 41)])) .skip)) (q (r 0 [MA 43 0,MA 44 1,MA 45 2,UA 46 (.call 51 [(t 43),(t 44),(t 45)]),MA 42 46,UA 47 (.ext (t 42) 0),UA 48 (.ext (t 42) 1),
 (MA 11 47),MA 12 48]) (q (q (r 0 [MA 49 12,UA 50 (b .eql g (t 49) (k (i j 2)))]) (c (t 50) (q (r 0 [MA 51 0,MA 52 1,MA 53 2,UA 54 (.call 52 [(t 51),(t 52),(t 53)])])
 (q (r 0 [MA 55 2,UA 56 (b .sub d (t 55) (k (i j 1))),MA 57 11,MA 58 1,UA 59 (b .sub d (t 57) (t 58)),UA 60 (b .sub d (t 56) (t 59)),MA 11 60]) (r 0 [CA 12 1])))
 .skip)) (q (q (r 0 [MA 61 8,MA 62 61,GA 63 (m (t 9)) 62 d,UA 64 (p (t 62) (t 63) (k (y g))),MA 65 64,GA 66 (m (t 12)) 65 d,GA 67 (b .eql g (t 66) (k (i j 1))) 65 d,
 (UA 68 (p (t 65) (t 67) (k (y g))))]) (c (t 68) (q (r 0 [MA 69 0,MA 70 1,MA 71 2,UA 72 (.call 53 [(t 69),(t 70),(t 71)])]) (c (t 72) .ret .skip)) .skip)) (q (q (.tail 12 0 [
 (MA 73 1),UA 74 (b .gtr g (t 73) (k (i j 0))),MA 75 74,GA 76 (m (t 0)) 75 d,GA 77 (m (t 1)) 75 d,GA 78 (b .sub d (t 77) (k (i j 1))) 75 d,GA 79 (x 1 (t 76) (t 78)) 75 d,
 (GA 80 (l o (t 79)) 75 d),GA 81 (m (t 0)) 75 d,GA 82 (m (t 11)) 75 d,GA 83 (x 1 (t 81) (t 82)) 75 d,GA 84 (l o (t 83)) 75 d,GA 85 (.call 54 [(t 80),(t 84)]) 75 d,GA 86 (.not (t 85)) 75 d,
 (UA 87 (p (t 75) (t 86) (k (y g))))]) (c (t 87) (q (r 0 [MA 88 0,MA 89 1,MA 90 2,MA 91 11,UA 92 (.call 55 [(t 88),(t 89),(t 90),(t 91)]),MA 13 92]) (q
 (r 0 [MA 93 13,MA 1 93]) (.exit 1))) .skip)) (q (r 0 [MA 95 0,MA 96 1,MA 97 2,MA 98 11,UA 99 (.call 56 [(t 95),(t 96),(t 97),(t 98)]),MA 94 99,
 (UA 100 (.ext (t 94) 0)),UA 101 (.ext (t 94) 1),MA 14 100,MA 15 101]) (q (r 0 [MA 102 15,MA 9 102]) (q (r 0 [MA 103 14,MA 104 1,UA 105 (b .sub d (t 103) (t 104)),
 (MA 106 2),MA 107 14,UA 108 (b .sub d (t 106) (t 107)),MA 16 105,MA 17 108]) (q (r 0 [MA 109 10,UA 110 (b .quo d (t 109) (k (i j 8))),MA 18 110])
 (q (r 0 [MA 111 16,MA 112 17,UA 113 (b .lss g (t 111) (t 112))]) (c (t 113) (q (r 0 [MA 114 16,MA 115 18,UA 116 (b .geq g (t 114) (t 115)),MA 8 116])
 (q (r 0 [MA 117 0,MA 118 1,MA 119 14,MA 120 3,UA 121 (.call 44 [(t 117),(t 118),(t 119),(t 120)])]) (r 0 [MA 122 14,UA 123 (b .add d (t 122) (k (i j 1))),
 (MA 1 123)]))) (q (r 0 [MA 124 17,MA 125 18,UA 126 (b .geq g (t 124) (t 125)),MA 8 126]) (q (r 0 [MA 127 0,MA 128 14,UA 129 (b .add d (t 128) (k (i j 1))),
 (MA 130 2),MA 131 3,UA 132 (.call 44 [(t 127),(t 129),(t 130),(t 131)])]) (r 0 [MA 133 14,MA 2 133])))))))))))))))))))))) 
def c45 : LCode :=
 (q (r 0 [CA 2 0]) (q (c (k (y g)) (q (r 0 [MA 3 0,UA 4 (.conv g .u32 (t 3)),UA 5 (.call 57 [(t 4)]),MA 2 5]) .ret) .skip) (q (r 0 [MA 6 0,UA 7 (.call 58 [(t 6)]),
 (MA 2 7)]) .ret))) 
def c46 : LCode :=
 (q (r 0 [UA 4 (m (k (.int .u32 0))),UA 5 (m (k (.int .u32 0)))]) (q (r 0 [MA 7 0,UA 8 (.conv d .u64 (t 7)),MA 9 1,UA 10 (.conv d .u64 (t 9)),UA 11 (b .mul d (t 8) (t 10)),
 (MA 6 11)]) (q (r 0 [MA 12 6,UA 13 (.shift .shr (t 12) (k (.int .u64 32))),UA 14 (.conv g .u32 (t 13)),MA 15 6,UA 16 (.conv g .u32 (t 15)),MA 4 14,MA 5 16])
 .ret))) 
def c47 : LCode :=
 (q (r 0 [UA 4 (m (k (.int .u64 0))),UA 5 (m (k (.int .u64 0)))]) (q (r 0 [MA 14 0,UA 15 (b .and g (t 14) (k (.int .u64 4294967295))),MA 6 15]) (q (r 0 [MA 16 0,UA 17 (.shift .shr (t 16) (k (.int .u64 32))),
 (MA 7 17)]) (q (r 0 [MA 18 1,UA 19 (b .and g (t 18) (k (.int .u64 4294967295))),MA 8 19]) (q (r 0 [MA 20 1,UA 21 (.shift .shr (t 20) (k (.int .u64 32))),MA 9 21])
 (q (r 0 [MA 22 6,MA 23 8,UA 24 (b .mul d (t 22) (t 23)),MA 10 24]) (q (r 0 [MA 25 7,MA 26 8,UA 27 (b .mul d (t 25) (t 26)),MA 28 10,UA 29 (.shift .shr (t 28) (k (.int .u64 32))),
 (UA 30 (b .add d (t 27) (t 29))),MA 11 30]) (q (r 0 [MA 31 11,UA 32 (b .and g (t 31) (k (.int .u64 4294967295))),MA 12 32]) (q (r 0 [MA 33 11,UA 34 (.shift .shr (t 33) (k (.int .u64 32))),
 (MA 13 34)]) (q (r 0 [MA 35 12,MA 36 6,MA 37 9,UA 38 (b .mul d (t 36) (t 37)),UA 39 (b .add d (t 35) (t 38)),MA 12 39]) (q (r 0 [MA 40 7,MA 41 9,
 (UA 42 (b .mul d (t 40) (t 41))),MA 43 13,UA 44 (b .add d (t 42) (t 43)),MA 45 12,UA 46 (.shift .shr (t 45) (k (.int .u64 32))),UA 47 (b .add d (t 44) (t 46)),MA 4 47])
 (q (r 0 [MA 48 0,MA 49 1,UA 50 (b .mul d (t 48) (t 49)),MA 5 50]) .ret)))))))))))) 
def c48 : LCode :=
 (q (r 0 [MA 8 1,UA 9 (b .add d (t 8) (k (i j 1))),MA 6 9]) (z 0 (.loop (q (q (r 0 [MA 10 6,MA 11 2,UA 12 (b .lss g (t 10) (t 11))]) (c (t 12) .skip (.exit 0)))
 (q (z 1 (q (r 0 [MA 15 6,MA 7 15]) (z 2 (.loop (q (q (.tail 13 0 [MA 16 7,MA 17 1,UA 18 (b .gtr g (t 16) (t 17)),MA 19 18,GA 20 (m (t 0)) 19 d,
 (GA 21 (m (t 7)) 19 d),GA 22 (x 1 (t 20) (t 21)) 19 d,GA 23 (l o (t 22)) 19 d,GA 24 (m (t 0)) 19 d,GA 25 (m (t 7)) 19 d,GA 26 (b .sub d (t 25) (k (i j 1))) 19 d,GA 27 (x 1 (t 24) (t 26)) 19 d,
 (GA 28 (l o (t 27)) 19 d),GA 29 (.call 54 [(t 23),(t 28)]) 19 d,UA 30 (p (t 19) (t 29) (k (y g)))]) (c (t 30) .skip (.exit 2))) (q (z 3 (.tree 0 (v 0 [14,15,16,17] (MA 33 0) (v 1 [14,15,16,17] (MA 34 7)
 (v 2 [16,17] (MA 35 0) (v 3 [4,16,17] (MA 36 7) (v 4 [16,17] (UA 37 (b .sub d (t 36) (k (i j 1)))) (v 5 [8,9,14,15,16,17] (MA 38 0) (v 6 [7,8,9,14,15,16,17] (MA 39 7) (v 7 [8,9,14,15,16,17] (UA 40 (b .sub d (t 39) (k (i j 1))))
 (v 8 [9,14,15,16,17] (XA 41 1 38 40) (v 9 [14,15,16,17] (LA 42 41) (v 10 [12,13,14,15,16,17] (MA 43 0) (v 11 [12,13,14,15,16,17] (MA 44 7) (v 12 [13,14,15,16,17] (XA 45 1 43 44)
 (v 13 [14,15,16,17] (LA 46 45) (v 14 [15,16,17] (XA 47 1 33 34) (h 15 (WA 1 47 42) g (v 16 [17] (XA 48 1 35 37) (h 17 (WA 1 48 46) g .done .none))
 .none)))))))))))))))))) (r 0 [MA 31 7,UA 32 (b .sub d (t 31) (k (i j 1))),MA 7 32]))))))) (r 0 [MA 13 6,UA 14 (b .add d (t 13) (k (i j 1))),MA 6 14])))))) 
def c49 : LCode :=
 (q (r 0 [MA 11 1,MA 6 11]) (q (r 0 [CA 7 0]) (q (r 0 [MA 12 2,MA 13 1,UA 14 (b .sub d (t 12) (t 13)),MA 8 14]) (q (q (r 0 [MA 15 8,
 (UA 16 (b .sub d (t 15) (k (i j 1)))),UA 17 (b .quo d (t 16) (k (i j 2))),MA 9 17]) (z 0 (.loop (q (q (r 0 [MA 18 9,UA 19 (b .geq g (t 18) (k (i j 0)))]) (c (t 19) .skip (.exit 0)))
 (q (z 1 (r 0 [MA 22 0,MA 23 9,MA 24 8,MA 25 6,UA 26 (.call 59 [(t 22),(t 23),(t 24),(t 25)])])) (r 0 [MA 20 9,UA 21 (b .sub d (t 20) (k (i j 1))),
 (MA 9 21)])))))) (q (r 0 [MA 27 8,UA 28 (b .sub d (t 27) (k (i j 1))),MA 10 28]) (z 2 (.loop (q (q (r 0 [MA 29 10,UA 30 (b .geq g (t 29) (k (i j 0)))]) (c (t 30)
 .skip (.exit 2))) (q (z 3 (q (.tree 0 (v 0 [16,17,18,19] (MA 33 0) (v 1 [16,17,18,19] (MA 34 6) (v 2 [18,19] (MA 35 0) (v 3 [5,18,19] (MA 36 6) (v 4 [5,18,19] (MA 37 10)
 (v 5 [18,19] (UA 38 (b .add d (t 36) (t 37))) (v 6 [10,11,16,17,18,19] (MA 39 0) (v 7 [9,10,11,16,17,18,19] (MA 40 6) (v 8 [9,10,11,16,17,18,19] (MA 41 10) (v 9 [10,11,16,17,18,19] (UA 42 (b .add d (t 40) (t 41)))
 (v 10 [11,16,17,18,19] (XA 43 1 39 42) (v 11 [16,17,18,19] (LA 44 43) (v 12 [14,15,16,17,18,19] (MA 45 0) (v 13 [14,15,16,17,18,19] (MA 46 6) (v 14 [15,16,17,18,19] (XA 47 1 45 46)
 (v 15 [16,17,18,19] (LA 48 47) (v 16 [17,18,19] (XA 49 1 33 34) (h 17 (WA 1 49 44) g (v 18 [19] (XA 50 1 35 38) (h 19 (WA 1 50 48) g .done .none))
 .none))))))))))))))))))) (r 0 [MA 51 0,MA 52 7,MA 53 10,MA 54 6,UA 55 (.call 59 [(t 51),(t 52),(t 53),(t 54)])]))) (r 0 [MA 31 10,UA 32 (b .sub d (t 31) (k (i j 1))),
 (MA 10 32)])))))))))) 
def c50 : LCode :=
 (q (r 0 [MA 11 2,MA 12 1,UA 13 (b .sub d (t 11) (t 12)),MA 6 13]) (q (r 0 [MA 14 6,UA 15 (b .geq g (t 14) (k (i j 8)))]) (c (t 15) (q (r 1 [MA 16 6,
 (UA 17 (.conv g .u64 (t 16))),UA 7 (.alloc 0 (.int .u64 0)),WA 1 7 17]) (q (r 0 [MA 18 6,UA 19 (.call 60 [(t 18)]),MA 8 19]) (q (r 0 [MA 20 1,MA 21 6,
 (UA 22 (b .quo d (t 21) (k (i j 4)))),UA 23 (b .mul d (t 22) (k (i j 2))),UA 24 (b .add d (t 20) (t 23)),UA 25 (b .sub d (t 24) (k (i j 1))),MA 9 25]) (z 0 (.loop (q (q (r 0 [MA 26 9,
 (MA 27 1),MA 28 6,UA 29 (b .quo d (t 28) (k (i j 4))),UA 30 (b .mul d (t 29) (k (i j 2))),UA 31 (b .add d (t 27) (t 30)),UA 32 (b .add d (t 31) (k (i j 1))),UA 33 (b .leq g (t 26) (t 32))])
 (c (t 33) .skip (.exit 0))) (q (z 1 (q (r 0 [UA 36 (.call 61 [(t 7)]),MA 37 8,UA 38 (b .sub d (t 37) (k (.int .u64 1))),UA 39 (b .and g (t 36) (t 38)),UA 40 (.conv g .i64 (t 39)),MA 10 40])
 (q (q (r 0 [MA 41 10,MA 42 6,UA 43 (b .geq g (t 41) (t 42))]) (c (t 43) (r 0 [MA 44 10,MA 45 6,UA 46 (b .sub d (t 44) (t 45)),MA 10 46]) .skip)) (.tree 0
 (v 0 [16,17,18,19] (MA 47 0) (v 1 [16,17,18,19] (MA 48 9) (v 2 [18,19] (MA 49 0) (v 3 [5,18,19] (MA 50 1) (v 4 [5,18,19] (MA 51 10) (v 5 [18,19] (UA 52 (b .add d (t 50) (t 51)))
 (v 6 [10,11,16,17,18,19] (MA 53 0) (v 7 [9,10,11,16,17,18,19] (MA 54 1) (v 8 [9,10,11,16,17,18,19] (MA 55 10) (v 9 [10,11,16,17,18,19] (UA 56 (b .add d (t 54) (t 55))) (v 10 [11,16,17,18,19] (XA 57 1 53 56)
 (v 11 [16,17,18,19] (LA 58 57) (v 12 [14,15,16,17,18,19] (MA 59 0) (v 13 [14,15,16,17,18,19] (MA 60 9) (v 14 [15,16,17,18,19] (XA 61 1 59 60) (v 15 [16,17,18,19] (LA 62 61)
 (v 16 [17,18,19] (XA 63 1 47 48) (h 17 (WA 1 63 58) g (v 18 [19] (XA 64 1 49 52) (h 19 (WA 1 64 62) g .done .none)) .none)))))))))))))))))))))) (r 0 [MA 34 9,
 (UA 35 (b .add d (t 34) (k (i j 1)))),MA 9 35])))))))) .skip))) 
def c51 : LCode :=
 (q (r 0 [CA 6 0,CA 7 0]) (q (r 0 [MA 13 2,MA 14 1,UA 15 (b .sub d (t 13) (t 14)),MA 8 15]) (q (r 1 [UA 9 (.alloc 0 (i j 0))]) (q (r 0 [
 (MA 16 1),MA 17 8,UA 18 (b .quo d (t 17) (k (i j 4))),UA 19 (b .mul d (t 18) (k (i j 1))),UA 20 (b .add d (t 16) (t 19)),MA 10 20]) (q (r 0 [MA 21 1,MA 22 8,
 (UA 23 (b .quo d (t 22) (k (i j 4)))),UA 24 (b .mul d (t 23) (k (i j 2))),UA 25 (b .add d (t 21) (t 24)),MA 11 25]) (q (r 0 [MA 26 1,MA 27 8,UA 28 (b .quo d (t 27) (k (i j 4))),
 (UA 29 (b .mul d (t 28) (k (i j 3)))),UA 30 (b .add d (t 26) (t 29)),MA 12 30]) (q (q (r 0 [MA 31 8,UA 32 (b .geq g (t 31) (k (i j 8)))]) (c (t 32) (q (q (r 0 [MA 33 8,
 (UA 34 (b .geq g (t 33) (k (i j 50))))]) (c (t 34) (q (r 0 [MA 35 0,MA 36 10,UA 37 (.call 62 [(t 35),(t 36),(t 9)]),MA 10 37]) (q (r 0 [MA 38 0,MA 39 11,
 (UA 40 (.call 62 [(t 38),(t 39),(t 9)])),MA 11 40]) (r 0 [MA 41 0,MA 42 12,UA 43 (.call 62 [(t 41),(t 42),(t 9)]),MA 12 43]))) .skip)) (r 0 [MA 44 0,
 (MA 45 10),MA 46 11,MA 47 12,UA 48 (.call 63 [(t 44),(t 45),(t 46),(t 47),(t 9)]),MA 11 48])) .skip)) (q (r 0 [LA 49 9]) (z 0 (q (r 0 [UA 52 (b .eql g (t 49) (k (i j 0))),
 (MA 51 52)]) (c (t 51) (q (r 0 [MA 53 11,MA 6 53,CA 7 1]) .ret) (q (r 0 [UA 55 (b .eql g (t 49) (k (i j 12))),MA 54 55]) (c (t 54) (q (r 0 [MA 56 11,
 (MA 6 56),CA 7 2]) .ret) (q (r 0 [MA 50 11,MA 6 50,CA 7 0]) .ret)))))))))))))) 
def c52 : LCode :=
 (q (r 0 [MA 8 1,MA 6 8]) (q (r 0 [MA 9 2,UA 10 (b .sub d (t 9) (k (i j 1))),MA 7 10]) (z 0 (.loop (q (q (r 0 [MA 11 6,MA 12 7,UA 13 (b .lss g (t 11) (t 12))])
 (c (t 13) .skip (.exit 0))) (z 1 (q (.tree 0 (v 0 [12,13,14,15] (MA 14 0) (v 1 [12,13,14,15] (MA 15 6) (v 2 [14,15] (MA 16 0) (v 3 [14,15] (MA 17 7) (v 4 [6,7,12,13,14,15] (MA 18 0)
 (v 5 [6,7,12,13,14,15] (MA 19 7) (v 6 [7,12,13,14,15] (XA 20 1 18 19) (v 7 [12,13,14,15] (LA 21 20) (v 8 [10,11,12,13,14,15] (MA 22 0) (v 9 [10,11,12,13,14,15] (MA 23 6)
 (v 10 [11,12,13,14,15] (XA 24 1 22 23) (v 11 [12,13,14,15] (LA 25 24) (v 12 [13,14,15] (XA 26 1 14 15) (h 13 (WA 1 26 21) g (v 14 [15] (XA 27 1 16 17)
 (h 15 (WA 1 27 25) g .done .none)) .none))))))))))))))) (q (r 0 [MA 28 6,UA 29 (b .add d (t 28) (k (i j 1))),MA 6 29]) (r 0 [MA 30 7,UA 31 (b .sub d (t 30) (k (i j 1))),
 (MA 7 31)]))))))))) 
def c53 : LCode :=
 (q (r 0 [UA 6 (m (k (y g)))]) (q (r 0 [MA 11 1,UA 12 (b .add d (t 11) (k (i j 1))),MA 7 12]) (q (q (r 0 [CA 8 0]) (z 0 (.loop (q (q (r 0 [MA 13 8,UA 14 (b .lss g (t 13) (k (i j 5)))])
 (c (t 14) .skip (.exit 0))) (q (z 1 (q (z 2 (.loop (q (q (.tail 13 0 [MA 17 7,MA 18 2,UA 19 (b .lss g (t 17) (t 18)),MA 20 19,GA 21 (m (t 0)) 20 d,GA 22 (m (t 7)) 20 d,
 (GA 23 (x 1 (t 21) (t 22)) 20 d),GA 24 (l o (t 23)) 20 d,GA 25 (m (t 0)) 20 d,GA 26 (m (t 7)) 20 d,GA 27 (b .sub d (t 26) (k (i j 1))) 20 d,GA 28 (x 1 (t 25) (t 27)) 20 d,
 (GA 29 (l o (t 28)) 20 d),GA 30 (.call 54 [(t 24),(t 29)]) 20 d,GA 31 (.not (t 30)) 20 d,UA 32 (p (t 20) (t 31) (k (y g)))]) (c (t 32) .skip (.exit 2))) (z 3 (r 0 [MA 33 7,
 (UA 34 (b .add d (t 33) (k (i j 1)))),MA 7 34]))))) (q (q (r 0 [MA 35 7,MA 36 2,UA 37 (b .eql g (t 35) (t 36))]) (c (t 37) (q (r 0 [UA 6 (m (k (y d)))]) .ret) .skip))
 (q (q (r 0 [MA 38 2,MA 39 1,UA 40 (b .sub d (t 38) (t 39)),UA 41 (b .lss g (t 40) (k (i j 50)))]) (c (t 41) (q (r 0 [UA 6 (m (k (y g)))]) .ret) .skip)) (q (.tree 0 (v 0 [14,15,16,17] (MA 42 0)
 (v 1 [14,15,16,17] (MA 43 7) (v 2 [16,17] (MA 44 0) (v 3 [4,16,17] (MA 45 7) (v 4 [16,17] (UA 46 (b .sub d (t 45) (k (i j 1)))) (v 5 [8,9,14,15,16,17] (MA 47 0) (v 6 [7,8,9,14,15,16,17] (MA 48 7)
 (v 7 [8,9,14,15,16,17] (UA 49 (b .sub d (t 48) (k (i j 1)))) (v 8 [9,14,15,16,17] (XA 50 1 47 49) (v 9 [14,15,16,17] (LA 51 50) (v 10 [12,13,14,15,16,17] (MA 52 0) (v 11 [12,13,14,15,16,17] (MA 53 7)
 (v 12 [13,14,15,16,17] (XA 54 1 52 53) (v 13 [14,15,16,17] (LA 55 54) (v 14 [15,16,17] (XA 56 1 42 43) (h 15 (WA 1 56 51) g (v 16 [17] (XA 57 1 44 46)
 (h 17 (WA 1 57 55) g .done .none)) .none))))))))))))))))) (q (q (r 0 [MA 58 7,MA 59 1,UA 60 (b .sub d (t 58) (t 59)),UA 61 (b .geq g (t 60) (k (i j 2)))]) (c (t 61)
 (q (r 0 [MA 62 7,UA 63 (b .sub d (t 62) (k (i j 1))),MA 9 63]) (z 4 (.loop (q (q (r 0 [MA 64 9,UA 65 (b .geq g (t 64) (k (i j 1)))]) (c (t 65) .skip (.exit 4))) (q (z 5
 (q (q (.tail 9 0 [MA 68 0,MA 69 9,XA 70 1 68 69,LA 71 70,MA 72 0,MA 73 9,UA 74 (b .sub d (t 73) (k (i j 1))),XA 75 1 72 74,
 (LA 76 75),UA 77 (.call 54 [(t 71),(t 76)]),UA 78 (.not (t 77))]) (c (t 78) (.exit 4) .skip)) (.tree 0 (v 0 [14,15,16,17] (MA 79 0) (v 1 [14,15,16,17] (MA 80 9) (v 2 [16,17] (MA 81 0)
 (v 3 [4,16,17] (MA 82 9) (v 4 [16,17] (UA 83 (b .sub d (t 82) (k (i j 1)))) (v 5 [8,9,14,15,16,17] (MA 84 0) (v 6 [7,8,9,14,15,16,17] (MA 85 9) (v 7 [8,9,14,15,16,17] (UA 86 (b .sub d (t 85) (k (i j 1))))
 (v 8 [9,14,15,16,17] (XA 87 1 84 86) (v 9 [14,15,16,17] (LA 88 87) (v 10 [12,13,14,15,16,17] (MA 89 0) (v 11 [12,13,14,15,16,17] (MA 90 9) (v 12 [13,14,15,16,17] (XA 91 1 89 90)
 (v 13 [14,15,16,17] (LA 92 91) (v 14 [15,16,17] (XA 93 1 79 80) (h 15 (WA 1 93 88) g (v 16 [17] (XA 94 1 81 83) (h 17 (WA 1 94 92) g .done .none))
 .none))))))))))))))))))) (r 0 [MA 66 9,UA 67 (b .sub d (t 66) (k (i j 1))),MA 9 67])))))) .skip)) (q (r 0 [MA 95 2,MA 96 7,UA 97 (b .sub d (t 95) (t 96)),UA 98 (b .geq g (t 97) (k (i j 2)))])
 (c (t 98) (q (r 0 [MA 99 7,UA 100 (b .add d (t 99) (k (i j 1))),MA 10 100]) (z 6 (.loop (q (q (r 0 [MA 101 10,MA 102 2,UA 103 (b .lss g (t 101) (t 102))]) (c (t 103)
 .skip (.exit 6))) (q (z 7 (q (q (.tail 9 0 [MA 106 0,MA 107 10,XA 108 1 106 107,LA 109 108,MA 110 0,MA 111 10,UA 112 (b .sub d (t 111) (k (i j 1))),
 (XA 113 1 110 112),LA 114 113,UA 115 (.call 54 [(t 109),(t 114)]),UA 116 (.not (t 115))]) (c (t 116) (.exit 6) .skip)) (.tree 0 (v 0 [14,15,16,17] (MA 117 0) (v 1 [14,15,16,17] (MA 118 10)
 (v 2 [16,17] (MA 119 0) (v 3 [4,16,17] (MA 120 10) (v 4 [16,17] (UA 121 (b .sub d (t 120) (k (i j 1)))) (v 5 [8,9,14,15,16,17] (MA 122 0) (v 6 [7,8,9,14,15,16,17] (MA 123 10)
 (v 7 [8,9,14,15,16,17] (UA 124 (b .sub d (t 123) (k (i j 1)))) (v 8 [9,14,15,16,17] (XA 125 1 122 124) (v 9 [14,15,16,17] (LA 126 125) (v 10 [12,13,14,15,16,17] (MA 127 0) (v 11 [12,13,14,15,16,17] (MA 128 10)
 (v 12 [13,14,15,16,17] (XA 129 1 127 128) (v 13 [14,15,16,17] (LA 130 129) (v 14 [15,16,17] (XA 131 1 117 118) (h 15 (WA 1 131 126) g (v 16 [17] (XA 132 1 119 121)
 (h 17 (WA 1 132 130) g .done .none)) .none))))))))))))))))))) (r 0 [MA 104 10,UA 105 (b .add d (t 104) (k (i j 1))),MA 10 105])))))) .skip)))))))) (r 0 [MA 15 8,
 (UA 16 (b .add d (t 15) (k (i j 1)))),MA 8 16])))))) (q (r 0 [UA 6 (m (k (y g)))]) .ret)))) 
def c54 : LCode :=
 (q (r 0 [UA 4 (m (k (y g)))]) (q (r 0 [MA 5 0,UA 6 (.call 64 [(t 5)]),MA 7 6,GA 8 (m (t 1)) 7 d,GA 9 (.call 64 [(t 8)]) 7 d,GA 10 (.not (t 9)) 7 d,UA 11 (p (t 7) (t 10) (k (y g))),
 (MA 12 11),GA 13 (m (t 0)) 12 g,GA 14 (m (t 1)) 12 g,GA 15 (b .lss g (t 13) (t 14)) 12 g,UA 16 (p (t 12) (k (y d)) (t 15)),MA 4 16]) .ret)) 
def c55 : LCode :=
 (q (r 0 [CA 8 0]) (q (.tree 0 (v 0 [12,13,14,15] (MA 11 0) (v 1 [12,13,14,15] (MA 12 1) (v 2 [14,15] (MA 13 0) (v 3 [14,15] (MA 14 3) (v 4 [6,7,12,13,14,15] (MA 15 0)
 (v 5 [6,7,12,13,14,15] (MA 16 3) (v 6 [7,12,13,14,15] (XA 17 1 15 16) (v 7 [12,13,14,15] (LA 18 17) (v 8 [10,11,12,13,14,15] (MA 19 0) (v 9 [10,11,12,13,14,15] (MA 20 1)
 (v 10 [11,12,13,14,15] (XA 21 1 19 20) (v 11 [12,13,14,15] (LA 22 21) (v 12 [13,14,15] (XA 23 1 11 12) (h 13 (WA 1 23 18) g (v 14 [15] (XA 24 1 13 14)
 (h 15 (WA 1 24 22) g .done .none)) .none))))))))))))))) (q (r 0 [MA 25 1,UA 26 (b .add d (t 25) (k (i j 1))),MA 27 2,UA 28 (b .sub d (t 27) (k (i j 1))),MA 9 26,
 (MA 10 28)]) (q (z 0 (.loop (z 1 (q (z 2 (.loop (q (q (.tail 12 0 [MA 29 9,MA 30 10,UA 31 (b .leq g (t 29) (t 30)),MA 32 31,GA 33 (m (t 0)) 32 d,GA 34 (m (t 1)) 32 d,
 (GA 35 (x 1 (t 33) (t 34)) 32 d),GA 36 (l o (t 35)) 32 d,GA 37 (m (t 0)) 32 d,GA 38 (m (t 9)) 32 d,GA 39 (x 1 (t 37) (t 38)) 32 d,GA 40 (l o (t 39)) 32 d,GA 41 (.call 54 [(t 36),(t 40)]) 32 d,
 (GA 42 (.not (t 41)) 32 d),UA 43 (p (t 32) (t 42) (k (y g)))]) (c (t 43) .skip (.exit 2))) (z 3 (r 0 [MA 44 9,UA 45 (b .add d (t 44) (k (i j 1))),MA 9 45]))))) (q (z 4 (.loop
 (q (q (.tail 12 0 [MA 46 9,MA 47 10,UA 48 (b .leq g (t 46) (t 47)),MA 49 48,GA 50 (m (t 0)) 49 d,GA 51 (m (t 1)) 49 d,GA 52 (x 1 (t 50) (t 51)) 49 d,
 (GA 53 (l o (t 52)) 49 d),GA 54 (m (t 0)) 49 d,GA 55 (m (t 10)) 49 d,GA 56 (x 1 (t 54) (t 55)) 49 d,GA 57 (l o (t 56)) 49 d,GA 58 (.call 54 [(t 53),(t 57)]) 49 d,UA 59 (p (t 49) (t 58) (k (y g)))])
 (c (t 59) .skip (.exit 4))) (z 5 (r 0 [MA 60 10,UA 61 (b .sub d (t 60) (k (i j 1))),MA 10 61]))))) (q (q (r 0 [MA 62 9,MA 63 10,UA 64 (b .gtr g (t 62) (t 63))])
 (c (t 64) (.exit 0) .skip)) (q (.tree 0 (v 0 [12,13,14,15] (MA 65 0) (v 1 [12,13,14,15] (MA 66 9) (v 2 [14,15] (MA 67 0) (v 3 [14,15] (MA 68 10) (v 4 [6,7,12,13,14,15] (MA 69 0)
 (v 5 [6,7,12,13,14,15] (MA 70 10) (v 6 [7,12,13,14,15] (XA 71 1 69 70) (v 7 [12,13,14,15] (LA 72 71) (v 8 [10,11,12,13,14,15] (MA 73 0) (v 9 [10,11,12,13,14,15] (MA 74 9)
 (v 10 [11,12,13,14,15] (XA 75 1 73 74) (v 11 [12,13,14,15] (LA 76 75) (v 12 [13,14,15] (XA 77 1 65 66) (h 13 (WA 1 77 72) g (v 14 [15] (XA 78 1 67 68)
 (h 15 (WA 1 78 76) g .done .none)) .none))))))))))))))) (q (r 0 [MA 79 9,UA 80 (b .add d (t 79) (k (i j 1))),MA 9 80]) (r 0 [MA 81 10,UA 82 (b .sub d (t 81) (k (i j 1))),
 (MA 10 82)]))))))))) (q (r 0 [MA 83 9,MA 8 83]) .ret))))) 
def c56 : LCode :=
 (q (r 0 [CA 8 0,UA 9 (m (k (y g)))]) (q (.tree 0 (v 0 [12,13,14,15] (MA 12 0) (v 1 [12,13,14,15] (MA 13 1) (v 2 [14,15] (MA 14 0) (v 3 [14,15] (MA 15 3) (v 4 [6,7,12,13,14,15] (MA 16 0)
 (v 5 [6,7,12,13,14,15] (MA 17 3) (v 6 [7,12,13,14,15] (XA 18 1 16 17) (v 7 [12,13,14,15] (LA 19 18) (v 8 [10,11,12,13,14,15] (MA 20 0) (v 9 [10,11,12,13,14,15] (MA 21 1)
 (v 10 [11,12,13,14,15] (XA 22 1 20 21) (v 11 [12,13,14,15] (LA 23 22) (v 12 [13,14,15] (XA 24 1 12 13) (h 13 (WA 1 24 19) g (v 14 [15] (XA 25 1 14 15)
 (h 15 (WA 1 25 23) g .done .none)) .none))))))))))))))) (q (r 0 [MA 26 1,UA 27 (b .add d (t 26) (k (i j 1))),MA 28 2,UA 29 (b .sub d (t 28) (k (i j 1))),MA 10 27,
 (MA 11 29)]) (q (z 0 (.loop (q (q (.tail 12 0 [MA 30 10,MA 31 11,UA 32 (b .leq g (t 30) (t 31)),MA 33 32,GA 34 (m (t 0)) 33 d,GA 35 (m (t 10)) 33 d,
 (GA 36 (x 1 (t 34) (t 35)) 33 d),GA 37 (l o (t 36)) 33 d,GA 38 (m (t 0)) 33 d,GA 39 (m (t 1)) 33 d,GA 40 (x 1 (t 38) (t 39)) 33 d,GA 41 (l o (t 40)) 33 d,GA 42 (.call 54 [(t 37),(t 41)]) 33 d,
 (UA 43 (p (t 33) (t 42) (k (y g))))]) (c (t 43) .skip (.exit 0))) (z 1 (r 0 [MA 44 10,UA 45 (b .add d (t 44) (k (i j 1))),MA 10 45]))))) (q (z 2 (.loop (q (q (.tail 12 0 [MA 46 10,
 (MA 47 11),UA 48 (b .leq g (t 46) (t 47)),MA 49 48,GA 50 (m (t 0)) 49 d,GA 51 (m (t 11)) 49 d,GA 52 (x 1 (t 50) (t 51)) 49 d,GA 53 (l o (t 52)) 49 d,GA 54 (m (t 0)) 49 d,
 (GA 55 (m (t 1)) 49 d),GA 56 (x 1 (t 54) (t 55)) 49 d,GA 57 (l o (t 56)) 49 d,GA 58 (.call 54 [(t 53),(t 57)]) 49 d,GA 59 (.not (t 58)) 49 d,UA 60 (p (t 49) (t 59) (k (y g)))])
 (c (t 60) .skip (.exit 2))) (z 3 (r 0 [MA 61 11,UA 62 (b .sub d (t 61) (k (i j 1))),MA 11 62]))))) (q (q (r 0 [MA 63 10,MA 64 11,UA 65 (b .gtr g (t 63) (t 64))])
 (c (t 65) (q (.tree 0 (v 0 [12,13,14,15] (MA 66 0) (v 1 [12,13,14,15] (MA 67 11) (v 2 [14,15] (MA 68 0) (v 3 [14,15] (MA 69 1) (v 4 [6,7,12,13,14,15] (MA 70 0) (v 5 [6,7,12,13,14,15] (MA 71 1)
 (v 6 [7,12,13,14,15] (XA 72 1 70 71) (v 7 [12,13,14,15] (LA 73 72) (v 8 [10,11,12,13,14,15] (MA 74 0) (v 9 [10,11,12,13,14,15] (MA 75 11) (v 10 [11,12,13,14,15] (XA 76 1 74 75)
 (v 11 [12,13,14,15] (LA 77 76) (v 12 [13,14,15] (XA 78 1 66 67) (h 13 (WA 1 78 73) g (v 14 [15] (XA 79 1 68 69) (h 15 (WA 1 79 77) g .done .none))
 .none))))))))))))))) (q (r 0 [MA 80 11,MA 8 80,UA 9 (m (k (y d)))]) .ret)) .skip)) (q (.tree 0 (v 0 [12,13,14,15] (MA 81 0) (v 1 [12,13,14,15] (MA 82 10) (v 2 [14,15] (MA 83 0)
 (v 3 [14,15] (MA 84 11) (v 4 [6,7,12,13,14,15] (MA 85 0) (v 5 [6,7,12,13,14,15] (MA 86 11) (v 6 [7,12,13,14,15] (XA 87 1 85 86) (v 7 [12,13,14,15] (LA 88 87) (v 8 [10,11,12,13,14,15] (MA 89 0)
 (v 9 [10,11,12,13,14,15] (MA 90 10) (v 10 [11,12,13,14,15] (XA 91 1 89 90) (v 11 [12,13,14,15] (LA 92 91) (v 12 [13,14,15] (XA 93 1 81 82) (h 13 (WA 1 93 88) g
 (v 14 [15] (XA 94 1 83 84) (h 15 (WA 1 94 92) g .done .none)) .none))))))))))))))) (q (r 0 [MA 95 10,UA 96 (b .add d (t 95) (k (i j 1))),MA 10 96]) (q (r 0 [
 (MA 97 11),UA 98 (b .sub d (t 97) (k (i j 1))),MA 11 98]) (q (z 4 (.loop (z 5 (q (z 6 (.loop (q (q (.tail 12 0 [MA 99 10,MA 100 11,UA 101 (b .leq g (t 99) (t 100)),
 (MA 102 101),GA 103 (m (t 0)) 102 d,GA 104 (m (t 10)) 102 d,GA 105 (x 1 (t 103) (t 104)) 102 d,GA 106 (l o (t 105)) 102 d,GA 107 (m (t 0)) 102 d,GA 108 (m (t 1)) 102 d,
 (GA 109 (x 1 (t 107) (t 108)) 102 d),GA 110 (l o (t 109)) 102 d,GA 111 (.call 54 [(t 106),(t 110)]) 102 d,UA 112 (p (t 102) (t 111) (k (y g)))]) (c (t 112) .skip (.exit 6))) (z 7 (r 0 [
 (MA 113 10),UA 114 (b .add d (t 113) (k (i j 1))),MA 10 114]))))) (q (z 8 (.loop (q (q (.tail 12 0 [MA 115 10,MA 116 11,UA 117 (b .leq g (t 115) (t 116)),MA 118 117,
 (GA 119 (m (t 0)) 118 d),GA 120 (m (t 11)) 118 d,GA 121 (x 1 (t 119) (t 120)) 118 d,GA 122 (l o (t 121)) 118 d,GA 123 (m (t 0)) 118 d,GA 124 (m (t 1)) 118 d,GA 125 (x 1 (t 123) (t 124)) 118 d,
 (GA 126 (l o (t 125)) 118 d),GA 127 (.call 54 [(t 122),(t 126)]) 118 d,GA 128 (.not (t 127)) 118 d,UA 129 (p (t 118) (t 128) (k (y g)))]) (c (t 129) .skip (.exit 8))) (z 9 (r 0 [MA 130 11,
 (UA 131 (b .sub d (t 130) (k (i j 1)))),MA 11 131]))))) (q (q (r 0 [MA 132 10,MA 133 11,UA 134 (b .gtr g (t 132) (t 133))]) (c (t 134) (.exit 4) .skip)) (q (.tree 0 (v 0 [12,13,14,15] (MA 135 0)
 (v 1 [12,13,14,15] (MA 136 10) (v 2 [14,15] (MA 137 0) (v 3 [14,15] (MA 138 11) (v 4 [6,7,12,13,14,15] (MA 139 0) (v 5 [6,7,12,13,14,15] (MA 140 11) (v 6 [7,12,13,14,15] (XA 141 1 139 140)
 (v 7 [12,13,14,15] (LA 142 141) (v 8 [10,11,12,13,14,15] (MA 143 0) (v 9 [10,11,12,13,14,15] (MA 144 10) (v 10 [11,12,13,14,15] (XA 145 1 143 144) (v 11 [12,13,14,15] (LA 146 145)
 (v 12 [13,14,15] (XA 147 1 135 136) (h 13 (WA 1 147 142) g (v 14 [15] (XA 148 1 137 138) (h 15 (WA 1 148 146) g .done .none)) .none))))))))))))))) (q (r 0 [
 (MA 149 10),UA 150 (b .add d (t 149) (k (i j 1))),MA 10 150]) (r 0 [MA 151 11,UA 152 (b .sub d (t 151) (k (i j 1))),MA 11 152]))))))))) (q (.tree 0 (v 0 [12,13,14,15] (MA 153 0)
 (v 1 [12,13,14,15] (MA 154 11) (v 2 [14,15] (MA 155 0) (v 3 [14,15] (MA 156 1) (v 4 [6,7,12,13,14,15] (MA 157 0) (v 5 [6,7,12,13,14,15] (MA 158 1) (v 6 [7,12,13,14,15] (XA 159 1 157 158)
 (v 7 [12,13,14,15] (LA 160 159) (v 8 [10,11,12,13,14,15] (MA 161 0) (v 9 [10,11,12,13,14,15] (MA 162 11) (v 10 [11,12,13,14,15] (XA 163 1 161 162) (v 11 [12,13,14,15] (LA 164 163)
 (v 12 [13,14,15] (XA 165 1 153 154) (h 13 (WA 1 165 160) g (v 14 [15] (XA 166 1 155 156) (h 15 (WA 1 166 164) g .done .none)) .none))))))))))))))) (q (r 0 [
 (MA 167 11),MA 8 167,UA 9 (m (k (y g)))]) .ret)))))))))))) 
def c57 : LCode :=
 (q (r 0 [CA 2 0]) (q (q (r 0 [MA 3 0,UA 4 (b .geq g (t 3) (k (.int .u32 65536)))]) (c (t 4) (q (r 0 [MA 5 0,UA 6 (.shift .shr (t 5) (k (.int .u64 16))),MA 0 6])
 (r 0 [CA 2 16])) .skip)) (q (q (r 0 [MA 7 0,UA 8 (b .geq g (t 7) (k (.int .u32 256)))]) (c (t 8) (q (r 0 [MA 9 0,UA 10 (.shift .shr (t 9) (k (.int .u64 8))),MA 0 10])
 (r 0 [MA 11 2,UA 12 (b .add d (t 11) (k (i j 8))),MA 2 12])) .skip)) (q (r 0 [MA 13 2,MA 14 0,UA 15 (.conv g .u8 (t 14)),UA 16 (.prim .sidx [(k (.string ⟨#[0,1,2,2,3,3,3,3,4,4,4,4,4,4,4,4,5,5,5,5,5,5,5,5,5,5,5,5,5,5,5,5,6,6,6,6,6,6,6,6,6,6,6,6,6,6,6,6,6,6,6,6,6,6,6,6,6,6,6,6,6,6,6,6,7,7,7,7,7,7,7,7,7,7,7,7,7,7,7,7,7,7,7,7,7,7,7,7,7,7,7,7,7,7,7,7,7,7,7,7,7,7,7,7,7,7,7,7,7,7,7,7,7,7,7,7,7,7,7,7,7,7,7,7,7,7,7,7,8,8,8,8,8,8,8,8,8,8,8,8,8,8,8,8,8,8,8,8,8,8,8,8,8,8,8,8,8,8,8,8,8,8,8,8,8,8,8,8,8,8,8,8,8,8,8,8,8,8,8,8,8,8,8,8,8,8,8,8,8,8,8,8,8,8,8,8,8,8,8,8,8,8,8,8,8,8,8,8,8,8,8,8,8,8,8,8,8,8,8,8,8,8,8,8,8,8,8,8,8,8,8,8,8,8,8,8,8,8,8,8,8,8,8,8,8,8,8,8,8,8,8,8,8,8,8,8]⟩)),(t 15)]),
 (UA 17 (.conv d .i64 (t 16))),UA 18 (b .add d (t 13) (t 17)),MA 2 18]) .ret)))) 
def c58 : LCode :=
 (q (r 0 [CA 2 0]) (q (q (r 0 [MA 3 0,UA 4 (b .geq g (t 3) (k (.int .u64 4294967296)))]) (c (t 4) (q (r 0 [MA 5 0,UA 6 (.shift .shr (t 5) (k (.int .u64 32))),MA 0 6])
 (r 0 [CA 2 32])) .skip)) (q (q (r 0 [MA 7 0,UA 8 (b .geq g (t 7) (k (.int .u64 65536)))]) (c (t 8) (q (r 0 [MA 9 0,UA 10 (.shift .shr (t 9) (k (.int .u64 16))),
 (MA 0 10)]) (r 0 [MA 11 2,UA 12 (b .add d (t 11) (k (i j 16))),MA 2 12])) .skip)) (q (q (r 0 [MA 13 0,UA 14 (b .geq g (t 13) (k (.int .u64 256)))]) (c (t 14) (q
 (r 0 [MA 15 0,UA 16 (.shift .shr (t 15) (k (.int .u64 8))),MA 0 16]) (r 0 [MA 17 2,UA 18 (b .add d (t 17) (k (i j 8))),MA 2 18])) .skip)) (q (r 0 [MA 19 2,
 (MA 20 0),UA 21 (.conv g .u8 (t 20)),UA 22 (.prim .sidx [(k (.string ⟨#[0,1,2,2,3,3,3,3,4,4,4,4,4,4,4,4,5,5,5,5,5,5,5,5,5,5,5,5,5,5,5,5,6,6,6,6,6,6,6,6,6,6,6,6,6,6,6,6,6,6,6,6,6,6,6,6,6,6,6,6,6,6,6,6,7,7,7,7,7,7,7,7,7,7,7,7,7,7,7,7,7,7,7,7,7,7,7,7,7,7,7,7,7,7,7,7,7,7,7,7,7,7,7,7,7,7,7,7,7,7,7,7,7,7,7,7,7,7,7,7,7,7,7,7,7,7,7,7,8,8,8,8,8,8,8,8,8,8,8,8,8,8,8,8,8,8,8,8,8,8,8,8,8,8,8,8,8,8,8,8,8,8,8,8,8,8,8,8,8,8,8,8,8,8,8,8,8,8,8,8,8,8,8,8,8,8,8,8,8,8,8,8,8,8,8,8,8,8,8,8,8,8,8,8,8,8,8,8,8,8,8,8,8,8,8,8,8,8,8,8,8,8,8,8,8,8,8,8,8,8,8,8,8,8,8,8,8,8,8,8,8,8,8,8,8,8,8,8,8,8,8,8,8,8,8,8]⟩)),(t 21)]),
 (UA 23 (.conv d .i64 (t 22))),UA 24 (b .add d (t 19) (t 23)),MA 2 24]) .ret))))) 
def c59 : LCode :=
 (q (r 0 [MA 10 1,MA 8 10]) (z 0 (.loop (z 1 (q (r 0 [MA 11 8,UA 12 (b .mul d (k (i j 2)) (t 11)),UA 13 (b .add d (t 12) (k (i j 1))),MA 9 13]) (q (q (r 0 [
 (MA 14 9),MA 15 2,UA 16 (b .geq g (t 14) (t 15))]) (c (t 16) (.exit 0) .skip)) (q (q (.tail 18 0 [MA 17 9,UA 18 (b .add d (t 17) (k (i j 1))),MA 19 2,UA 20 (b .lss g (t 18) (t 19)),
 (MA 21 20),GA 22 (m (t 0)) 21 d,GA 23 (m (t 3)) 21 d,GA 24 (m (t 9)) 21 d,GA 25 (b .add d (t 23) (t 24)) 21 d,GA 26 (x 1 (t 22) (t 25)) 21 d,GA 27 (l o (t 26)) 21 d,
 (GA 28 (m (t 0)) 21 d),GA 29 (m (t 3)) 21 d,GA 30 (m (t 9)) 21 d,GA 31 (b .add d (t 29) (t 30)) 21 d,GA 32 (b .add d (t 31) (k (i j 1))) 21 d,GA 33 (x 1 (t 28) (t 32)) 21 d,
 (GA 34 (l o (t 33)) 21 d),GA 35 (.call 54 [(t 27),(t 34)]) 21 d,UA 36 (p (t 21) (t 35) (k (y g)))]) (c (t 36) (r 0 [MA 37 9,UA 38 (b .add d (t 37) (k (i j 1))),MA 9 38])
 .skip)) (q (q (.tail 12 0 [MA 39 0,MA 40 3,MA 41 8,UA 42 (b .add d (t 40) (t 41)),XA 43 1 39 42,LA 44 43,MA 45 0,MA 46 3,
 (MA 47 9),UA 48 (b .add d (t 46) (t 47)),XA 49 1 45 48,LA 50 49,UA 51 (.call 54 [(t 44),(t 50)]),UA 52 (.not (t 51))]) (c (t 52) .ret .skip)) (q (.tree 0 (v 0 [20,21,22,23] (MA 53 0)
 (v 1 [3,20,21,22,23] (MA 54 3) (v 2 [3,20,21,22,23] (MA 55 8) (v 3 [20,21,22,23] (UA 56 (b .add d (t 54) (t 55))) (v 4 [22,23] (MA 57 0) (v 5 [7,22,23] (MA 58 3) (v 6 [7,22,23] (MA 59 9)
 (v 7 [22,23] (UA 60 (b .add d (t 58) (t 59))) (v 8 [12,13,20,21,22,23] (MA 61 0) (v 9 [11,12,13,20,21,22,23] (MA 62 3) (v 10 [11,12,13,20,21,22,23] (MA 63 9) (v 11 [12,13,20,21,22,23] (UA 64 (b .add d (t 62) (t 63)))
 (v 12 [13,20,21,22,23] (XA 65 1 61 64) (v 13 [20,21,22,23] (LA 66 65) (v 14 [18,19,20,21,22,23] (MA 67 0) (v 15 [17,18,19,20,21,22,23] (MA 68 3) (v 16 [17,18,19,20,21,22,23] (MA 69 8)
 (v 17 [18,19,20,21,22,23] (UA 70 (b .add d (t 68) (t 69))) (v 18 [19,20,21,22,23] (XA 71 1 67 70) (v 19 [20,21,22,23] (LA 72 71) (v 20 [21,22,23] (XA 73 1 53 56) (h 21 (WA 1 73 66) g
 (v 22 [23] (XA 74 1 57 60) (h 23 (WA 1 74 72) g .done .none)) .none))))))))))))))))))))))) (r 0 [MA 75 9,MA 8 75])))))))))) 
def c60 : LCode :=
 (q (r 0 [UA 2 (m (k (.int .u64 0)))]) (q (r 0 [MA 3 0,UA 4 (.conv g .u64 (t 3)),UA 5 (.call 45 [(t 4)]),UA 6 (.shift .shl (k (.int .u64 1)) (t 5)),MA 2 6]) .ret)) 
def c61 : LCode :=
 (q (r 0 [UA 2 (m (k (.int .u64 0)))]) (q (.tail 9 0 [MA 3 0,UA 4 (.nilc (t 3)),LA 5 4,MA 6 0,UA 7 (.nilc (t 6)),LA 8 7,UA 9 (.shift .shl (t 8) (k (.int .u64 13))),
 (UA 10 (b .xor g (t 5) (t 9))),UA 11 (.nilc (t 3)),WA 1 11 10]) (q (.tail 9 0 [MA 12 0,UA 13 (.nilc (t 12)),LA 14 13,MA 15 0,UA 16 (.nilc (t 15)),LA 17 16,
 (UA 18 (.shift .shr (t 17) (k (.int .u64 7)))),UA 19 (b .xor g (t 14) (t 18)),UA 20 (.nilc (t 12)),WA 1 20 19]) (q (.tail 9 0 [MA 21 0,UA 22 (.nilc (t 21)),LA 23 22,
 (MA 24 0),UA 25 (.nilc (t 24)),LA 26 25,UA 27 (.shift .shl (t 26) (k (.int .u64 17))),UA 28 (b .xor g (t 23) (t 27)),UA 29 (.nilc (t 21)),WA 1 29 28]) (q (r 0 [
 (MA 30 0),UA 31 (.nilc (t 30)),LA 32 31,MA 2 32]) .ret))))) 
def c62 : LCode :=
 (q (r 0 [CA 6 0]) (q (r 0 [MA 7 0,MA 8 1,UA 9 (b .sub d (t 8) (k (i j 1))),MA 10 1,MA 11 1,UA 12 (b .add d (t 11) (k (i j 1))),MA 13 2,
 (UA 14 (.call 63 [(t 7),(t 9),(t 10),(t 12),(t 13)])),MA 6 14]) .ret)) 
def c63 : LCode :=
 (q (r 0 [CA 10 0]) (q (r 0 [MA 12 0,MA 13 1,MA 14 2,MA 15 4,UA 16 (.call 65 [(t 12),(t 13),(t 14),(t 15)]),MA 11 16,UA 17 (.ext (t 11) 0),
 (UA 18 (.ext (t 11) 1)),MA 1 17,MA 2 18]) (q (r 0 [MA 20 0,MA 21 2,MA 22 3,MA 23 4,UA 24 (.call 65 [(t 20),(t 21),(t 22),(t 23)]),MA 19 24,
 (UA 25 (.ext (t 19) 0)),UA 26 (.ext (t 19) 1),MA 2 25,MA 3 26]) (q (r 0 [MA 28 0,MA 29 1,MA 30 2,MA 31 4,UA 32 (.call 65 [(t 28),(t 29),(t 30),(t 31)]),
 (MA 27 32),UA 33 (.ext (t 27) 0),UA 34 (.ext (t 27) 1),MA 1 33,MA 2 34]) (q (r 0 [MA 35 2,MA 10 35]) .ret))))) 
def c64 : LCode :=
 (q (r 0 [UA 2 (m (k (y g)))]) (q (r 0 [MA 3 0,MA 4 0,UA 5 (b .neq g (t 3) (t 4)),MA 2 5]) .ret)) 
def c65 : LCode :=
 (q (r 0 [CA 8 0,CA 9 0]) (q (q (.tail 8 0 [MA 10 0,MA 11 2,XA 12 1 10 11,LA 13 12,MA 14 0,MA 15 1,XA 16 1 14 15,
 (LA 17 16),UA 18 (.call 54 [(t 13),(t 17)])]) (c (t 18) (q (r 0 [MA 19 3,UA 20 (.nilc (t 19)),LA 21 20,UA 22 (b .add d (t 21) (k (i j 1))),UA 23 (.nilc (t 19)),
 (WA 1 23 22)]) (q (r 0 [MA 24 2,MA 25 1,MA 8 24,MA 9 25]) .ret)) .skip)) (q (r 0 [MA 26 1,MA 27 2,MA 8 26,MA 9 27])
 .ret))) 
def tbl : List (Option Ent) := [
  none,  none,  none,  none,  none,  none,  none,  some ⟨c7, [.tmp 2], 14, none⟩,  some ⟨c8, [.tmp 0], 186, none⟩,
  none,  none,  some ⟨c11, [.cell 4 (some 64), .tmp 5], 47, none⟩,  none,  none,
  some ⟨c14, [.tmp 4], 65, none⟩,  some ⟨c15, [.tmp 2], 8, none⟩,  some ⟨c16, [.tmp 2], 7, none⟩,  some ⟨c17, [.tmp 2], 7, none⟩,  some ⟨c18, [.tmp 2], 27, none⟩,  none,  some ⟨c20, [], 9, none⟩,
  some ⟨c21, [.tmp 2], 43, none⟩,  some ⟨c22, [.tmp 6], 32, some 3⟩,  some ⟨c23, [.cell 2 (some 64)], 14, none⟩,  some ⟨c24, [.tmp 6], 49, none⟩,  some ⟨c25, [.tmp 4], 19, none⟩,  some ⟨c26, [.tmp 4], 26, none⟩,
  none,  none,  none,  none,  none,  none,  none,
  some ⟨c34, [.tmp 4], 22, none⟩,  none,  some ⟨c36, [.tmp 2], 21, none⟩,  some ⟨c37, [.cell 6 (some 65)], 67, none⟩,  some ⟨c38, [.tmp 4], 48, none⟩,  some ⟨c39, [.tmp 2], 32, none⟩,
  none,  none,  some ⟨c42, [], 11, none⟩,  some ⟨c43, [.tmp 4, .tmp 5], 30, none⟩,  some ⟨c44, [], 134, none⟩,  some ⟨c45, [.tmp 2], 8, none⟩,
  some ⟨c46, [.tmp 4, .tmp 5], 17, none⟩,  some ⟨c47, [.tmp 4, .tmp 5], 51, none⟩,  some ⟨c48, [], 49, none⟩,  some ⟨c49, [], 56, none⟩,  some ⟨c50, [], 65, none⟩,  some ⟨c51, [.tmp 6, .tmp 7], 57, none⟩,
  some ⟨c52, [], 32, none⟩,  some ⟨c53, [.tmp 6], 133, none⟩,  some ⟨c54, [.tmp 4], 17, none⟩,  some ⟨c55, [.tmp 8], 84, none⟩,  some ⟨c56, [.tmp 8, .tmp 9], 168, none⟩,  some ⟨c57, [.tmp 2], 19, none⟩,
  some ⟨c58, [.tmp 2], 25, none⟩,  some ⟨c59, [], 76, none⟩,  some ⟨c60, [.tmp 2], 7, none⟩,  some ⟨c61, [.tmp 2], 33, none⟩,  some ⟨c62, [.tmp 6], 15, none⟩,  some ⟨c63, [.tmp 10], 36, none⟩,  some ⟨c64, [.tmp 2], 6, none⟩,
  some ⟨c65, [.tmp 8, .tmp 9], 28, none⟩]
end Go.Fx.D
