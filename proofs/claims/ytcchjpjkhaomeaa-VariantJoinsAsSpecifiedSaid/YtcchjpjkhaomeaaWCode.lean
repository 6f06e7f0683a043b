import Derived.Test.YtcchjpjkhaomeaaFxRun
set_option linter.unusedVariables false
set_option linter.unusedSimpArgs false
set_option linter.unusedSectionVars false
namespace Go.Fx.W
open Go Go.Fx
abbrev MA (n x : Nat) : LOper := ⟨some n,.mov (.tmp x),none⟩
abbrev LA (n x : Nat) : LOper := ⟨some n,.load none (.tmp x),none⟩
abbrev FA (n k x : Nat) : LOper := ⟨some n,.fld k (.tmp x),none⟩
abbrev SA (n k x : Nat) : LOper := ⟨some n,.load (some k) (.tmp x),none⟩
abbrev XA (n k x y : Nat) : LOper := ⟨some n,.idx k (.tmp x) (.tmp y),none⟩
abbrev CA (n : Nat) (x : Int) : LOper := ⟨some n,.mov (.const (.int .i64 x)),none⟩
abbrev WA (k x y : Nat) : LOper := ⟨none,.store k (.tmp x) (.tmp y),none⟩
abbrev UA (n : Nat) (x : LOp) : LOper := ⟨some n,x,none⟩
abbrev GA (n : Nat) (x : LOp) (a : Nat) (b : Bool) : LOper := ⟨some n,x,some (a,b)⟩
open Go.Operand renaming tmp → t, const → k
open Go.Value renaming int → i, bool → y
open Go.IntKind renaming i64 → j
open Option renaming some → s, none → o
open Go.Fx.LOp renaming mov → m, load → l, fld → f, bin → b, idx → x, store → w, pick → p, len → n, box → u
open Go.Fx.LCode renaming seq → q, reg → r, cond → c, block → z
open Go.Fx.LPlan renaming take → v, alt → h
open Bool renaming false → g, true → d
def c3l0 : LCode :=
 q (q (r 0 [MA 8 3,MA 9 0,UA 10 (n (t 9)),UA 11 (b .lss g (t 8) (t 10))]) (c (t 11) .skip (.exit 0))) (q (z 1 (q (r 0 [MA 14 0,MA 15 3,XA 16 3 14 15,
 (FA 17 1 16),LA 18 17,UA 19 (n (t 18)),UA 20 (b .gtr g (t 19) (k (i j 20)))]) (c (t 20) (q (r 0 [UA 21 (.call 9 []),MA 2 21]) .ret) .skip))) (r 0 [MA 12 3,
 (UA 13 (b .add d (t 12) (k (i j 1)))),MA 3 13]))
def c3 : LCode :=
 (q (r 0 [UA 2 (m (k (y g)))]) (q (q (r 0 [MA 4 0,UA 5 (n (t 4)),UA 6 (b .gtr g (t 5) (k (i j 20)))]) (c (t 6) (q (r 0 [UA 7 (.call 9 []),MA 2 7]) .ret) .skip)) (q (q (r 0 [
 (CA 3 0)]) (z 0 (.loop c3l0))) (q (r 0 [UA 22 (.call 9 []),MA 23 22,GA 24 (m (t 0)) 23 d,GA 25 (.call 10 [(t 24)]) 23 d,GA 26 (m (t 0)) 23 d,GA 27 (.call 11 [(t 26)]) 23 d,
 (GA 28 (b .eql g (t 25) (t 27)) 23 d),UA 29 (p (t 23) (t 28) (k (y g))),MA 2 29]) .ret)))) 
def c4l0 : LCode :=
 q (q (r 0 [MA 72 12,MA 73 0,UA 74 (n (t 73)),UA 75 (b .lss g (t 72) (t 74))]) (c (t 75) .skip (.exit 0))) (q (z 1 (q (r 0 [MA 78 0,MA 79 12,XA 80 3 78 79,
 (SA 81 3 80),MA 82 1,UA 83 (.call 17 [(t 81),(t 82)]),MA 13 83]) (q (r 0 [MA 84 0,MA 85 12,XA 86 3 84 85,SA 87 3 86,MA 88 1,
 (UA 89 (.call 18 [(t 87),(t 88)])),MA 90 13,UA 91 (.prim (.sbin .neq) [(t 89),(t 90)]),MA 92 91,GA 93 (m (t 10)) 92 g,GA 94 (m (t 12)) 92 g,GA 95 (x 1 (t 93) (t 94)) 92 g,
 (GA 96 (l o (t 95)) 92 g),GA 97 (m (t 13)) 92 g,GA 98 (.prim (.sbin .neq) [(t 96),(t 97)]) 92 g,UA 99 (p (t 92) (k (y d)) (t 98))]) (c (t 99) (q (r 0 [UA 6 (m (k (y g)))]) .ret) .skip))))
 (r 0 [MA 76 12,UA 77 (b .add d (t 76) (k (i j 1))),MA 12 77]))
def c4 : LCode :=
 (q (r 0 [UA 6 (m (k (y g)))]) (q (r 0 [MA 14 0,UA 15 (.call 12 [(t 14)]),MA 7 15]) (q (q (r 0 [MA 16 7,UA 17 (.not (t 16)),MA 18 17,GA 19 (m (t 1)) 18 g,
 (GA 20 (n (t 19)) 18 g),GA 21 (b .gtr g (t 20) (k (i j 40))) 18 g,UA 22 (p (t 18) (k (y d)) (t 21)),MA 23 22,GA 24 (m (t 2)) 23 g,GA 25 (n (t 24)) 23 g,GA 26 (b .gtr g (t 25) (k (i j 40))) 23 g,
 (UA 27 (p (t 23) (k (y d)) (t 26)))]) (c (t 27) (q (r 0 [UA 28 (.call 9 []),MA 6 28]) .ret) .skip)) (q (r 0 [MA 29 0,MA 30 1,UA 31 (.call 13 [(t 29),(t 30)]),MA 8 31])
 (q (r 0 [MA 32 0,MA 33 2,UA 34 (.call 13 [(t 32),(t 33)]),MA 9 34]) (q (q (r 0 [MA 35 0,MA 36 1,UA 37 (.call 14 [(t 35),(t 36)]),MA 38 8,
 (UA 39 (.prim (.sbin .neq) [(t 37),(t 38)])),MA 40 39,GA 41 (m (t 0)) 40 g,GA 42 (m (t 2)) 40 g,GA 43 (.call 14 [(t 41),(t 42)]) 40 g,GA 44 (m (t 9)) 40 g,GA 45 (.prim (.sbin .neq) [(t 43),(t 44)]) 40 g,
 (UA 46 (p (t 40) (k (y d)) (t 45))),MA 47 46,GA 48 (m (t 0)) 47 g,GA 49 (m (t 1)) 47 g,GA 50 (m (t 2)) 47 g,GA 51 (.call 15 [(t 48),(t 49),(t 50)]) 47 g,GA 52 (m (t 8)) 47 g,
 (GA 53 (m (t 9)) 47 g),GA 54 (.prim (.sbin .eql) [(t 52),(t 53)]) 47 g,GA 55 (.eqb d (t 51) (t 54)) 47 g,UA 56 (p (t 47) (k (y d)) (t 55))]) (c (t 56) (q (r 0 [UA 6 (m (k (y g)))])
 .ret) .skip)) (q (r 0 [MA 58 0,MA 59 8,UA 60 (.call 16 [(t 58),(t 59)]),MA 57 60,UA 61 (.ext (t 57) 0),UA 62 (.ext (t 57) 1),MA 10 61,MA 11 62])
 (q (q (r 0 [MA 63 11,UA 64 (b .neq g (t 63) (k (i j 0))),MA 65 64,GA 66 (m (t 10)) 65 g,GA 67 (n (t 66)) 65 g,GA 68 (m (t 0)) 65 g,GA 69 (n (t 68)) 65 g,
 (GA 70 (b .neq g (t 67) (t 69)) 65 g),UA 71 (p (t 65) (k (y d)) (t 70))]) (c (t 71) (q (r 0 [UA 6 (m (k (y g)))]) .ret) .skip)) (q (q (r 0 [CA 12 0]) (z 0 (.loop c4l0))) (q (r 0 [
 (UA 100 (.call 9 [])),MA 6 100]) .ret)))))))))) 
def c8 : LCode :=
 (q (r 0 [UA 8 (m (k (y g)))]) (q (r 0 [MA 19 0,UA 20 (.call 12 [(t 19)]),MA 9 20]) (q (r 0 [MA 21 1,UA 22 (.call 12 [(t 21)]),MA 10 22]) (q (q (r 0 [MA 23 9,
 (UA 24 (.not (t 23))),MA 25 24,GA 26 (m (t 10)) 25 g,GA 27 (.not (t 26)) 25 g,UA 28 (p (t 25) (k (y d)) (t 27)),MA 29 28,GA 30 (m (t 2)) 29 g,GA 31 (n (t 30)) 29 g,
 (GA 32 (b .gtr g (t 31) (k (i j 40))) 29 g),UA 33 (p (t 29) (k (y d)) (t 32)),MA 34 33,GA 35 (m (t 3)) 34 g,GA 36 (n (t 35)) 34 g,GA 37 (b .gtr g (t 36) (k (i j 40))) 34 g,
 (UA 38 (p (t 34) (k (y d)) (t 37)))]) (c (t 38) (q (r 0 [UA 39 (.call 9 []),MA 8 39]) .ret) .skip)) (q (r 0 [MA 40 0,MA 41 1,UA 42 (.call 27 [(t 40),(t 41)]),MA 11 42])
 (q (q (r 0 [MA 43 11,UA 44 (.call 11 [(t 43)]),UA 45 (b .neq g (t 44) (k (i j 0)))]) (c (t 45) (q (r 0 [UA 46 (.call 9 []),MA 8 46]) .ret) .skip)) (q (r 0 [MA 47 0,
 (MA 48 1),UA 49 (.call 28 [(t 47),(t 48)]),MA 12 49]) (q (q (r 0 [MA 50 12,MA 51 11,UA 52 (.call 29 [(t 50),(t 51)]),UA 53 (.not (t 52))]) (c (t 53) (q (r 0 [
 (UA 8 (m (k (y g))))]) .ret) .skip)) (q (q (r 0 [MA 54 12,MA 55 2,MA 56 3,UA 57 (.call 15 [(t 54),(t 55),(t 56)]),MA 58 57,GA 59 (m (t 0)) 58 d,GA 60 (m (t 2)) 58 d,
 (GA 61 (m (t 3)) 58 d),GA 62 (.call 15 [(t 59),(t 60),(t 61)]) 58 d,GA 63 (.not (t 62)) 58 d,GA 64 (m (t 63)) 58 d,GA 65 (m (t 1)) 64 g,GA 66 (m (t 2)) 64 g,GA 67 (m (t 3)) 64 g,
 (GA 68 (.call 15 [(t 65),(t 66),(t 67)]) 64 g),GA 69 (.not (t 68)) 64 g,GA 70 (p (t 64) (k (y d)) (t 69)) 58 d,UA 71 (p (t 58) (t 70) (k (y g)))]) (c (t 71) (q (r 0 [UA 8 (m (k (y g)))])
 .ret) .skip)) (q (r 0 [MA 73 12,MA 74 0,UA 75 (.call 24 [(t 73),(t 74)]),MA 72 75,UA 76 (.ext (t 72) 0),UA 77 (.ext (t 72) 1),UA 78 (.ext (t 72) 2),MA 13 76,
 (MA 14 77),MA 15 78]) (q (r 0 [MA 80 12,MA 81 1,UA 82 (.call 24 [(t 80),(t 81)]),MA 79 82,UA 83 (.ext (t 79) 0),UA 84 (.ext (t 79) 1),UA 85 (.ext (t 79) 2),
 (MA 16 83),MA 17 84,MA 18 85]) (q (r 0 [UA 86 (.call 9 []),MA 87 86,GA 88 (m (t 15)) 87 d,GA 89 (.not (t 88)) 87 d,UA 90 (p (t 87) (t 89) (k (y g))),
 (MA 91 90),GA 92 (m (t 18)) 91 d,GA 93 (.not (t 92)) 91 d,UA 94 (p (t 91) (t 93) (k (y g))),MA 8 94]) .ret)))))))))))) 
def c9 : LCode :=
 (q (r 0 [UA 0 (m (k (y g)))]) (q (r 3 [UA 13 (.lits 0 1 2 [.string ⟨#[]⟩] [(0,(k (.string ⟨#[100,101]⟩))),(1,(k (.string ⟨#[101,110]⟩)))]),UA 14 (.build [.string ⟨#[]⟩,.slice o 0 0,.string ⟨#[]⟩] [(0,1,(k (.string ⟨#[97,99,99,101,112,116,45,108,97,110,103,117,97,103,101]⟩))),(1,1,(t 13)),(2,1,(k (.string ⟨#[101,110]⟩)))]),
 (UA 15 (.lits 1 1 1 [.string ⟨#[]⟩] [(0,(k (.string ⟨#[97,61,98]⟩)))])),UA 16 (.build [.string ⟨#[]⟩,.slice o 0 0,.string ⟨#[]⟩] [(0,1,(k (.string ⟨#[120,45,97,112,112]⟩))),(1,1,(t 15))]),UA 17 (.litsf [13,15] 2 3 2 [.string ⟨#[]⟩,.slice o 0 0,.string ⟨#[]⟩] [(0,(t 14)),(1,(t 16))]),
 (MA 1 17)]) (.frz [1] (q (r 0 [MA 19 1,UA 20 (.call 21 [(t 19)]),MA 18 20,UA 21 (.ext (t 18) 0),UA 22 (.ext (t 18) 1),MA 2 21,MA 3 22]) (q (r 0 [MA 24 1,
 (UA 25 (.call 16 [(t 24),(k (.string ⟨#[97,99,99,101,112,116,45,108,97,110,103,117,97,103,101,61,102,114,38,120,45,97,112,112,61]⟩))])),MA 23 25,UA 26 (.ext (t 23) 0),UA 27 (.ext (t 23) 1),
 (MA 4 26),MA 5 27]) (q (r 0 [MA 29 1,MA 30 1,UA 31 (.call 24 [(t 29),(t 30)]),MA 28 31,UA 32 (.ext (t 28) 0),UA 33 (.ext (t 28) 1),UA 34 (.ext (t 28) 2),
 (MA 6 32),MA 7 33,MA 8 34]) (q (r 0 [MA 36 1,UA 37 (.slice 3 (t 36) o (s (k (i j 1))) o),MA 38 1,UA 39 (.call 24 [(t 37),(t 38)]),MA 35 39,
 (UA 40 (.ext (t 35) 0)),UA 41 (.ext (t 35) 1),UA 42 (.ext (t 35) 2),MA 9 40,MA 10 41,MA 11 42]) (q (r 1 [MA 43 1,UA 44 (.call 14 [(t 43),(k (.slice o 0 0))]),
 (UA 45 (.prim (.sbin .eql) [(t 44),(k (.string ⟨#[97,99,99,101,112,116,45,108,97,110,103,117,97,103,101,61,101,110,38,120,45,97,112,112,61]⟩))])),MA 46 45,GA 47 (m (t 1)) 46 d,GA 48 (.build [.string ⟨#[]⟩,.string ⟨#[]⟩] [(0,1,(k (.string ⟨#[97,99,99,101,112,116,45,108,97,110,103,117,97,103,101]⟩))),(1,1,(k (.string ⟨#[100,101]⟩)))]) 46 d,
 (GA 49 (.build [.string ⟨#[]⟩,.string ⟨#[]⟩] [(0,1,(k (.string ⟨#[120,45,97,112,112]⟩))),(1,1,(k (.string ⟨#[97,61,98]⟩)))]) 46 d),GA 50 (.lits 0 2 2 [.string ⟨#[]⟩,.string ⟨#[]⟩] [(0,(t 48)),(1,(t 49))]) 46 d,
 (GA 51 (.call 14 [(t 47),(t 50)]) 46 d),GA 52 (.prim (.sbin .eql) [(t 51),(k (.string ⟨#[97,99,99,101,112,116,45,108,97,110,103,117,97,103,101,61,100,101,38,120,45,97,112,112,61,97,37,51,100,98]⟩))]) 46 d,
 (UA 53 (p (t 46) (t 52) (k (y g)))),MA 12 53]) (q (r 0 [MA 54 1,UA 55 (.call 10 [(t 54)]),UA 56 (b .eql g (t 55) (k (i j 0))),MA 57 56,GA 58 (m (t 12)) 57 d,UA 59 (p (t 57) (t 58) (k (y g))),
 (MA 60 59),GA 61 (m (t 3)) 60 d,GA 62 (b .eql g (t 61) (k (i j 0))) 60 d,UA 63 (p (t 60) (t 62) (k (y g))),MA 64 63,GA 65 (m (t 2)) 64 d,GA 66 (n (t 65)) 64 d,
 (GA 67 (b .eql g (t 66) (k (i j 4))) 64 d),UA 68 (p (t 64) (t 67) (k (y g))),MA 69 68,GA 70 (m (t 5)) 69 d,GA 71 (b .eql g (t 70) (k (i j 3))) 69 d,UA 72 (p (t 69) (t 71) (k (y g))),
 (MA 73 72),GA 74 (m (t 8)) 73 d,GA 75 (.not (t 74)) 73 d,UA 76 (p (t 73) (t 75) (k (y g))),MA 77 76,GA 78 (m (t 11)) 77 d,UA 79 (p (t 77) (t 78) (k (y g))),MA 80 79,
 (GA 81 (m (t 9)) 80 d),GA 82 (n (t 81)) 80 d,GA 83 (b .eql g (t 82) (k (i j 1))) 80 d,UA 84 (p (t 80) (t 83) (k (y g))),MA 85 84,GA 86 (m (t 9)) 85 d,GA 87 (x 2 (t 86) (k (i j 0))) 85 d,
 (GA 88 (f 1 (t 87)) 85 d),GA 89 (l o (t 88)) 85 d,GA 90 (.prim (.sbin .eql) [(t 89),(k (.string ⟨#[97,61,98]⟩))]) 85 d,UA 91 (p (t 85) (t 90) (k (y g))),MA 92 91,GA 93 (m (t 10)) 92 d,
 (GA 94 (n (t 93)) 92 d),GA 95 (b .eql g (t 94) (k (i j 0))) 92 d,UA 96 (p (t 92) (t 95) (k (y g))),MA 0 96]) .ret))))))))) 
def c10l0 : LCode :=
 q (r 0 [UA 16 (b .lss g (t 15) (t 14))]) (q (c (t 16) .skip (.exit 0)) (q (z 1 (q (r 1 [MA 17 15,XA 18 3 13 15,SA 19 3 18,UA 4 (.alloc 0 (.agg #[.string ⟨#[]⟩,.slice o 0 0,.string ⟨#[]⟩])),
 (MA 3 17),WA 3 4 19]) (q (.tail 4 0 [SA 20 3 4,MA 21 0,MA 22 3,UA 23 (.slice 3 (t 21) o (s (t 22)) o),UA 24 (.call 32 [(t 20),(t 23)]),MA 5 24])
 (q (r 0 [MA 25 5,UA 26 (b .neq g (t 25) (k (i j 0)))]) (c (t 26) (q (r 0 [MA 27 5,MA 2 27]) .ret) .skip))))) (r 0 [UA 28 (b .add d (t 15) (k (i j 1))),MA 15 28])))
def c10 : LCode :=
 (q (r 0 [CA 2 0]) (q (q (r 0 [MA 6 0,UA 7 (n (t 6)),UA 8 (b .gtr g (t 7) (k (i j 8))),MA 9 8,GA 10 (m (t 0)) 9 g,GA 11 (.call 30 [(t 10),(.func 31)]) 9 g,
 (UA 12 (p (t 9) (k (y d)) (t 11)))]) (c (t 12) (q (r 0 [CA 2 2]) .ret) .skip)) (q (q (r 0 [MA 13 0,UA 14 (n (t 13)),CA 15 0]) (z 0 (.loop c10l0))) (q (r 0 [
 (CA 2 0)]) .ret)))) 
def c11l0 : LCode :=
 q (q (r 0 [MA 12 3,MA 13 0,UA 14 (n (t 13)),UA 15 (b .lss g (t 12) (t 14))]) (c (t 15) .skip (.exit 0))) (q (z 1 (q (r 0 [MA 18 0,MA 19 3,XA 20 3 18 19,
 (FA 21 1 20),LA 22 21,UA 23 (n (t 22)),UA 24 (b .gtr g (t 23) (k (i j 16)))]) (c (t 24) (q (r 0 [CA 2 2]) .ret) .skip))) (r 0 [MA 16 3,UA 17 (b .add d (t 16) (k (i j 1))),
 (MA 3 17)]))
def c11l2 : LCode :=
 q (q (r 0 [MA 46 7,FA 47 1 5,LA 48 47,UA 49 (n (t 48)),UA 50 (b .lss g (t 46) (t 49))]) (c (t 50) .skip (.exit 4))) (q (z 5 (q (r 0 [FA 53 1 5,LA 54 53,
 (MA 55 7),XA 56 1 54 55,LA 57 56,UA 58 (.call 35 [(t 57)]),MA 8 58]) (q (.qui 0 [MA 59 8,UA 60 (.not (t 59)),MA 61 60,GA 62 (m (t 7)) 61 g,
 (GA 63 (b .gtr g (t 62) (k (i j 0))) 61 g),GA 64 (m (t 63)) 61 g,GA 65 (f 1 (t 5)) 64 d,GA 66 (l o (t 65)) 64 d,GA 67 (m (t 7)) 64 d,GA 68 (x 1 (t 66) (t 67)) 64 d,GA 69 (l o (t 68)) 64 d,
 (GA 70 (f 1 (t 5)) 64 d),GA 71 (l o (t 70)) 64 d,GA 72 (m (t 7)) 64 d,GA 73 (b .sub d (t 72) (k (i j 1))) 64 d,GA 74 (x 1 (t 71) (t 73)) 64 d,GA 75 (l o (t 74)) 64 d,
 (GA 76 (.prim (.sbin .leq) [(t 69),(t 75)]) 64 d),GA 77 (p (t 64) (t 76) (k (y g))) 61 g,UA 78 (p (t 61) (k (y d)) (t 77))]) (c (t 78) (q (r 0 [CA 2 1]) .ret) .skip)))) (r 0 [
 (MA 51 7),UA 52 (b .add d (t 51) (k (i j 1))),MA 7 52]))
def c11l1 : LCode :=
 q (q (r 0 [MA 25 4,MA 26 0,UA 27 (n (t 26)),UA 28 (b .lss g (t 25) (t 27))]) (c (t 28) .skip (.exit 2))) (q (z 3 (q (r 1 [MA 31 0,MA 32 4,XA 33 3 31 32,
 (SA 34 3 33),UA 5 (.alloc 0 (.agg #[.string ⟨#[]⟩,.slice o 0 0,.string ⟨#[]⟩])),WA 3 5 34]) (q (r 0 [FA 35 0 5,LA 36 35,UA 37 (.call 33 [(t 36)]),MA 6 37])
 (q (q (r 0 [MA 38 6,UA 39 (.not (t 38))]) (c (t 39) (q (r 0 [CA 2 1]) .ret) .skip)) (q (q (r 0 [MA 40 0,FA 41 0 5,LA 42 41,UA 43 (.call 34 [(t 40),(t 42)]),
 (MA 44 4),UA 45 (b .lss g (t 43) (t 44))]) (c (t 45) (q (r 0 [CA 2 6]) .ret) .skip)) (q (q (r 0 [CA 7 0]) (z 4 (.loop c11l2))) (q (r 0 [FA 79 2 5,LA 80 79,
 (UA 81 (.lens (t 80))),UA 82 (b .gtr g (t 81) (k (i j 0))),MA 83 82,GA 84 (f 1 (t 5)) 83 d,GA 85 (l o (t 84)) 83 d,GA 86 (f 2 (t 5)) 83 d,GA 87 (l o (t 86)) 83 d,GA 88 (.call 23 [(t 85),(t 87)]) 83 d,
 (GA 89 (.not (t 88)) 83 d),UA 90 (p (t 83) (t 89) (k (y g)))]) (c (t 90) (q (r 0 [CA 2 1]) .ret) .skip)))))))) (r 0 [MA 29 4,UA 30 (b .add d (t 29) (k (i j 1))),MA 4 30]))
def c11 : LCode :=
 (q (r 0 [CA 2 0]) (q (q (r 0 [MA 9 0,UA 10 (n (t 9)),UA 11 (b .gtr g (t 10) (k (i j 8)))]) (c (t 11) (q (r 0 [CA 2 2]) .ret) .skip)) (q (q (r 0 [CA 3 0])
 (z 0 (.loop c11l0))) (q (q (r 0 [CA 4 0]) (z 2 (.loop c11l1))) (q (r 0 [CA 2 0]) .ret))))) 
def c12 : LCode :=
 (q (r 0 [UA 2 (m (k (y g)))]) (q (q (r 0 [MA 3 0,UA 4 (n (t 3)),UA 5 (b .gtr g (t 4) (k (i j 20)))]) (c (t 5) (q (r 0 [UA 2 (m (k (y g)))]) .ret) .skip)) (q (r 0 [MA 6 0,UA 7 (.call 11 [(t 6)]),
 (UA 8 (b .eql g (t 7) (k (i j 0)))),MA 2 8]) .ret))) 
def c14l0 : LCode :=
 q (r 0 [UA 14 (b .lss g (t 13) (t 12))]) (q (c (t 14) .skip (.exit 0)) (q (z 1 (q (r 1 [MA 15 13,XA 16 3 11 13,SA 17 3 16,UA 7 (.alloc 0 (.agg #[.string ⟨#[]⟩,.slice o 0 0,.string ⟨#[]⟩])),
 (MA 6 15),WA 3 7 17]) (r 0 [MA 18 5,MA 19 6,SA 20 3 7,MA 21 1,UA 22 (.call 18 [(t 20),(t 21)]),XA 23 1 18 19,WA 1 23 22])))
 (r 0 [UA 24 (b .add d (t 13) (k (i j 1))),MA 13 24])))
def c14 : LCode :=
 (q (r 0 [UA 4 (m (k (.string ⟨#[]⟩)))]) (q (r 1 [MA 8 0,UA 9 (n (t 8)),UA 10 (.mk 0 1 16 [.string ⟨#[]⟩] (t 9) (t 9)),MA 5 10]) (q (q (r 0 [MA 11 0,UA 12 (n (t 11)),
 (CA 13 0)]) (z 0 (.loop c14l0))) (q (r 0 [MA 25 0,MA 26 5,UA 27 (.call 37 [(t 25),(t 26)]),MA 4 27]) .ret)))) 
def c15 : LCode :=
 (q (r 0 [UA 6 (m (k (y g)))]) (q (r 0 [MA 7 0,MA 8 1,UA 9 (.call 14 [(t 7),(t 8)]),MA 10 0,MA 11 2,UA 12 (.call 14 [(t 10),(t 11)]),UA 13 (.prim (.sbin .eql) [(t 9),(t 12)]),
 (MA 6 13)]) .ret)) 
def c16l0 : LCode :=
 q (r 0 [UA 18 (b .lss g (t 17) (t 16))]) (q (c (t 18) .skip (.exit 0)) (q (z 1 (q (r 1 [MA 19 17,XA 20 3 15 17,SA 21 3 20,UA 8 (.alloc 0 (.agg #[.string ⟨#[]⟩,.slice o 0 0,.string ⟨#[]⟩])),
 (MA 7 19),WA 3 8 21]) (q (q (r 0 [MA 22 7,UA 23 (b .gtr g (t 22) (k (i j 0)))]) (c (t 23) (q (r 0 [MA 25 1,UA 26 (.call 38 [(t 25),(k (.string ⟨#[38]⟩))]),
 (MA 24 26),UA 27 (.ext (t 24) 0),UA 28 (.ext (t 24) 1),MA 9 27,MA 10 28]) (q (q (r 0 [MA 29 10,UA 30 (.not (t 29))]) (c (t 30) (q (r 0 [UA 4 (m (k (.slice o 0 0))),
 (CA 5 3)]) .ret) .skip)) (r 0 [MA 31 9,MA 1 31]))) .skip)) (q (r 1 [MA 33 1,FA 34 0 8,LA 35 34,UA 36 (.prim (.sbin .add) [(t 35),(k (.string ⟨#[61]⟩))]),
 (UA 37 (.call 38 [(t 33),(t 36)])),MA 32 37,UA 38 (.ext (t 32) 0),UA 39 (.ext (t 32) 1),UA 11 (.alloc 0 (.string ⟨#[]⟩)),WA 1 11 38,MA 12 39]) (q (q (r 0 [MA 40 12,
 (UA 41 (.not (t 40)))]) (c (t 41) (q (r 0 [UA 4 (m (k (.slice o 0 0))),CA 5 3]) .ret) .skip)) (q (r 1 [LA 42 11,UA 43 (.call 39 [(t 42),(k (.int .u8 38))]),UA 13 (.alloc 0 (i j 0)),
 (WA 1 13 43)]) (q (q (r 0 [LA 44 13,UA 45 (b .lss g (t 44) (k (i j 0)))]) (c (t 45) (r 0 [LA 46 11,UA 47 (.lens (t 46)),WA 1 13 47]) .skip)) (q (r 0 [
 (SA 48 3 8),UA 49 (.call 41 [(t 48)]),UA 50 (.fn 42 [(t 11),(t 13)]),UA 51 (.call 40 [(t 49),(t 50)]),MA 14 51]) (q (q (r 0 [MA 52 14,UA 53 (b .lss g (t 52) (k (i j 0)))])
 (c (t 53) (q (r 0 [UA 4 (m (k (.slice o 0 0))),CA 5 3]) .ret) .skip)) (.tree 2 (v 0 [7,11,12] (MA 54 6) (v 1 [2,4,5,6,7,11,12] (SA 55 3 8) (v 3 [4,5,6,7,11,12] (MA 57 14)
 (v 8 [10,12] (LA 62 11) (v 9 [10,12] (LA 63 13) (v 10 [12] (UA 64 (.prim (.sslc d g) [(t 62),(t 63)])) (h 2 (UA 56 (.call 41 [(t 55)])) d (v 4 [5,6,7,11,12] (XA 58 1 56 57)
 (v 5 [6,7,11,12] (LA 59 58) (h 6 (UA 60 (.lits 0 1 1 [.string ⟨#[]⟩] [(0,(t 59))])) d (h 7 (UA 61 (.append 1 1 16 (t 54) (t 60))) d (v 11 [12] (MA 6 61) (v 12 [] (MA 1 64) .done))
 .none) .none))) .none))))))))))))))))) (r 0 [UA 65 (b .add d (t 17) (k (i j 1))),MA 17 65])))
def c16 : LCode :=
 (q (r 0 [UA 4 (m (k (.slice o 0 0))),CA 5 0]) (q (r 0 [UA 6 (m (k (.slice o 0 0)))]) (q (q (r 0 [MA 15 0,UA 16 (n (t 15)),CA 17 0]) (z 0 (.loop c16l0)))
 (q (q (r 0 [MA 66 1,UA 67 (.prim (.sbin .neq) [(t 66),(k (.string ⟨#[]⟩))])]) (c (t 67) (q (r 0 [UA 4 (m (k (.slice o 0 0))),CA 5 3]) .ret) .skip)) (q (r 0 [MA 68 6,
 (MA 4 68),CA 5 0]) .ret))))) 
def c18 : LCode :=
 (q (r 1 [UA 2 (u 0 (t 0)),UA 4 (m (k (.string ⟨#[]⟩)))]) (q (r 0 [MA 6 1,UA 7 (.fn 45 [(t 2)]),UA 8 (.call 44 [(t 6),(t 7)]),MA 5 8]) (q (q (.tail 10 0 [MA 9 5,UA 10 (b .geq g (t 9) (k (i j 0))),
 (MA 11 10),GA 12 (f 1 (t 2)) 11 d,GA 13 (l o (t 12)) 11 d,GA 14 (m (t 1)) 11 d,GA 15 (m (t 5)) 11 d,GA 16 (x 2 (t 14) (t 15)) 11 d,GA 17 (f 1 (t 16)) 11 d,GA 18 (l o (t 17)) 11 d,
 (GA 19 (.call 46 [(t 13),(t 18)]) 11 d),UA 20 (p (t 11) (t 19) (k (y g)))]) (c (t 20) (q (r 0 [MA 21 1,MA 22 5,XA 23 2 21 22,FA 24 1 23,LA 25 24,
 (MA 4 25)]) .ret) .skip)) (q (r 0 [FA 26 2 2,LA 27 26,MA 4 27]) .ret)))) 
def c20l0 : LCode :=
 q (q (r 0 [MA 11 5,MA 12 0,UA 13 (n (t 12)),UA 14 (b .lss g (t 11) (t 13))]) (c (t 14) .skip (.exit 0))) (q (z 1 (q (.qui 0 [MA 17 0,MA 18 5,XA 19 1 17 18,
 (LA 20 19),MA 21 1,MA 22 5,XA 23 1 21 22,LA 24 23,UA 25 (.prim (.sbin .neq) [(t 20),(t 24)])]) (c (t 25) (q (r 0 [UA 4 (m (k (y g)))]) .ret)
 .skip))) (r 0 [MA 15 5,UA 16 (b .add d (t 15) (k (i j 1))),MA 5 16]))
def c20 : LCode :=
 (q (r 0 [UA 4 (m (k (y g)))]) (q (q (r 0 [MA 6 0,UA 7 (n (t 6)),MA 8 1,UA 9 (n (t 8)),UA 10 (b .neq g (t 7) (t 9))]) (c (t 10) (q (r 0 [UA 4 (m (k (y g)))]) .ret) .skip))
 (q (q (r 0 [CA 5 0]) (z 0 (.loop c20l0))) (q (r 0 [UA 4 (m (k (y d)))]) .ret)))) 
def c21l0 : LCode :=
 q (r 0 [UA 12 (b .lss g (t 11) (t 10))]) (q (c (t 12) .skip (.exit 0)) (q (z 1 (q (r 1 [XA 13 3 9 11,SA 14 3 13,UA 6 (.alloc 0 (.agg #[.string ⟨#[]⟩,.slice o 0 0,.string ⟨#[]⟩])),
 (WA 3 6 14)]) (q (r 0 [MA 15 4,SA 16 3 6,UA 17 (.call 41 [(t 16)]),UA 18 (n (t 17)),UA 19 (b .mul d (t 15) (t 18)),MA 4 19]) (q (r 0 [MA 20 4,
 (UA 21 (b .gtr g (t 20) (k (i j 1000))))]) (c (t 21) (q (r 0 [UA 2 (m (k (.slice o 0 0))),CA 3 2]) .ret) .skip))))) (r 0 [UA 22 (b .add d (t 11) (k (i j 1))),MA 11 22])))
def c21 : LCode :=
 (q (r 1 [UA 1 (u 0 (t 0)),UA 2 (m (k (.slice o 0 0))),CA 3 0]) (q (r 0 [CA 4 1]) (q (q (r 0 [LA 9 1,UA 10 (n (t 9)),CA 11 0]) (z 0 (.loop c21l0)))
 (q (r 1 [UA 7 (.alloc 0 (.slice o 0 0))]) (q (r 1 [UA 8 (.alloc 0 (.nilFunc))]) (q (r 0 [UA 23 (.fn 49 [(t 1),(t 7),(t 8)]),WA 1 8 23]) (q (r 0 [LA 24 8,UA 25 (.callv (t 24) [(k (.slice o 0 0))])])
 (q (r 0 [LA 26 7,MA 2 26,CA 3 0]) .ret)))))))) 
def c23l0 : LCode :=
 q (q (r 0 [MA 6 5,MA 7 0,UA 8 (n (t 7)),UA 9 (b .lss g (t 6) (t 8))]) (c (t 9) .skip (.exit 0))) (q (z 1 (q (r 0 [MA 12 0,MA 13 5,XA 14 1 12 13,
 (LA 15 14),MA 16 1,UA 17 (.prim (.sbin .eql) [(t 15),(t 16)])]) (c (t 17) (q (r 0 [UA 4 (m (k (y d)))]) .ret) .skip))) (r 0 [MA 10 5,UA 11 (b .add d (t 10) (k (i j 1))),
 (MA 5 11)]))
def c23 : LCode :=
 (q (r 0 [UA 4 (m (k (y g)))]) (q (q (r 0 [CA 5 0]) (z 0 (.loop c23l0))) (q (r 0 [UA 4 (m (k (y g)))]) .ret))) 
def c24l2 : LCode :=
 q (q (r 0 [MA 28 11,MA 29 9,UA 30 (n (t 29)),UA 31 (b .lss g (t 28) (t 30))]) (c (t 31) .skip (.exit 4))) (q (z 5 (q (.tree 0 (v 0 [9,10,11,12,13,14,15,16,17,18,19,20,21,22] (MA 34 0)
 (v 1 [3,4,9,10,11,12,13,14,15,16,17,18,19,20,21,22] (MA 35 9) (v 2 [3,4,9,10,11,12,13,14,15,16,17,18,19,20,21,22] (MA 36 10) (v 3 [4,9,10,11,12,13,14,15,16,17,18,19,20,21,22] (XA 37 1 35 36)
 (v 4 [9,10,11,12,13,14,15,16,17,18,19,20,21,22] (LA 38 37) (v 5 [7,8,9,10,11,12,13,14,15,16,17,18,19,20,21,22] (MA 39 9) (v 6 [7,8,9,10,11,12,13,14,15,16,17,18,19,20,21,22] (MA 40 11)
 (v 7 [8,9,10,11,12,13,14,15,16,17,18,19,20,21,22] (XA 41 1 39 40) (v 8 [9,10,11,12,13,14,15,16,17,18,19,20,21,22] (LA 42 41) (h 9 (UA 43 (.call 15 [(t 34),(t 38),(t 42)])) g (v 10 [11,12,13,14,15,16,17,18,19,20,21,22] (MA 44 43)
 (v 11 [20,21,22] (GA 45 (m (t 1)) 44 d) (v 12 [14,15,20,21,22] (GA 46 (m (t 9)) 44 d) (v 13 [14,15,20,21,22] (GA 47 (m (t 10)) 44 d) (v 14 [15,20,21,22] (GA 48 (x 1 (t 46) (t 47)) 44 d) (v 15 [20,21,22] (GA 49 (l o (t 48)) 44 d)
 (v 16 [18,19,20,21,22] (GA 50 (m (t 9)) 44 d) (v 17 [18,19,20,21,22] (GA 51 (m (t 11)) 44 d) (v 18 [19,20,21,22] (GA 52 (x 1 (t 50) (t 51)) 44 d) (v 19 [20,21,22] (GA 53 (l o (t 52)) 44 d)
 (h 20 (GA 54 (.call 15 [(t 45),(t 49),(t 53)]) 44 d) g (v 21 [22] (GA 55 (.not (t 54)) 44 d) (v 22 [] (UA 56 (p (t 44) (t 55) (k (y g)))) .done)) .none))))))))))) .none))))))))))) (c (t 56) (q (.qui 0 [
 (MA 57 9),MA 58 10,XA 59 1 57 58,LA 60 59,MA 61 9,MA 62 11,XA 63 1 61 62,LA 64 63,MA 4 60,MA 5 64,
 (UA 6 (m (k (y d))))]) .ret) .skip))) (r 0 [MA 32 11,UA 33 (b .add d (t 32) (k (i j 1))),MA 11 33]))
def c24l1 : LCode :=
 q (r 0 [UA 24 (b .lss g (t 23) (t 22))]) (q (c (t 24) .skip (.exit 2)) (q (z 3 (q (r 0 [MA 25 23,MA 10 25]) (q (r 0 [MA 26 10,UA 27 (b .add d (t 26) (k (i j 1))),MA 11 27])
 (z 4 (.loop c24l2))))) (r 0 [UA 65 (b .add d (t 23) (k (i j 1))),MA 23 65])))
def c24l0 : LCode :=
 q (r 0 [UA 15 (b .lss g (t 14) (t 13))]) (q (c (t 15) .skip (.exit 0)) (q (z 1 (q (r 1 [XA 16 3 12 14,SA 17 3 16,UA 8 (.alloc 0 (.agg #[.string ⟨#[]⟩,.slice o 0 0,.string ⟨#[]⟩])),
 (WA 3 8 17)]) (q (r 0 [MA 18 0,SA 19 3 8,UA 20 (.call 50 [(t 18),(t 19)]),MA 9 20]) (q (r 0 [MA 21 9,UA 22 (n (t 21)),CA 23 0])
 (z 2 (.loop c24l1)))))) (r 0 [UA 66 (b .add d (t 14) (k (i j 1))),MA 14 66])))
def c24 : LCode :=
 (q (r 0 [UA 4 (m (k (.slice o 0 0))),UA 5 (m (k (.slice o 0 0))),UA 6 (m (k (y g)))]) (q (q (r 0 [MA 12 1,UA 13 (n (t 12)),CA 14 0]) (z 0 (.loop c24l0))) (q (r 0 [UA 4 (m (k (.slice o 0 0))),
 (UA 5 (m (k (.slice o 0 0)))),UA 6 (m (k (y g)))]) .ret))) 
def c27l0 : LCode :=
 q (q (r 0 [MA 10 6,MA 11 0,UA 12 (n (t 11)),UA 13 (b .lss g (t 10) (t 12))]) (c (t 13) .skip (.exit 0))) (q (z 1 (q (r 1 [MA 16 0,MA 17 6,XA 18 3 16 17,
 (SA 19 3 18),UA 7 (.alloc 0 (.agg #[.string ⟨#[]⟩,.slice o 0 0,.string ⟨#[]⟩])),WA 3 7 19]) (q (r 0 [MA 20 1,FA 21 0 7,LA 22 21,UA 23 (.call 34 [(t 20),(t 22)]),
 (MA 8 23)]) (q (q (r 0 [MA 24 8,UA 25 (b .geq g (t 24) (k (i j 0)))]) (c (t 25) (q (.tail 7 0 [FA 26 1 7,LA 27 26,MA 28 1,MA 29 8,XA 30 3 28 29,
 (FA 31 1 30),LA 32 31,UA 33 (.call 51 [(t 27),(t 32)]),FA 34 1 7,WA 1 34 33]) (q (.qui 0 [FA 35 2 7,LA 36 35,MA 37 1,MA 38 8,
 (XA 39 3 37 38),FA 40 2 39,LA 41 40,UA 42 (.prim (.sbin .neq) [(t 36),(t 41)])]) (c (t 42) (r 0 [FA 43 2 7,⟨o,w 1 (t 43) (k (.string ⟨#[]⟩)),o⟩]) .skip)))
 .skip)) (r 2 [MA 44 5,SA 45 3 7,UA 46 (.litsf [45] 0 3 1 [.string ⟨#[]⟩,.slice o 0 0,.string ⟨#[]⟩] [(0,(t 45))]),UA 47 (.append 1 3 56 (t 44) (t 46)),MA 5 47])))))
 (r 0 [MA 14 6,UA 15 (b .add d (t 14) (k (i j 1))),MA 6 15]))
def c27l1 : LCode :=
 q (q (r 0 [MA 48 9,MA 49 1,UA 50 (n (t 49)),UA 51 (b .lss g (t 48) (t 50))]) (c (t 51) .skip (.exit 2))) (q (z 3 (q (r 0 [MA 54 0,MA 55 1,MA 56 9,
 (XA 57 3 55 56),FA 58 0 57,LA 59 58,UA 60 (.call 34 [(t 54),(t 59)]),UA 61 (b .lss g (t 60) (k (i j 0)))]) (c (t 61) (r 2 [MA 62 5,MA 63 1,MA 64 9,
 (XA 65 3 63 64),SA 66 3 65,UA 67 (.litsf [66] 0 3 1 [.string ⟨#[]⟩,.slice o 0 0,.string ⟨#[]⟩] [(0,(t 66))]),UA 68 (.append 1 3 56 (t 62) (t 67)),MA 5 68]) .skip)))
 (r 0 [MA 52 9,UA 53 (b .add d (t 52) (k (i j 1))),MA 9 53]))
def c27 : LCode :=
 (q (r 0 [UA 4 (m (k (.slice o 0 0)))]) (q (r 0 [UA 5 (m (k (.slice o 0 0)))]) (q (q (r 0 [CA 6 0]) (z 0 (.loop c27l0))) (q (q (r 0 [CA 9 0]) (z 2 (.loop c27l1))) (q
 (r 0 [MA 69 5,MA 4 69]) .ret))))) 
def c28l0 : LCode :=
 q (r 0 [UA 14 (b .lss g (t 13) (t 12))]) (q (c (t 14) .skip (.exit 0)) (q (z 1 (q (r 1 [XA 15 3 11 13,SA 16 3 15,UA 7 (.alloc 0 (.agg #[.string ⟨#[]⟩,.slice o 0 0,.string ⟨#[]⟩])),
 (WA 3 7 16)]) (q (r 0 [FA 17 1 7,LA 18 17,UA 19 (.call 52 [(t 18)]),FA 20 1 7,WA 1 20 19]) (q (q (r 0 [MA 21 1,FA 22 0 7,
 (LA 23 22),UA 24 (.call 53 [(t 21),(t 23)]),MA 8 24]) (q (r 0 [MA 25 8,UA 26 (b .geq g (t 25) (k (i j 0)))]) (c (t 26) (q (.tail 7 0 [FA 27 1 7,LA 28 27,
 (MA 29 1),MA 30 8,XA 31 3 29 30,FA 32 1 31,LA 33 32,UA 34 (.call 54 [(t 28),(t 33)]),FA 35 1 7,WA 1 35 34]) (q (.qui 0 [
 (MA 36 1),MA 37 8,XA 38 3 36 37,FA 39 2 38,LA 40 39,FA 41 2 7,LA 42 41,UA 43 (.prim (.sbin .neq) [(t 40),(t 42)])]) (c (t 43)
 (r 0 [FA 44 2 7,⟨o,w 1 (t 44) (k (.string ⟨#[]⟩)),o⟩]) .skip))) .skip))) (r 2 [MA 45 5,SA 46 3 7,UA 47 (.litsf [46] 0 3 1 [.string ⟨#[]⟩,.slice o 0 0,.string ⟨#[]⟩] [(0,(t 46))]),
 (UA 48 (.append 1 3 56 (t 45) (t 47))),MA 5 48]))))) (r 0 [UA 49 (b .add d (t 13) (k (i j 1))),MA 13 49])))
def c28l1 : LCode :=
 q (r 0 [UA 53 (b .lss g (t 52) (t 51))]) (q (c (t 53) .skip (.exit 2)) (q (z 3 (q (r 1 [XA 54 3 50 52,SA 55 3 54,UA 10 (.alloc 0 (.agg #[.string ⟨#[]⟩,.slice o 0 0,.string ⟨#[]⟩])),
 (WA 3 10 55)]) (q (r 0 [MA 56 0,FA 57 0 10,LA 58 57,UA 59 (.call 53 [(t 56),(t 58)]),UA 60 (b .lss g (t 59) (k (i j 0)))]) (c (t 60) (q (r 0 [FA 61 1 10,
 (LA 62 61),UA 63 (.call 52 [(t 62)]),FA 64 1 10,WA 1 64 63]) (r 2 [MA 65 5,SA 66 3 10,UA 67 (.litsf [66] 0 3 1 [.string ⟨#[]⟩,.slice o 0 0,.string ⟨#[]⟩] [(0,(t 66))]),
 (UA 68 (.append 1 3 56 (t 65) (t 67))),MA 5 68])) .skip)))) (r 0 [UA 69 (b .add d (t 52) (k (i j 1))),MA 52 69])))
def c28 : LCode :=
 (q (r 0 [UA 4 (m (k (.slice o 0 0)))]) (q (r 0 [UA 5 (m (k (.slice o 0 0)))]) (q (q (r 0 [MA 11 0,UA 12 (n (t 11)),CA 13 0]) (z 0 (.loop c28l0))) (q (q (r 0 [MA 50 1,
 (UA 51 (n (t 50))),CA 52 0]) (z 2 (.loop c28l1))) (q (r 0 [MA 70 5,MA 4 70]) .ret))))) 
def c29l0 : LCode :=
 q (q (r 0 [MA 11 5,MA 12 0,UA 13 (n (t 12)),UA 14 (b .lss g (t 11) (t 13))]) (c (t 14) .skip (.exit 0))) (q (z 1 (q (.tail 35 0 [MA 17 0,MA 18 5,XA 19 3 17 18,
 (FA 20 0 19),LA 21 20,MA 22 1,MA 23 5,XA 24 3 22 23,FA 25 0 24,LA 26 25,UA 27 (.prim (.sbin .neq) [(t 21),(t 26)]),MA 28 27,
 (GA 29 (m (t 0)) 28 g),GA 30 (m (t 5)) 28 g,GA 31 (x 3 (t 29) (t 30)) 28 g,GA 32 (f 2 (t 31)) 28 g,GA 33 (l o (t 32)) 28 g,GA 34 (m (t 1)) 28 g,GA 35 (m (t 5)) 28 g,
 (GA 36 (x 3 (t 34) (t 35)) 28 g),GA 37 (f 2 (t 36)) 28 g,GA 38 (l o (t 37)) 28 g,GA 39 (.prim (.sbin .neq) [(t 33),(t 38)]) 28 g,UA 40 (p (t 28) (k (y d)) (t 39)),MA 41 40,
 (GA 42 (m (t 0)) 41 g),GA 43 (m (t 5)) 41 g,GA 44 (x 3 (t 42) (t 43)) 41 g,GA 45 (f 1 (t 44)) 41 g,GA 46 (l o (t 45)) 41 g,GA 47 (m (t 1)) 41 g,GA 48 (m (t 5)) 41 g,
 (GA 49 (x 3 (t 47) (t 48)) 41 g),GA 50 (f 1 (t 49)) 41 g,GA 51 (l o (t 50)) 41 g,GA 52 (.call 20 [(t 46),(t 51)]) 41 g,GA 53 (.not (t 52)) 41 g,UA 54 (p (t 41) (k (y d)) (t 53))])
 (c (t 54) (q (r 0 [UA 4 (m (k (y g)))]) .ret) .skip))) (r 0 [MA 15 5,UA 16 (b .add d (t 15) (k (i j 1))),MA 5 16]))
def c29 : LCode :=
 (q (r 0 [UA 4 (m (k (y g)))]) (q (q (r 0 [MA 6 0,UA 7 (n (t 6)),MA 8 1,UA 9 (n (t 8)),UA 10 (b .neq g (t 7) (t 9))]) (c (t 10) (q (r 0 [UA 4 (m (k (y g)))]) .ret) .skip))
 (q (q (r 0 [CA 5 0]) (z 0 (.loop c29l0))) (q (r 0 [UA 4 (m (k (y d)))]) .ret)))) 
def c30 : LCode :=
 (q (r 0 [UA 4 (m (k (y g)))]) (q (r 0 [MA 5 0,MA 6 1,UA 7 (.call 55 [(t 5),(t 6)]),UA 8 (b .geq g (t 7) (k (i j 0))),MA 4 8]) .ret)) 
def c31 : LCode :=
 (q (r 1 [UA 1 (u 0 (t 0)),UA 2 (m (k (y g)))]) (q (r 0 [FA 3 1 1,LA 4 3,UA 5 (n (t 4)),UA 6 (b .gtr g (t 5) (k (i j 16))),MA 2 6]) .ret)) 
def c32l0 : LCode :=
 q (r 0 [UA 34 (b .lss g (t 33) (t 32))]) (q (c (t 34) .skip (.exit 1)) (q (z 2 (q (r 0 [MA 35 33,XA 36 1 31 33,LA 37 36,MA 5 35,MA 6 37]) (q (r 0 [
 (MA 38 6),UA 39 (.call 57 [(t 38)]),UA 40 (.not (t 39)),MA 41 40,GA 42 (m (t 5)) 41 g,GA 43 (b .gtr g (t 42) (k (i j 0))) 41 g,GA 44 (m (t 43)) 41 g,GA 45 (m (t 6)) 44 d,
 (GA 46 (f 1 (t 2)) 44 d),GA 47 (l o (t 46)) 44 d,GA 48 (m (t 5)) 44 d,GA 49 (b .sub d (t 48) (k (i j 1))) 44 d,GA 50 (x 1 (t 47) (t 49)) 44 d,GA 51 (l o (t 50)) 44 d,
 (GA 52 (.prim (.sbin .leq) [(t 45),(t 51)]) 44 d),GA 53 (p (t 44) (t 52) (k (y g))) 41 g,UA 54 (p (t 41) (k (y d)) (t 53))]) (c (t 54) (q (r 0 [CA 4 1]) .ret) .skip)))) (r 0 [
 (UA 55 (b .add d (t 33) (k (i j 1)))),MA 33 55])))
def c32 : LCode :=
 (q (r 1 [UA 2 (u 0 (t 0)),CA 4 0]) (q (z 0 (q (r 0 [FA 8 0 2,LA 9 8,UA 10 (.call 56 [(t 9)]),UA 11 (.not (t 10)),MA 7 11]) (c (t 7) (q (r 0 [CA 4 1])
 .ret) (q (r 0 [MA 13 1,FA 14 0 2,LA 15 14,UA 16 (.call 53 [(t 13),(t 15)]),UA 17 (b .geq g (t 16) (k (i j 0))),MA 12 17]) (c (t 12) (q (r 0 [CA 4 6])
 .ret) (q (r 0 [FA 19 2 2,LA 20 19,UA 21 (.prim (.sbin .neq) [(t 20),(k (.string ⟨#[]⟩))]),MA 22 21,GA 23 (f 1 (t 2)) 22 d,GA 24 (l o (t 23)) 22 d,GA 25 (f 2 (t 2)) 22 d,
 (GA 26 (l o (t 25)) 22 d),GA 27 (.call 46 [(t 24),(t 26)]) 22 d,GA 28 (.not (t 27)) 22 d,UA 29 (p (t 22) (t 28) (k (y g))),MA 18 29]) (c (t 18) (q (r 0 [CA 4 1])
 .ret) .skip))))))) (q (q (r 0 [FA 30 1 2,LA 31 30,UA 32 (n (t 31)),CA 33 0]) (z 1 (.loop c32l0))) (q (r 0 [CA 4 0]) .ret)))) 
def c33l0 : LCode :=
 q (q (r 0 [MA 5 3,MA 6 0,UA 7 (.lens (t 6)),UA 8 (b .lss g (t 5) (t 7))]) (c (t 8) .skip (.exit 0))) (q (z 1 (q (r 0 [MA 11 0,MA 12 3,UA 13 (.prim .sidx [(t 11),(t 12)]),
 (MA 4 13)]) (q (r 0 [MA 14 4,UA 15 (b .geq g (t 14) (k (.int .u8 97))),MA 16 15,GA 17 (m (t 4)) 16 d,GA 18 (b .leq g (t 17) (k (.int .u8 122))) 16 d,UA 19 (p (t 16) (t 18) (k (y g))),
 (MA 20 19),GA 21 (m (t 4)) 20 g,GA 22 (b .geq g (t 21) (k (.int .u8 48))) 20 g,GA 23 (m (t 22)) 20 g,GA 24 (m (t 4)) 23 d,GA 25 (b .leq g (t 24) (k (.int .u8 57))) 23 d,
 (GA 26 (p (t 23) (t 25) (k (y g))) 20 g),UA 27 (p (t 20) (k (y d)) (t 26)),MA 28 27,GA 29 (m (t 4)) 28 g,GA 30 (b .eql g (t 29) (k (.int .u8 45))) 28 g,UA 31 (p (t 28) (k (y d)) (t 30)),
 (UA 32 (.not (t 31)))]) (c (t 32) (q (r 0 [UA 2 (m (k (y g)))]) .ret) .skip)))) (r 0 [MA 9 3,UA 10 (b .add d (t 9) (k (i j 1))),MA 3 10]))
def c33 : LCode :=
 (q (r 0 [UA 2 (m (k (y g)))]) (q (q (r 0 [CA 3 0]) (z 0 (.loop c33l0))) (q (r 0 [MA 33 0,UA 34 (.lens (t 33)),UA 35 (b .geq g (t 34) (k (i j 1))),MA 36 35,GA 37 (m (t 0)) 36 d,
 (GA 38 (.lens (t 37)) 36 d),GA 39 (b .leq g (t 38) (k (i j 64))) 36 d,UA 40 (p (t 36) (t 39) (k (y g))),MA 2 40]) .ret))) 
def c34l0 : LCode :=
 q (q (r 0 [MA 6 5,MA 7 0,UA 8 (n (t 7)),UA 9 (b .lss g (t 6) (t 8))]) (c (t 9) .skip (.exit 0))) (q (z 1 (q (r 0 [MA 12 0,MA 13 5,XA 14 3 12 13,
 (FA 15 0 14),LA 16 15,MA 17 1,UA 18 (.prim (.sbin .eql) [(t 16),(t 17)])]) (c (t 18) (q (r 0 [MA 19 5,MA 4 19]) .ret) .skip))) (r 0 [MA 10 5,
 (UA 11 (b .add d (t 10) (k (i j 1)))),MA 5 11]))
def c34 : LCode :=
 (q (r 0 [CA 4 0]) (q (q (r 0 [CA 5 0]) (z 0 (.loop c34l0))) (q (r 0 [UA 4 (m (k (.int .i64 (-1))))]) .ret))) 
def c35l0 : LCode :=
 q (q (r 0 [MA 4 3,MA 5 0,UA 6 (.lens (t 5)),UA 7 (b .lss g (t 4) (t 6))]) (c (t 7) .skip (.exit 0))) (q (z 1 (q (r 0 [MA 10 0,MA 11 3,UA 12 (.prim .sidx [(t 10),(t 11)]),
 (UA 13 (b .lss g (t 12) (k (.int .u8 33)))),MA 14 13,GA 15 (m (t 0)) 14 g,GA 16 (m (t 3)) 14 g,GA 17 (.prim .sidx [(t 15),(t 16)]) 14 g,GA 18 (b .gtr g (t 17) (k (.int .u8 126))) 14 g,
 (UA 19 (p (t 14) (k (y d)) (t 18)))]) (c (t 19) (q (r 0 [UA 2 (m (k (y g)))]) .ret) .skip))) (r 0 [MA 8 3,UA 9 (b .add d (t 8) (k (i j 1))),MA 3 9]))
def c35 : LCode :=
 (q (r 0 [UA 2 (m (k (y g)))]) (q (q (r 0 [CA 3 0]) (z 0 (.loop c35l0))) (q (r 0 [MA 20 0,UA 21 (.lens (t 20)),UA 22 (b .geq g (t 21) (k (i j 1))),MA 23 22,GA 24 (m (t 0)) 23 d,
 (GA 25 (.lens (t 24)) 23 d),GA 26 (b .leq g (t 25) (k (i j 64))) 23 d,UA 27 (p (t 23) (t 26) (k (y g))),MA 2 27]) .ret))) 
def c37l0 : LCode :=
 q (r 0 [UA 14 (b .lss g (t 13) (t 12))]) (q (c (t 14) .skip (.exit 0)) (q (z 1 (q (r 1 [MA 15 13,XA 16 3 11 13,SA 17 3 16,UA 7 (.alloc 0 (.agg #[.string ⟨#[]⟩,.slice o 0 0,.string ⟨#[]⟩])),
 (MA 6 15),WA 3 7 17]) (.tree 0 (v 0 [11,12] (MA 18 5) (v 1 [11,12] (MA 19 6) (v 2 [3,4,10,11,12] (FA 20 0 7) (v 3 [4,10,11,12] (LA 21 20) (v 4 [10,11,12] (UA 22 (.prim (.sbin .add) [(t 21),(k (.string ⟨#[61]⟩))]))
 (v 5 [7,8,9,10,11,12] (MA 23 1) (v 6 [7,8,9,10,11,12] (MA 24 6) (v 7 [8,9,10,11,12] (XA 25 1 23 24) (v 8 [9,10,11,12] (LA 26 25) (h 9 (UA 27 (.call 43 [(t 26)])) d (v 10 [11,12] (UA 28 (.prim (.sbin .add) [(t 22),(t 27)]))
 (v 11 [12] (XA 29 1 18 19) (h 12 (WA 1 29 28) g .done .none))) .none))))))))))))) (r 0 [UA 30 (b .add d (t 13) (k (i j 1))),MA 13 30])))
def c37 : LCode :=
 (q (r 0 [UA 4 (m (k (.string ⟨#[]⟩)))]) (q (r 1 [MA 8 0,UA 9 (n (t 8)),UA 10 (.mk 0 1 16 [.string ⟨#[]⟩] (t 9) (t 9)),MA 5 10]) (q (q (r 0 [MA 11 0,UA 12 (n (t 11)),
 (CA 13 0)]) (z 0 (.loop c37l0))) (q (r 0 [MA 31 5,UA 32 (.call 58 [(t 31),(k (.string ⟨#[38]⟩))]),MA 4 32]) .ret)))) 
def c38 : LCode :=
 (q (r 0 [UA 4 (m (k (.string ⟨#[]⟩))),UA 5 (m (k (y g)))]) (q (r 0 [MA 6 0,MA 7 1,UA 8 (.call 59 [(t 6),(t 7)]),UA 9 (.ext (t 8) 0),UA 10 (.ext (t 8) 1),MA 4 9,
 (MA 5 10)]) .ret)) 
def c40l0 : LCode :=
 q (r 0 [UA 9 (b .lss g (t 8) (t 7))]) (q (c (t 9) .skip (.exit 0)) (q (z 1 (q (r 0 [MA 10 8,MA 5 10]) (q (r 0 [MA 11 1,MA 12 0,MA 13 5,XA 14 1 12 13,
 (LA 15 14),UA 16 (.callv (t 11) [(t 15)])]) (c (t 16) (q (r 0 [MA 17 5,MA 4 17]) .ret) .skip)))) (r 0 [UA 18 (b .add d (t 8) (k (i j 1))),MA 8 18])))
def c40 : LCode :=
 (q (r 0 [CA 4 0]) (q (q (r 0 [MA 6 0,UA 7 (n (t 6)),CA 8 0]) (z 0 (.loop c40l0))) (q (r 0 [UA 4 (m (k (.int .i64 (-1))))]) .ret))) 
def c41 : LCode :=
 (q (r 1 [UA 1 (u 0 (t 0)),UA 2 (m (k (.slice o 0 0)))]) (q (q (r 0 [FA 3 2 1,LA 4 3,UA 5 (.prim (.sbin .eql) [(t 4),(k (.string ⟨#[]⟩))])]) (c (t 5) (q (r 2 [UA 6 (.lits 0 1 1 [.string ⟨#[]⟩] [(0,(k (.string ⟨#[]⟩)))]),
 (FA 7 1 1),LA 8 7,UA 9 (.append 1 1 16 (t 6) (t 8)),MA 2 9]) .ret) .skip)) (q (r 0 [FA 10 1 1,LA 11 10,MA 2 11]) .ret))) 
def c42 : LCode :=
 (q (r 0 [UA 4 (m (k (y g)))]) (q (.tree 0 (v 0 [1,5,6] (MA 5 0) (v 2 [4,5,6] (LA 7 1) (v 3 [4,5,6] (LA 8 2) (v 4 [5,6] (UA 9 (.prim (.sslc g d) [(t 7),(t 8)])) (h 1 (UA 6 (.call 43 [(t 5)])) d
 (v 5 [6] (UA 10 (.prim (.sbin .eql) [(t 6),(t 9)])) (v 6 [] (MA 4 10) .done)) .none)))))) .ret)) 
def c44l0 : LCode :=
 q (r 0 [UA 9 (b .lss g (t 8) (t 7))]) (q (c (t 9) .skip (.exit 0)) (q (z 1 (q (r 0 [MA 10 8,MA 5 10]) (q (r 0 [MA 11 1,MA 12 0,MA 13 5,XA 14 2 12 13,
 (SA 15 2 14),UA 16 (.callv (t 11) [(t 15)])]) (c (t 16) (q (r 0 [MA 17 5,MA 4 17]) .ret) .skip)))) (r 0 [UA 18 (b .add d (t 8) (k (i j 1))),MA 8 18])))
def c44 : LCode :=
 (q (r 0 [CA 4 0]) (q (q (r 0 [MA 6 0,UA 7 (n (t 6)),CA 8 0]) (z 0 (.loop c44l0))) (q (r 0 [UA 4 (m (k (.int .i64 (-1))))]) .ret))) 
def c45 : LCode :=
 (q (r 1 [UA 2 (u 0 (t 0)),UA 3 (m (k (y g)))]) (q (r 0 [FA 4 0 2,LA 5 4,FA 6 0 1,LA 7 6,UA 8 (.prim (.sbin .eql) [(t 5),(t 7)]),MA 3 8]) .ret))
 
def c46 : LCode :=
 (q (r 0 [UA 4 (m (k (y g)))]) (q (r 0 [MA 5 0,MA 6 1,UA 7 (.call 64 [(t 5),(t 6)]),UA 8 (b .geq g (t 7) (k (i j 0))),MA 4 8]) .ret)) 
def c49l0 : LCode :=
 q (r 0 [UA 26 (b .lss g (t 25) (t 24))]) (q (c (t 26) .skip (.exit 0)) (q (z 1 (q (r 0 [XA 27 1 23 25,LA 28 27,MA 6 28]) (.tree 2 (v 0 [10] (LA 29 3) (v 1 [6,9,10] (MA 30 0)
 (v 2 [3,6,9,10] (MA 31 0) (v 3 [6,9,10] (UA 32 (n (t 31))) (v 4 [5,6,9,10] (MA 33 0) (v 5 [6,9,10] (UA 34 (n (t 33))) (v 6 [9,10] (UA 35 (.slice 1 (t 30) o (s (t 32)) (s (t 34)))) (v 7 [8,9,10] (MA 36 6)
 (h 8 (UA 37 (.lits 0 1 1 [.string ⟨#[]⟩] [(0,(t 36))])) d (h 9 (UA 38 (.append 1 1 16 (t 35) (t 37))) d (h 10 (UA 39 (.callv (t 29) [(t 38)])) g .done .none) .none) .none)))))))))))) (r 0 [UA 40 (b .add d (t 25) (k (i j 1))),
 (MA 25 40)])))
def c49 : LCode :=
 (q (q (r 0 [MA 7 0,UA 8 (n (t 7)),LA 9 1,UA 10 (n (t 9)),UA 11 (b .eql g (t 8) (t 10))]) (c (t 11) (q (.tree 2 (v 0 [5,6] (LA 12 2) (v 1 [3,4,5,6] (LA 13 1)
 (v 2 [3,4,5,6] (MA 14 0) (h 3 (UA 15 (.call 37 [(t 13),(t 14)])) d (h 4 (UA 16 (.lits 0 1 1 [.string ⟨#[]⟩] [(0,(t 15))])) d (h 5 (UA 17 (.append 1 1 16 (t 12) (t 16))) g (h 6 (WA 1 2 17) g
 .done .none) .none) .none) .none))))) .ret) .skip)) (q (r 0 [LA 18 1,MA 19 0,UA 20 (n (t 19)),XA 21 3 18 20,SA 22 3 21,UA 23 (.call 41 [(t 22)]),
 (UA 24 (n (t 23))),CA 25 0]) (z 0 (.loop c49l0)))) 
def c50l0 : LCode :=
 q (r 0 [UA 28 (b .lss g (t 27) (t 26))]) (q (c (t 28) .skip (.exit 0)) (q (z 1 (q (r 0 [XA 29 1 25 27,LA 30 29,MA 9 30]) (r 3 [MA 31 7,FA 32 0 3,
 (LA 33 32),MA 34 9,UA 35 (.build [.string ⟨#[]⟩,.string ⟨#[]⟩] [(0,1,(t 33)),(1,1,(t 34))]),UA 36 (.lits 0 2 1 [.string ⟨#[]⟩,.string ⟨#[]⟩] [(0,(t 35))]),UA 37 (.litsf [36] 1 1 1 [.slice o 0 0] [(0,(t 36))]),
 (UA 38 (.append 2 1 24 (t 31) (t 37))),MA 7 38]))) (r 0 [UA 39 (b .add d (t 27) (k (i j 1))),MA 27 39])))
def c50 : LCode :=
 (q (r 1 [UA 3 (u 0 (t 1)),UA 4 (m (k (.slice o 0 0)))]) (q (r 0 [FA 10 1 3,LA 11 10,MA 5 11]) (q (q (r 0 [MA 12 0,FA 13 0 3,LA 14 13,
 (UA 15 (.call 53 [(t 12),(t 14)])),MA 6 15]) (q (r 0 [MA 16 6,UA 17 (b .geq g (t 16) (k (i j 0)))]) (c (t 17) (r 0 [MA 18 5,MA 19 0,MA 20 6,XA 21 3 19 20,
 (FA 22 1 21),LA 23 22,UA 24 (.call 54 [(t 18),(t 23)]),MA 5 24]) .skip))) (q (r 0 [UA 7 (m (k (.slice o 0 0)))]) (q (q (r 0 [MA 25 5,UA 26 (n (t 25)),CA 27 0])
 (z 0 (.loop c50l0))) (q (r 2 [MA 40 7,UA 41 (.lits 0 1 1 [.slice o 0 0] [(0,(k (.slice o 0 0)))]),UA 42 (.append 1 1 24 (t 40) (t 41)),MA 4 42]) .ret)))))) 
def c51l1 : LCode :=
 q (q (r 0 [MA 21 9,MA 22 5,UA 23 (n (t 22)),UA 24 (b .lss g (t 21) (t 23))]) (c (t 24) .skip (.exit 2))) (q (z 3 (q (.qui 0 [MA 27 6,UA 28 (n (t 27)),UA 29 (b .eql g (t 28) (k (i j 0))),
 (MA 30 29),GA 31 (m (t 5)) 30 g,GA 32 (m (t 9)) 30 g,GA 33 (x 1 (t 31) (t 32)) 30 g,GA 34 (l o (t 33)) 30 g,GA 35 (m (t 6)) 30 g,GA 36 (m (t 6)) 30 g,GA 37 (n (t 36)) 30 g,
 (GA 38 (b .sub d (t 37) (k (i j 1))) 30 g),GA 39 (x 1 (t 35) (t 38)) 30 g,GA 40 (l o (t 39)) 30 g,GA 41 (.prim (.sbin .gtr) [(t 34),(t 40)]) 30 g,UA 42 (p (t 30) (k (y d)) (t 41)),
 (MA 10 42)]) (q (r 0 [MA 43 10,MA 44 43,GA 45 (m (t 8)) 44 d,GA 46 (.not (t 45)) 44 d,GA 47 (m (t 46)) 44 d,GA 48 (m (t 5)) 47 g,GA 49 (m (t 9)) 47 g,
 (GA 50 (x 1 (t 48) (t 49)) 47 g),GA 51 (l o (t 50)) 47 g,GA 52 (m (t 7)) 47 g,GA 53 (.prim (.sbin .lss) [(t 51),(t 52)]) 47 g,GA 54 (p (t 47) (k (y d)) (t 53)) 44 d,UA 55 (p (t 44) (t 54) (k (y g)))])
 (c (t 55) (q (r 0 [MA 56 5,MA 57 9,XA 58 1 56 57,LA 59 58,MA 7 59]) (r 0 [UA 8 (m (k (y d)))])) .skip)))) (r 0 [MA 25 9,UA 26 (b .add d (t 25) (k (i j 1))),
 (MA 9 26)]))
def c51l0 : LCode :=
 q (q (r 0 [MA 16 6,UA 17 (n (t 16)),MA 18 5,UA 19 (n (t 18)),UA 20 (b .leq g (t 17) (t 19))]) (c (t 20) .skip (.exit 0))) (z 1 (q (r 0 [UA 7 (m (k (.string ⟨#[]⟩)))]) (q (r 0 [
 (UA 8 (m (k (y g))))]) (q (q (r 0 [CA 9 0]) (z 2 (.loop c51l1))) (q (q (r 0 [MA 60 8,UA 61 (.not (t 60))]) (c (t 61) (.exit 0) .skip)) (r 2 [MA 62 6,MA 63 7,
 (UA 64 (.lits 0 1 1 [.string ⟨#[]⟩] [(0,(t 63))])),UA 65 (.append 1 1 16 (t 62) (t 64)),MA 6 65]))))))
def c51 : LCode :=
 (q (r 0 [UA 4 (m (k (.slice o 0 0)))]) (q (r 3 [UA 11 (.lits 0 1 0 [.string ⟨#[]⟩] []),MA 12 0,UA 13 (.append 1 1 16 (t 11) (t 12)),MA 14 1,UA 15 (.append 2 1 16 (t 13) (t 14)),
 (MA 5 15)]) (q (r 0 [UA 6 (m (k (.slice o 0 0)))]) (q (z 0 (.loop c51l0)) (q (r 0 [MA 66 6,MA 4 66]) .ret))))) 
def c52 : LCode :=
 (q (r 0 [UA 2 (m (k (.slice o 0 0)))]) (q (q (r 0 [MA 3 0,UA 4 (.eqn g (t 3) (k (.slice o 0 0)))]) (c (t 4) (q (r 0 [UA 2 (m (k (.slice o 0 0)))]) .ret) .skip)) (q (r 2 [UA 5 (.lits 0 1 0 [.string ⟨#[]⟩] []),
 (MA 6 0),UA 7 (.append 1 1 16 (t 5) (t 6)),MA 2 7]) .ret))) 
def c53 : LCode :=
 (q (r 1 [UA 3 (u 0 (t 1)),CA 4 0]) (q (r 0 [MA 5 0,UA 6 (.fn 65 [(t 3)]),UA 7 (.call 55 [(t 5),(t 6)]),MA 4 7]) .ret)) 
def c54 : LCode :=
 (q (r 0 [UA 4 (m (k (.slice o 0 0)))]) (q (r 1 [MA 6 0,UA 7 (.call 52 [(t 6)]),MA 8 1,UA 9 (.append 0 1 16 (t 7) (t 8)),MA 5 9]) (q (r 0 [MA 10 5,UA 11 (.call 66 [(t 10)])])
 (q (r 0 [MA 12 5,UA 13 (.call 67 [(t 12)]),MA 4 13]) .ret)))) 
def c55l0 : LCode :=
 q (r 0 [UA 9 (b .lss g (t 8) (t 7))]) (q (c (t 9) .skip (.exit 0)) (q (z 1 (q (r 0 [MA 10 8,MA 5 10]) (q (r 0 [MA 11 1,MA 12 0,MA 13 5,XA 14 3 12 13,
 (SA 15 3 14),UA 16 (.callv (t 11) [(t 15)])]) (c (t 16) (q (r 0 [MA 17 5,MA 4 17]) .ret) .skip)))) (r 0 [UA 18 (b .add d (t 8) (k (i j 1))),MA 8 18])))
def c55 : LCode :=
 (q (r 0 [CA 4 0]) (q (q (r 0 [MA 6 0,UA 7 (n (t 6)),CA 8 0]) (z 0 (.loop c55l0))) (q (r 0 [UA 4 (m (k (.int .i64 (-1))))]) .ret))) 
def c56 : LCode :=
 (q (r 0 [UA 2 (m (k (y g)))]) (q (r 0 [MA 3 0,UA 4 (.call 68 [(t 3),(.func 69)]),MA 2 4]) .ret)) 
def c57 : LCode :=
 (q (r 0 [UA 2 (m (k (y g)))]) (q (r 0 [MA 3 0,UA 4 (.call 68 [(t 3),(.func 70)]),MA 2 4]) .ret)) 
def c59 : LCode :=
 (q (r 0 [UA 4 (m (k (.string ⟨#[]⟩))),UA 5 (m (k (y g)))]) (q (q (r 0 [MA 6 0,MA 7 1,UA 8 (.call 72 [(t 6),(t 7)]),UA 9 (.not (t 8))]) (c (t 9) (q (r 0 [MA 10 0,
 (MA 4 10),UA 5 (m (k (y g)))]) .ret) .skip)) (q (r 0 [MA 11 0,MA 12 1,UA 13 (.lens (t 12)),UA 14 (.prim (.sslc d g) [(t 11),(t 13)]),MA 4 14,UA 5 (m (k (y d)))])
 .ret))) 
def c64l0 : LCode :=
 q (r 0 [UA 9 (b .lss g (t 8) (t 7))]) (q (c (t 9) .skip (.exit 0)) (q (z 1 (q (r 0 [MA 10 8,MA 5 10]) (q (r 0 [MA 11 1,MA 12 0,MA 13 5,XA 14 1 12 13,
 (LA 15 14),UA 16 (.prim (.sbin .eql) [(t 11),(t 15)])]) (c (t 16) (q (r 0 [MA 17 5,MA 4 17]) .ret) .skip)))) (r 0 [UA 18 (b .add d (t 8) (k (i j 1))),MA 8 18])))
def c64 : LCode :=
 (q (r 0 [CA 4 0]) (q (q (r 0 [MA 6 0,UA 7 (n (t 6)),CA 8 0]) (z 0 (.loop c64l0))) (q (r 0 [UA 4 (m (k (.int .i64 (-1))))]) .ret))) 
def c65 : LCode :=
 (q (r 1 [UA 2 (u 0 (t 0)),UA 3 (m (k (y g)))]) (q (r 0 [FA 4 0 2,LA 5 4,LA 6 1,UA 7 (.prim (.sbin .eql) [(t 5),(t 6)]),MA 3 7]) .ret)) 
def c67l1 : LCode :=
 q (q (r 0 [MA 29 5,MA 30 4,UA 31 (n (t 30)),UA 32 (b .lss g (t 29) (t 31))]) (c (t 32) .skip (.exit 2))) (q (z 3 (q (.qui 0 [MA 35 4,MA 36 5,XA 37 1 35 36,
 (LA 38 37),MA 39 4,MA 40 5,UA 41 (b .sub d (t 40) (k (i j 1))),XA 42 1 39 41,LA 43 42,UA 44 (.prim (.sbin .neq) [(t 38),(t 43)])]) (c (t 44)
 (q (r 0 [MA 45 0,MA 46 3,MA 47 4,MA 48 5,XA 49 1 47 48,LA 50 49,XA 51 1 45 46,WA 1 51 50]) (r 0 [MA 52 3,
 (UA 53 (b .add d (t 52) (k (i j 1)))),MA 3 53])) .skip))) (r 0 [MA 33 5,UA 34 (b .add d (t 33) (k (i j 1))),MA 5 34]))
def c67l0 : LCode :=
 q (q (r 0 [MA 10 3,MA 11 0,UA 12 (n (t 11)),UA 13 (b .lss g (t 10) (t 12))]) (c (t 13) .skip (.exit 0))) (q (z 1 (q (.qui 0 [MA 16 0,MA 17 3,XA 18 1 16 17,
 (LA 19 18),MA 20 0,MA 21 3,UA 22 (b .sub d (t 21) (k (i j 1))),XA 23 1 20 22,LA 24 23,UA 25 (.prim (.sbin .eql) [(t 19),(t 24)])]) (c (t 25)
 (q (r 0 [MA 26 0,MA 27 3,UA 28 (.slice 1 (t 26) (s (t 27)) o o),MA 4 28]) (q (q (r 0 [CA 5 1]) (z 2 (.loop c67l1))) (q (r 0 [MA 54 0,MA 55 3,
 (UA 56 (.slice 1 (t 54) (s (t 55)) o o)),⟨o,.eff (.clr 1 [.string ⟨#[]⟩]) 0 [(t 56)],o⟩]) (q (r 0 [MA 57 0,MA 58 3,UA 59 (.slice 1 (t 57) o (s (t 58)) o),MA 2 59]) .ret))))
 .skip))) (r 0 [MA 14 3,UA 15 (b .add d (t 14) (k (i j 1))),MA 3 15]))
def c67 : LCode :=
 (q (r 0 [UA 2 (m (k (.slice o 0 0)))]) (q (q (r 0 [MA 6 0,UA 7 (n (t 6)),UA 8 (b .lss g (t 7) (k (i j 2)))]) (c (t 8) (q (r 0 [MA 9 0,MA 2 9]) .ret) .skip)) (q (q (r 0 [
 (CA 3 1)]) (z 0 (.loop c67l0))) (q (r 0 [MA 60 0,MA 2 60]) .ret)))) 
def c68l0 : LCode :=
 q (r 0 [UA 9 (b .lss g (t 8) (t 7))]) (q (c (t 9) .skip (.exit 0)) (q (z 1 (q (r 0 [MA 10 8,MA 5 10]) (q (r 0 [MA 11 1,MA 12 0,MA 13 5,UA 14 (.prim .sidx [(t 12),(t 13)]),
 (UA 15 (.callv (t 11) [(t 14)])),UA 16 (.not (t 15))]) (c (t 16) (q (r 0 [UA 4 (m (k (y g)))]) .ret) .skip)))) (r 0 [UA 17 (b .add d (t 8) (k (i j 1))),MA 8 17])))
def c68 : LCode :=
 (q (r 0 [UA 4 (m (k (y g)))]) (q (q (r 0 [MA 6 0,UA 7 (.lens (t 6)),CA 8 0]) (z 0 (.loop c68l0))) (q (r 0 [MA 18 0,UA 19 (.lens (t 18)),UA 20 (b .geq g (t 19) (k (i j 1))),
 (MA 21 20),GA 22 (m (t 0)) 21 d,GA 23 (.lens (t 22)) 21 d,GA 24 (b .leq g (t 23) (k (i j 64))) 21 d,UA 25 (p (t 21) (t 24) (k (y g))),MA 4 25]) .ret))) 
def c69 : LCode :=
 (q (r 0 [UA 2 (m (k (y g)))]) (q (r 0 [MA 3 0,UA 4 (b .geq g (t 3) (k (.int .u8 97))),MA 5 4,GA 6 (m (t 0)) 5 d,GA 7 (b .leq g (t 6) (k (.int .u8 122))) 5 d,UA 8 (p (t 5) (t 7) (k (y g))),
 (MA 9 8),GA 10 (m (t 0)) 9 g,GA 11 (b .geq g (t 10) (k (.int .u8 48))) 9 g,GA 12 (m (t 11)) 9 g,GA 13 (m (t 0)) 12 d,GA 14 (b .leq g (t 13) (k (.int .u8 57))) 12 d,
 (GA 15 (p (t 12) (t 14) (k (y g))) 9 g),UA 16 (p (t 9) (k (y d)) (t 15)),MA 17 16,GA 18 (m (t 0)) 17 g,GA 19 (b .eql g (t 18) (k (.int .u8 45))) 17 g,UA 20 (p (t 17) (k (y d)) (t 19)),
 (MA 2 20)]) .ret)) 
def c70 : LCode :=
 (q (r 0 [UA 2 (m (k (y g)))]) (q (r 0 [MA 3 0,UA 4 (b .geq g (t 3) (k (.int .u8 33))),MA 5 4,GA 6 (m (t 0)) 5 d,GA 7 (b .leq g (t 6) (k (.int .u8 126))) 5 d,UA 8 (p (t 5) (t 7) (k (y g))),
 (MA 2 8)]) .ret)) 
def c72 : LCode :=
 (q (r 0 [UA 4 (m (k (y g)))]) (q (r 0 [MA 5 0,UA 6 (.lens (t 5)),MA 7 1,UA 8 (.lens (t 7)),UA 9 (b .geq g (t 6) (t 8)),MA 10 9,GA 11 (m (t 0)) 10 d,GA 12 (m (t 1)) 10 d,
 (GA 13 (.lens (t 12)) 10 d),GA 14 (.prim (.sslc g d) [(t 11),(t 13)]) 10 d,GA 15 (m (t 1)) 10 d,GA 16 (.prim (.sbin .eql) [(t 14),(t 15)]) 10 d,UA 17 (p (t 10) (t 16) (k (y g))),
 (MA 4 17)]) .ret)) 
def tbl : List (Option Ent) := [
  none,  none,  none,  none,  none,  none,  none,  none,  none,
  some ⟨c9, [.tmp 0], 97, none⟩,  some ⟨c10, [.tmp 2], 29, none⟩,  none,  none,  none,  some ⟨c14, [.tmp 4], 28, none⟩,  some ⟨c15, [.tmp 6], 14, none⟩,
  some ⟨c16, [.tmp 4, .tmp 5], 69, none⟩,  none,  some ⟨c18, [.tmp 4], 28, none⟩,  none,  none,  some ⟨c21, [.tmp 2, .tmp 3], 27, none⟩,
  none,  none,  some ⟨c24, [.tmp 4, .tmp 5, .tmp 6], 67, none⟩,  none,  none,
  none,  none,  none,  some ⟨c30, [.tmp 4], 9, none⟩,  some ⟨c31, [.tmp 2], 7, none⟩,  some ⟨c32, [.tmp 4], 56, none⟩,  none,
  none,  none,  none,  some ⟨c37, [.tmp 4], 33, none⟩,  some ⟨c38, [.tmp 4, .tmp 5], 11, none⟩,  none,  some ⟨c40, [.tmp 4], 19, none⟩,
  some ⟨c41, [.tmp 2], 12, none⟩,  some ⟨c42, [.tmp 4], 11, none⟩,  none,  some ⟨c44, [.tmp 4], 19, none⟩,  some ⟨c45, [.tmp 3], 9, none⟩,  some ⟨c46, [.tmp 4], 9, none⟩,  none,
  none,  some ⟨c49, [], 41, none⟩,  some ⟨c50, [.tmp 4], 43, none⟩,  none,  some ⟨c52, [.tmp 2], 8, none⟩,  some ⟨c53, [.tmp 4], 8, none⟩,  some ⟨c54, [.tmp 4], 14, none⟩,
  some ⟨c55, [.tmp 4], 19, none⟩,  some ⟨c56, [.tmp 2], 5, none⟩,  some ⟨c57, [.tmp 2], 5, none⟩,  none,  some ⟨c59, [.tmp 4, .tmp 5], 15, none⟩,  none,  none,  none,  none,  some ⟨c64, [.tmp 4], 19, none⟩,
  some ⟨c65, [.tmp 3], 8, none⟩,  none,  some ⟨c67, [.tmp 2], 61, none⟩,  some ⟨c68, [.tmp 4], 26, none⟩,  some ⟨c69, [.tmp 2], 21, none⟩,  some ⟨c70, [.tmp 2], 9, none⟩,  none,  some ⟨c72, [.tmp 4], 18, none⟩]
end Go.Fx.W
