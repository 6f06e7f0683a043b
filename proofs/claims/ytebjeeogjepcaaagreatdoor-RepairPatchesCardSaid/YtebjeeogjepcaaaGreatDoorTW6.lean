import Derived.Test.YtebjeeogjepcaaaGreatDoorT65
import Derived.Test.YtebjeeogjepcaaaGreatDoorHLow0
set_option linter.unusedVariables false
set_option linter.unusedSimpArgs false
set_option linter.unusedSectionVars false
namespace Go.Fx.H
open Go Go.Fx Go.Proofs Go.Fx.R
set_option maxRecDepth 20000
theorem c6_parts:c6=.seq (pt 0 c6) (.seq (pt 1 c6) (.seq (pt 2 c6) (.seq (pt 3 c6) (.seq (pt 4 c6) (.seq (pt 5 c6) (.seq (pt 6 c6) (.seq (pt 7 c6) (.seq (pt 8 c6) (rt 9 c6))))))))):=by rfl
abbrev pD (old new:Bs) (n:Int):List V:=pe (dig old) (dig new) new.length (rO (dfO old new n))
structure E6 (old new oth:Bs) (n:Int) (e:Env):Prop where
 g0:get e 0=sv old
 g1:get e 1=sv new
 g2:get e 2=.i n
 g3:get e 3=sv oth
structure H6 (old new oth:Bs) (n:Int):Prop where
 x1:old.length≤200
 x2:new.length≤200
 x3:oth.length≤200
 x4:1≤n∧n≤200
abbrev R6:St→Prop:=eK [] 0 [.tmp 8] (Is (.b true))
theorem eN {t:Bs}:(dig t).length=16:=bG
theorem Uq {old new:Bs} {n:Int} (h1:old.length≤200) (h2:new.length≤200) (h4:1≤n∧n≤200):Ok 20 [sv old,sv new,.i n] (Is (.tup [.agg (pD old new n),.i 0])):=by
 have o:=Yd old new n (by omega) (by omega)
 have e:=Sl (old:=old) (new:=new) (b:=n) ⟨h4.1,by omega⟩ (by omega) (by omega)
 rw [e] at o
 unfold dfP at o
 rw [if_neg (by rw [e];decide)] at o
 exact o
section
variable {old new oth:Bs} {n:Int} {N:St→Prop} {X:Nat→St→Prop} {e:Env} {bb:Nat}
theorem acK (S:S13) (hE:E6 old new oth n e) (hN:∀ e b',H6 old new oth n→E6 old new oth n e→N ⟨e,[],b'⟩):aw cT (pt 1 c6) N X R6 ⟨e,[],bb⟩:=by
 obtain ⟨g0,g1,g2,g3⟩:=hE
 conv=>arg 2;whnf
 simp -implicitDefEqProofs only [rX,↓rY,aA,↓reduceIte,Nat.reduceEqDiff,cxN,bR,g0,g1,g2,g3]
 cases d1:decide (200<(old.length:Int)) with
 | true =>
  simp -implicitDefEqProofs only [↓rY]
  refine aE S ⟨trivial,trivial⟩ rfl trivial ?_
  simp -implicitDefEqProofs only [rX,↓reduceIte,aV,a6,wfV]
 | false =>
 simp -implicitDefEqProofs only [↓rY]
 cases d2:decide (200<(new.length:Int)) with
 | true =>
  simp -implicitDefEqProofs only [↓rY]
  refine aE S ⟨trivial,trivial⟩ rfl trivial ?_
  simp -implicitDefEqProofs only [rX,↓reduceIte,aV,a6,wfV]
 | false =>
 simp -implicitDefEqProofs only [↓rY]
 cases d3:decide (200<(oth.length:Int)) with
 | true =>
  simp -implicitDefEqProofs only [↓rY]
  refine aE S ⟨trivial,trivial⟩ rfl trivial ?_
  simp -implicitDefEqProofs only [rX,↓reduceIte,aV,a6,wfV]
 | false =>
 simp -implicitDefEqProofs only [↓rY]
 cases d4:decide (n<1) with
 | true =>
  simp -implicitDefEqProofs only [↓rY]
  refine aE S ⟨trivial,trivial⟩ rfl trivial ?_
  simp -implicitDefEqProofs only [rX,↓reduceIte,aV,a6,wfV]
 | false =>
 simp -implicitDefEqProofs only [↓rY]
 cases d5:decide (200<n) with
 | true =>
  simp -implicitDefEqProofs only [↓rY]
  refine aE S ⟨trivial,trivial⟩ rfl trivial ?_
  simp -implicitDefEqProofs only [rX,↓reduceIte,aV,a6,wfV]
 | false =>
 have d1':=of_decide_eq_false d1
 have d2':=of_decide_eq_false d2
 have d3':=of_decide_eq_false d3
 have d4':=of_decide_eq_false d4
 have d5':=of_decide_eq_false d5
 simp -implicitDefEqProofs only [↓rY]
 exact hN _ _ ⟨by omega,by omega,by omega,by omega⟩ ⟨g0,g1,g2,g3⟩
theorem acJ (hH:H6 old new oth n) (hE:E6 old new oth n e) (hN:∀ e b',E6 old new oth n e→get e 9=.ptr 0 0 0→get e 10=.i 0→N ⟨e,[.var (pD old new n)],b'⟩):aw cT (pt 2 c6) N X R6 ⟨e,[],bb⟩:=by
 obtain ⟨g0,g1,g2,g3⟩:=hE
 obtain ⟨h1,h2,h3,h4⟩:=hH
 have d1:(dig old).length=16:=eN
 have d2:(dig new).length=16:=eN
 conv=>arg 2;whnf
 simp -implicitDefEqProofs only [rX,↓reduceIte,Nat.reduceEqDiff,cxN,g0,g1,g2]
 refine aE (Uq h1 h2 h4) ⟨⟨trivial,trivial,trivial,trivial⟩,rfl,rfl,rfl,trivial⟩ (by simp [ren,bZ,iY]) trivial ?_
 simp -implicitDefEqProofs only [rX,↓rY,aA,cells?,splice,↓reduceIte,Nat.reduceEqDiff,aD,tJ,gJ,eU,cR,d1,d2]
 refine ⟨yP rfl,hN _ _ ⟨g0,g1,g2,g3⟩ ?_ ?_⟩
 ·rfl
 ·rfl
theorem Xt (hH:H6 old new oth n) {t:Bs} (ht:t.length≤200):Ok 22 [sv t,.agg (pD old new n)] (Is (.tup [sv (apR t (dig old) (dig new) new.length (dfO old new n)),.i (apE t (dig old) (dig new) new.length (dfO old new n))])):=by
 obtain ⟨h1,h2,h3,h4⟩:=hH
 refine a22 t (dig old) (dig new) new.length (dfO old new n) (by omega) eN eN ?_ fun x hx=>?_
 ·have:=Hv (old:=old) (new:=new) (b:=n);omega
 ·have:=Hu (old:=old) (new:=new) (b:=n) ⟨h4.1,by omega⟩ (by omega) (by omega) x hx;omega
theorem acI (hH:H6 old new oth n) (hE:E6 old new oth n e) (g9:get e 9=.ptr 0 0 0) (g10:get e 10=.i 0) (hN:∀ e b',E6 old new oth n e→get e 9=.ptr 0 0 0→get e 10=.i 0→get e 11=sv new→get e 12=.i 0→N ⟨e,[.var (pD old new n)],b'⟩):aw cT (pt 3 c6) N X R6 ⟨e,[.var (pD old new n)],bb⟩:=by
 obtain ⟨g0,g1,g2,g3⟩:=hE
 have o:=Xt hH hH.x1
 obtain ⟨h1,h2,h3,h4⟩:=hH
 have d1:(dig old).length=16:=eN
 have d2:(dig new).length=16:=eN
 rw [Ew ⟨h4.1,by omega⟩ (by omega) (by omega),Vx ⟨h4.1,by omega⟩ (by omega) (by omega)] at o
 conv=>arg 2;whnf
 simp -implicitDefEqProofs only [rX,↓rY,↓reduceIte,Nat.reduceEqDiff,cxN,g0,g9,gJ,gC,d1,d2]
 refine aE o ⟨⟨trivial,dJ.1,trivial⟩,rfl,dJ.2,trivial⟩ rfl trivial ?_
 simp -implicitDefEqProofs only [rX,↓rY,↓reduceIte,Nat.reduceEqDiff]
 refine hN _ _ ⟨g0,g1,g2,g3⟩ ?_ ?_ ?_ ?_
 ·exact g9
 ·exact g10
 ·rfl
 ·rfl
theorem okW {t u:Bs} {s:Int} (h1:t.length≤200) (h2:u.length≤200) (h4:1≤n∧n≤200):Ok 25 [.agg (pe (dig t) (dig u) s (rO (dfO t u n)))] (Is (.i (wgt (dfO t u n)))):=by
 refine Yc (dig t) (dig u) s (dfO t u n) eN eN ?_ fun x hx=>?_
 ·have:=Hv (old:=t) (new:=u) (b:=n);omega
 ·have:=Hu (old:=t) (new:=u) (b:=n) ⟨h4.1,by omega⟩ (by omega) (by omega) x hx;omega
theorem acH (hH:H6 old new oth n) (hE:E6 old new oth n e) (g9:get e 9=.ptr 0 0 0) (g10:get e 10=.i 0) (g11:get e 11=sv new) (g12:get e 12=.i 0) (hN:∀ e b',E6 old new oth n e→get e 9=.ptr 0 0 0→N ⟨e,[.var (pD old new n)],b'⟩):aw cT (pt 4 c6) N X R6 ⟨e,[.var (pD old new n)],bb⟩:=by
 obtain ⟨g0,g1,g2,g3⟩:=hE
 obtain ⟨h1,h2,h3,h4⟩:=hH
 have d1:(dig old).length=16:=eN
 have d2:(dig new).length=16:=eN
 have hw:=aaA (old:=old) (new:=new) (b:=n) ⟨h4.1,by omega⟩ (by omega) (by omega)
 have o:=okW (s:=(new.length:Int)) h1 h2 h4
 conv=>arg 2;whnf
 simp -implicitDefEqProofs only [rX,↓rY,aA,↓reduceIte,Nat.reduceEqDiff,aV,a6,wfV,cxN,bR,dU,g1,g9,g10,g11,g12,bne_self_eq_false,beq_self_eq_true,dU,gJ,Xq,gC,d1,d2]
 refine aE o ⟨⟨dJ.1,trivial⟩,dJ.2,trivial⟩ rfl trivial ?_
 simp -implicitDefEqProofs only [rX,↓rY,aA,↓reduceIte,Nat.reduceEqDiff,aV,a6,wfV,decide_eq_false (show ¬wgt (dfO old new n)<0 by omega),g9,gJ,gC,d1,d2]
 refine aE o ⟨⟨dJ.1,trivial⟩,dJ.2,trivial⟩ rfl trivial ?_
 simp -implicitDefEqProofs only [rX,↓rY,↓reduceIte,Nat.reduceEqDiff,bR,decide_eq_false (show ¬(new.length:Int)<wgt (dfO old new n) by omega),g1]
 exact hN _ _ ⟨g0,g1,g2,g3⟩ g9
theorem acG (hH:H6 old new oth n) (hE:E6 old new oth n e) (g9:get e 9=.ptr 0 0 0) (hN:∀ e b',E6 old new oth n e→get e 9=.ptr 0 0 0→get e 13=.ptr 1 0 0→get e 14=.i 0→N ⟨e,[.var (pD old new n),.var (pD old old n)],b'⟩):aw cT (pt 5 c6) N X R6 ⟨e,[.var (pD old new n)],bb⟩:=by
 obtain ⟨g0,g1,g2,g3⟩:=hE
 obtain ⟨h1,h2,h3,h4⟩:=hH
 have d1:(dig old).length=16:=eN
 have d2:(dig new).length=16:=eN
 conv=>arg 2;whnf
 simp -implicitDefEqProofs only [rX,↓reduceIte,Nat.reduceEqDiff,reduceCtorEq,cxN,g0,g2]
 refine aE (Uq h1 h1 h4) ⟨⟨trivial,trivial,trivial,trivial⟩,rfl,rfl,rfl,trivial⟩ (by simp [ren,bZ,iY]) trivial ?_
 simp -implicitDefEqProofs only [rX,↓rY,aA,cells?,splice,↓reduceIte,Nat.reduceEqDiff,aD,tJ,cR,gJ,eU,d1]
 refine ⟨yP rfl,hN _ _ ⟨g0,g1,g2,g3⟩ ?_ ?_ ?_⟩
 ·exact g9
 ·rfl
 ·rfl
theorem acF (hH:H6 old new oth n) (hE:E6 old new oth n e) (g9:get e 9=.ptr 0 0 0) (g13:get e 13=.ptr 1 0 0) (g14:get e 14=.i 0) (hN:∀ e b',E6 old new oth n e→get e 9=.ptr 0 0 0→N ⟨e,[.var (pD old new n),.var (pD old old n)],b'⟩):aw cT (pt 6 c6) N X R6 ⟨e,[.var (pD old new n),.var (pD old old n)],bb⟩:=by
 obtain ⟨g0,g1,g2,g3⟩:=hE
 obtain ⟨h1,h2,h3,h4⟩:=hH
 have d1:(dig old).length=16:=eN
 have d2:(dig new).length=16:=eN
 have o:=okW (s:=(old.length:Int)) h1 h1 h4
 conv=>arg 2;whnf
 simp -implicitDefEqProofs only [rX,↓rY,aA,↓reduceIte,Nat.reduceEqDiff,Nat.reduceAdd,reduceCtorEq,aV,a6,wfV,cxN,bR,g0,g2,g14,bne_self_eq_false]
 refine ⟨by omega,?_⟩
 cases hd:((old.length:Int).tmod n==0) with
 | false =>
  simp -implicitDefEqProofs only [↓rY]
  exact hN _ _ ⟨g0,g1,g2,g3⟩ g9
 | true =>
  have hd2:(old.length:Int)%n=0:=by
   have h5:(old.length:Int).tmod n=0:=by simpa using hd
   rwa [Int.tmod_eq_emod_of_nonneg (by omega)] at h5
  rw [Tu h4.1 hd2] at o
  simp -implicitDefEqProofs only [rX,↓rY,g13,gJ,gC,d1]
  refine aE o ⟨⟨dJ.1,trivial⟩,dJ.2,trivial⟩ rfl trivial ?_
  simp -implicitDefEqProofs only [rX,↓rY,aA,↓reduceIte,Nat.reduceEqDiff,Nat.reduceAdd,aV,a6,wfV,bne_self_eq_false]
  exact hN _ _ ⟨g0,g1,g2,g3⟩ g9
theorem acE (hH:H6 old new oth n) (hE:E6 old new oth n e) (g9:get e 9=.ptr 0 0 0) (hN:∀ e b',E6 old new oth n e→get e 9=.ptr 0 0 0→get e 15=.ptr 2 0 0→get e 16=.i 0→N ⟨e,[.var (pD old new n),.var (pD old old n),.var (pD oth new n)],b'⟩):aw cT (pt 7 c6) N X R6 ⟨e,[.var (pD old new n),.var (pD old old n)],bb⟩:=by
 obtain ⟨g0,g1,g2,g3⟩:=hE
 obtain ⟨h1,h2,h3,h4⟩:=hH
 have d1:(dig oth).length=16:=eN
 have d2:(dig new).length=16:=eN
 conv=>arg 2;whnf
 simp -implicitDefEqProofs only [rX,↓reduceIte,Nat.reduceEqDiff,Nat.reduceAdd,cxN,g1,g2,g3]
 refine aE (Uq h3 h2 h4) ⟨⟨trivial,trivial,trivial,trivial⟩,rfl,rfl,rfl,trivial⟩ (by simp [ren,bZ,iY]) trivial ?_
 simp -implicitDefEqProofs only [rX,↓rY,aA,cells?,splice,↓reduceIte,Nat.reduceEqDiff,aD,tJ,cR,gJ,eU,d1,d2]
 refine ⟨yP rfl,hN _ _ ⟨g0,g1,g2,g3⟩ ?_ ?_ ?_⟩
 ·exact g9
 ·rfl
 ·rfl
abbrev h6H (old new oth:Bs) (n:Int):List Blk:=[.var (pD old new n),.var (pD old old n),.var (pD oth new n)]
abbrev eO (old new oth:Bs) (n:Int):Int:=apE oth (dig old) (dig new) new.length (dfO old new n)
theorem acD (hH:H6 old new oth n) (hE:E6 old new oth n e) (g9:get e 9=.ptr 0 0 0) (g15:get e 15=.ptr 2 0 0) (g16:get e 16=.i 0) (hN:∀ e b',E6 old new oth n e→get e 9=.ptr 0 0 0→get e 15=.ptr 2 0 0→get e 16=.i 0→get e 18=.i (eO old new oth n)→N ⟨e,h6H old new oth n,b'⟩):aw cT (pt 8 c6) N X R6 ⟨e,h6H old new oth n,bb⟩:=by
 obtain ⟨g0,g1,g2,g3⟩:=hE
 have o:=Xt hH hH.x3
 have d1:(dig old).length=16:=eN
 have d2:(dig new).length=16:=eN
 conv=>arg 2;whnf
 simp -implicitDefEqProofs only [rX,↓rY,↓reduceIte,Nat.reduceEqDiff,Nat.reduceAdd,cxN,g3,g9,gJ,gC,d1,d2]
 refine aE o ⟨⟨trivial,dJ.1,trivial⟩,rfl,dJ.2,trivial⟩ rfl trivial ?_
 simp -implicitDefEqProofs only [rX,↓rY,↓reduceIte,Nat.reduceEqDiff]
 refine hN _ _ ⟨g0,g1,g2,g3⟩ ?_ ?_ ?_ ?_
 ·exact g9
 ·exact g15
 ·exact g16
 ·rfl
theorem acC (S:S13) (hH:H6 old new oth n) (hE:E6 old new oth n e) (g9:get e 9=.ptr 0 0 0) (g15:get e 15=.ptr 2 0 0) (g16:get e 16=.i 0) (g18:get e 18=.i (eO old new oth n)):aw cT (rt 9 c6) N X R6 ⟨e,h6H old new oth n,bb⟩:=by
 obtain ⟨g0,g1,g2,g3⟩:=hE
 obtain ⟨h1,h2,h3,h4⟩:=hH
 have d1:(dig old).length=16:=eN
 have d2:(dig new).length=16:=eN
 have d3:(dig oth).length=16:=eN
 have hne:dig oth≠dig old→eO old new oth n=8:=fun h=>if_pos h
 have heq:oth=old→eO old new oth n=0:=by
  rintro rfl
  exact Ew ⟨h4.1,by omega⟩ (by omega) (by omega)
 generalize eO old new oth n=E at *
 conv=>arg 2;whnf
 simp -implicitDefEqProofs only [rX,Nat.reduceAdd,cxN]
 refine aE S ⟨trivial,trivial⟩ rfl trivial ?_
 simp -implicitDefEqProofs only [rX,↓rY,aA,↓reduceIte,Nat.reduceEqDiff,reduceCtorEq,aV,a6,wfV,Nat.reduceLeDiff,dU,g0,g3,g9,g15,g16,g18,beq_self_eq_true,oF d3 d1,d3,gJ,Pz,d1,d2,dU]
 have hl:br (!oth==old) True ((E==0)=true):=⟨fun _=>trivial,fun h=>by
  have:oth=old:=by simpa using h
  rw [heq this];rfl⟩
 refine ⟨fun _=>hl,fun h=>⟨fun _=>hl,fun h2=>?_⟩⟩
 rw [hne (by simpa using h)] at h2
 cases h2
end
theorem ok6 (S:S13) (old new:Bs) (n:Int) (oth:Bs):Ok 6 [sv old,sv new,.i n,sv oth] (Is (.b true)):=by
 refine bY lw6 (by simp) ?_
 rw [c6_parts]
 simp -implicitDefEqProofs only [qJ]
 conv=>arg 2;whnf
 simp -implicitDefEqProofs only [rX,aA,Nat.reduceAdd,cxN,aL]
 refine acK S (old:=old) (new:=new) (n:=n) (oth:=oth) ⟨rfl,rfl,rfl,rfl⟩ fun e _ hH hE=>?_
 simp -implicitDefEqProofs only [qJ]
 refine acJ hH hE fun e _ hE g9 g10=>?_
 simp -implicitDefEqProofs only [qJ]
 refine acI hH hE g9 g10 fun e _ hE g9 g10 g11 g12=>?_
 simp -implicitDefEqProofs only [qJ]
 refine acH hH hE g9 g10 g11 g12 fun e _ hE g9=>?_
 simp -implicitDefEqProofs only [qJ]
 refine acG hH hE g9 fun e _ hE g9 g13 g14=>?_
 simp -implicitDefEqProofs only [qJ]
 refine acF hH hE g9 g13 g14 fun e _ hE g9=>?_
 simp -implicitDefEqProofs only [qJ]
 refine acE hH hE g9 fun e _ hE g9 g15 g16=>?_
 simp -implicitDefEqProofs only [qJ]
 refine acD hH hE g9 g15 g16 fun e _ hE g9 g15 g16 g18=>?_
 exact acC S hH hE g9 g15 g16 g18
theorem fn6:∀ xs,WfA [.str,.str,tI,.str] xs→Fn Tryz.prog 6 xs [] [] (fun r _=>r=.b true):=by
 intro xs h
 obtain ⟨x1,_,rfl,h1,x2,_,rfl,h2,x3,_,rfl,h3,x4,_,rfl,h4,h⟩:=h
 obtain rfl:_=[]:=h
 obtain ⟨t,rfl⟩:=Do h1
 obtain ⟨u,rfl⟩:=Do h2
 obtain ⟨n,rfl,_⟩:=Sy h3
 obtain ⟨o,rfl⟩:=Do h4
 exact Zw (ok6 adD t u n o)
end Go.Fx.H
