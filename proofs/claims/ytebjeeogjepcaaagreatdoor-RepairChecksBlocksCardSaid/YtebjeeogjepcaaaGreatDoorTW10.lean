import Derived.Test.YtebjeeogjepcaaaGreatDoorT54
import Derived.Test.YtebjeeogjepcaaaGreatDoorHLow0
set_option linter.unusedVariables false
set_option linter.unusedSimpArgs false
set_option linter.unusedSectionVars false
open Int renaming toNat_natCast → yaa
namespace Go.Fx.H
open Go Go.Fx Go.Proofs Go.Fx.R
set_option maxRecDepth 20000
abbrev b10:LCode:=Bg (pt 2 c10l0)
theorem c10_parts:c10=.seq (pt 0 c10) (.seq (pt 1 c10) (.seq (pt 2 c10) (.seq (pt 3 c10) (.seq (pt 4 c10) (.seq (pt 5 c10) (rt 6 c10)))))):=by rfl
theorem c10l0_parts:c10l0=.seq (pt 0 c10l0) (.seq (pt 1 c10l0) (.seq (.block 1 (.seq (pt 0 b10) (.seq (pt 1 b10) (.seq (pt 2 b10) (.seq (pt 3 b10) (.seq (pt 4 b10) (.seq (pt 5 b10) (.seq (pt 6 b10) (.seq (pt 7 b10) (.seq (pt 8 b10) (.seq (pt 9 b10) (.seq (pt 10 b10) (rt 11 b10))))))))))))) (rt 3 c10l0))):=by rfl
abbrev iO:St→Prop:=eJ [] 0 [.tmp 6] (Is (.b true))
structure Eh (t:Bs) (b:Int) (m:Nat) (e:Env):Prop where
 g0:get e 0=sv t
 g1:get e 1=.i b
 g2:get e 2=.v (.int .u16 m)
section
variable {t:Bs} {b:Int} {m:Nat} {N:St→Prop} {X:Nat→St→Prop} {e:Env} {bb:Nat}
theorem adI (S:S13) (hE:Eh t b m e) (hN:∀ e b',t.length≤300→(1≤b∧b≤300)→Eh t b m e→N ⟨e,[],b'⟩):aw cT (pt 1 c10) N X iO ⟨e,[],bb⟩:=by
 obtain ⟨g0,g1,g2⟩:=hE
 conv=>arg 2;whnf
 simp -implicitDefEqProofs only [rX,↓rY,aA,↓reduceIte,Nat.reduceEqDiff,cxN,bQ,g0,g1]
 cases d1:decide (300<(t.length:Int)) with
 | true =>
  simp -implicitDefEqProofs only [↓rY]
  refine aE S ⟨trivial,trivial⟩ rfl trivial ?_
  simp -implicitDefEqProofs only [rX,↓reduceIte,aU,aY,wfV]
 | false =>
 simp -implicitDefEqProofs only [↓rY]
 cases d2:decide (b<1) with
 | true =>
  simp -implicitDefEqProofs only [↓rY]
  refine aE S ⟨trivial,trivial⟩ rfl trivial ?_
  simp -implicitDefEqProofs only [rX,↓reduceIte,aU,aY,wfV]
 | false =>
 simp -implicitDefEqProofs only [↓rY]
 cases d3:decide (300<b) with
 | true =>
  simp -implicitDefEqProofs only [↓rY]
  refine aE S ⟨trivial,trivial⟩ rfl trivial ?_
  simp -implicitDefEqProofs only [rX,↓reduceIte,aU,aY,wfV]
 | false =>
 have d1':=of_decide_eq_false d1
 have d2':=of_decide_eq_false d2
 have d3':=of_decide_eq_false d3
 simp -implicitDefEqProofs only [↓rY]
 exact hN _ _ (by omega) (by omega) ⟨g0,g1,g2⟩
end
section
variable {t:Bs} {n m k:Nat} {N:St→Prop} {X:Nat→St→Prop} {e:Env} {bb:Nat}
theorem adH (ht:t.length≤300) (hn:1≤n∧n≤300) (hE:Eh t n m e) (hN:∀ e b',Eh t n m e→get e 7=.ptr 0 0 0→get e 8=.i 0→N ⟨e,[.var (mkM t n).enc],b'⟩):aw cT (pt 2 c10) N X iO ⟨e,[],bb⟩:=by
 obtain ⟨g0,g1,g2⟩:=hE
 obtain ⟨q1,q2,q3⟩:=fP (m:=mkM t n) eH
 obtain ⟨v1,v2,v3⟩:=fP (m:=yT) rfl
 have o:=Vr t n (by omega)
 rw [mk0 (by omega) (by omega)] at o
 conv=>arg 2;whnf
 simp -implicitDefEqProofs only [rX,↓reduceIte,Nat.reduceEqDiff,cxN,g0,g1]
 refine aE o ⟨⟨trivial,trivial,trivial⟩,rfl,rfl,trivial⟩ (by simp [ren,b9,uZ]) trivial ?_
 simp -implicitDefEqProofs only [rX,↓rY,aA,cells?,splice,↓reduceIte,Nat.reduceEqDiff,aD,zM,q1,Cv]
 rw [v1,v3,List.append_nil]
 refine ⟨Nat.le_refl _,hN _ _ ⟨g0,g1,g2⟩ ?_ ?_⟩<;>rfl
structure iZ (t:Bs) (n m:Nat):Prop where
 x1:t.length≤300
 x2:1≤n∧n≤300
 x3:m≤65535
def pW (t:Bs) (n k:Nat):V:=if k=0 then .v (.slice none 0 0) else aG (mT t n k)
theorem nG {h:List Blk} {g:Nat→Option Nat}:bG h g (pW t n k)∧wk (aG (mT t n k)) (cY h g (pW t n k)):=by
 unfold pW
 split
 ·rename_i h0
  subst h0
  refine ⟨trivial,?_⟩
  rw [Xb]
  rfl
 ·exact ⟨trivial,rfl,rfl⟩
theorem sD {M:List Nat}:kill M (pW t n k)=pW t n k:=by unfold pW;split<;>rfl
theorem Ip {q:List Blk}:wfV q (pW t n k):=by unfold pW;split<;>trivial
theorem Xa:pW t n (k+1)=aG (mT t n (k+1)):=if_neg (by omega)
structure l7 (t:Bs) (n m k:Nat) (e:Env):Prop where
 g0:get e 0=sv t
 g1:get e 1=.i n
 g2:get e 2=.v (.int .u16 m)
 g7:get e 7=.ptr 0 0 0
 g9:get e 9=pW t n k
 g40:get e 40=.i k
 g39:get e 39=.i (nb t.length n)
 g10:get e 10=.i k
abbrev hA (t:Bs) (n k:Nat):List Blk:=[.var (mkM t n).enc,.var (enS (spn t n k))]
abbrev oth (t:Bs) (n m:Nat):Nat:=m%nb t.length n
abbrev hA2 (t:Bs) (n m k:Nat):List Blk:=[.var (mkM t n).enc,.var (enS (spn t n k)),.var (enS (spn t n (oth t n m)))]
theorem acZ (hH:iZ t n m) (hk:k<nb t.length n) (hL:l7 t n m k e) (hN:∀ e b',l7 t n m k e→get e 11=.ptr 1 0 0→N ⟨e,hA t n k,b'⟩):aw cT (pt 1 b10) N X iO ⟨e,[.var (mkM t n).enc],bb⟩:=by
 obtain ⟨g0,g1,g2,g7,g9,g40,g39,g10⟩:=hL
 obtain ⟨h1,h2,h3⟩:=hH
 obtain ⟨q1,q2,q3⟩:=fP (m:=mkM t n) eH
 have o:=Qw (mkM t n) k (oC (by omega) (by omega)) eH
 rw [pG (by omega) (by omega) hk] at o
 conv=>arg 2;whnf
 simp -implicitDefEqProofs only [rX,↓rY,↓reduceIte,Nat.reduceEqDiff,cxN,g7,g10,q1,q2]
 refine aE o ⟨⟨cB.1,trivial,trivial⟩,cB.2,rfl,trivial⟩ rfl trivial ?_
 simp -implicitDefEqProofs only [rX,↓rY,aA,cells?,splice,↓reduceIte,Nat.reduceEqDiff,Nat.reduceAdd,aD,bE,fH]
 refine hN _ _ ⟨g0,g1,g2,g7,g9,g40,g39,g10⟩ ?_
 rfl
theorem acY (hH:iZ t n m) (hk:k<nb t.length n) (hL:l7 t n m k e) (g11:get e 11=.ptr 1 0 0) (hN:∀ e b',l7 t n m k e→get e 11=.ptr 1 0 0→get e 12=rD (prL t n k)→get e 13=.i 0→N ⟨e,hA t n k,b'⟩):aw cT (pt 2 b10) N X iO ⟨e,hA t n k,bb⟩:=by
 obtain ⟨g0,g1,g2,g7,g9,g40,g39,g10⟩:=hL
 obtain ⟨h1,h2,h3⟩:=hH
 have o:=Yz t n k (by omega)
 rw [(Or (by omega) (by omega) hk).2] at o
 conv=>arg 2;whnf
 simp -implicitDefEqProofs only [rX,↓reduceIte,Nat.reduceEqDiff,Nat.reduceAdd,cxN,g0,g1,g10]
 refine aE o ⟨⟨trivial,trivial,trivial,trivial⟩,rfl,rfl,rfl,trivial⟩ rfl trivial ?_
 simp -implicitDefEqProofs only [rX,↓rY,↓reduceIte,Nat.reduceEqDiff]
 refine hN _ _ ⟨g0,g1,g2,g7,g9,g40,g39,g10⟩ ?_ ?_ ?_
 ·exact g11
 ·rfl
 ·rfl
theorem acX (hH:iZ t n m) (hk:k<nb t.length n) (hL:l7 t n m k e) (g11:get e 11=.ptr 1 0 0) (g12:get e 12=rD (prL t n k)) (g13:get e 13=.i 0) (hN:∀ e b',l7 t n m k e→get e 11=.ptr 1 0 0→get e 12=rD (prL t n k)→N ⟨e,hA t n k,b'⟩):aw cT (pt 3 b10) N X iO ⟨e,hA t n k,bb⟩:=by
 obtain ⟨g0,g1,g2,g7,g9,g40,g39,g10⟩:=hL
 have hs:=xI hH.x2.1 hk
 conv=>arg 2;whnf
 simp -implicitDefEqProofs only [rX,↓rY,aA,↓reduceIte,Nat.reduceEqDiff,Nat.reduceAdd,reduceCtorEq,aU,aY,wfV,cxN,bQ,g0,g11,g13,enS,bne_self_eq_false,decide_eq_false (show ¬(spn t n k).1<0 by omega),decide_eq_false (show ¬(spn t n k).2≤(spn t n k).1 by omega),decide_eq_false (show ¬(t.length:Int)<(spn t n k).2 by omega)]
 exact hN _ _ ⟨g0,g1,g2,g7,g9,g40,g39,g10⟩ g11 g12
theorem acW (hH:iZ t n m) (hk:k<nb t.length n) (hL:l7 t n m k e) (g11:get e 11=.ptr 1 0 0) (g12:get e 12=rD (prL t n k)) (hN:∀ e b',l7 t n m k e→get e 11=.ptr 1 0 0→get e 12=rD (prL t n k)→get e 14=sv (bk t n k)→N ⟨e,hA t n k,b'⟩):aw cT (pt 4 b10) N X iO ⟨e,hA t n k,bb⟩:=by
 obtain ⟨g0,g1,g2,g7,g9,g40,g39,g10⟩:=hL
 have hs:=xI hH.x2.1 hk
 conv=>arg 2;whnf
 simp -implicitDefEqProofs only [rX,↓rY,zD,↓reduceIte,Nat.reduceEqDiff,Nat.reduceAdd,cP,cxN,bQ,g0,g11,enS]
 have e1:(sb t).extract (spn t n k).1.toNat (spn t n k).2.toNat=sb (bk t n k):=by rw [eQ,Wz hH.x2.1 hk]
 rw [e1]
 refine ⟨⟨⟨by omega,by omega⟩,by omega,by omega⟩,hN _ _ ⟨g0,g1,g2,g7,g9,g40,g39,g10⟩ ?_ ?_ ?_⟩
 ·exact g11
 ·exact g12
 ·rfl
theorem acV (hH:iZ t n m) (hk:k<nb t.length n) (hL:l7 t n m k e) (g11:get e 11=.ptr 1 0 0) (g12:get e 12=rD (prL t n k)) (g14:get e 14=sv (bk t n k)) (hN:∀ e b',l7 t n m k e→get e 11=.ptr 1 0 0→get e 12=rD (prL t n k)→get e 14=sv (bk t n k)→get e 15=.i (oth t n m:Nat)→N ⟨e,hA t n k,b'⟩):aw cT (pt 5 b10) N X iO ⟨e,hA t n k,bb⟩:=by
 obtain ⟨g0,g1,g2,g7,g9,g40,g39,g10⟩:=hL
 obtain ⟨h1,h2,h3⟩:=hH
 obtain ⟨q1,q2,q3⟩:=fP (m:=mkM t n) eH
 have o:=Jl (mkM t n) (oC (by omega) (by omega))
 rw [Ct (by omega) (by omega)] at o
 conv=>arg 2;whnf
 simp -implicitDefEqProofs only [rX,↓rY,↓reduceIte,Nat.reduceEqDiff,Nat.reduceAdd,cxN,g2,g7,q1,q2]
 refine ⟨by simp only [lo,Fx.hi];omega,?_⟩
 refine aE o m8 rfl trivial ?_
 simp -implicitDefEqProofs only [rX,↓rY,↓reduceIte,Nat.reduceEqDiff]
 refine ⟨by omega,hN _ _ ⟨g0,g1,g2,g7,g9,g40,g39,g10⟩ ?_ ?_ ?_ ?_⟩
 ·exact g11
 ·exact g12
 ·exact g14
 ·rfl
structure nU (t:Bs) (n m k:Nat) (e:Env):Prop where
 L:l7 t n m k e
 g11:get e 11=.ptr 1 0 0
 g12:get e 12=rD (prL t n k)
 g14:get e 14=sv (bk t n k)
 g15:get e 15=.i (oth t n m:Nat)
 g16:get e 16=.ptr 2 0 0
theorem Mh (hk:k<nb t.length n):oth t n m<nb t.length n:=Nat.mod_lt _ (by omega)
theorem acU (hH:iZ t n m) (hk:k<nb t.length n) (hL:l7 t n m k e) (g11:get e 11=.ptr 1 0 0) (g12:get e 12=rD (prL t n k)) (g14:get e 14=sv (bk t n k)) (g15:get e 15=.i (oth t n m:Nat)) (hN:∀ e b',nU t n m k e→N ⟨e,hA2 t n m k,b'⟩):aw cT (pt 6 b10) N X iO ⟨e,hA t n k,bb⟩:=by
 obtain ⟨g0,g1,g2,g7,g9,g40,g39,g10⟩:=hL
 obtain ⟨h1,h2,h3⟩:=hH
 obtain ⟨q1,q2,q3⟩:=fP (m:=mkM t n) eH
 have o:=Qw (mkM t n) (oth t n m:Nat) (oC (by omega) (by omega)) eH
 rw [pG (by omega) (by omega) (Mh hk)] at o
 conv=>arg 2;whnf
 simp -implicitDefEqProofs only [rX,↓rY,↓reduceIte,Nat.reduceEqDiff,Nat.reduceAdd,cxN,g7,g15,q1,q2]
 refine aE o ⟨⟨cB.1,trivial,trivial⟩,cB.2,rfl,trivial⟩ rfl trivial ?_
 simp -implicitDefEqProofs only [rX,↓rY,aA,cells?,splice,↓reduceIte,Nat.reduceEqDiff,Nat.reduceAdd,aD,bE,fH]
 refine hN _ _ ⟨⟨g0,g1,g2,g7,g9,g40,g39,g10⟩,g11,g12,g14,g15,?_⟩
 rfl
theorem Wa {M:Man} {k:Int} {p:Bs} {l:List Bs} {h:List Blk} {g:Nat→Option Nat}:aM h g [V.agg M.enc,.i k,sv p,rD l]∧wkL [V.agg M.enc,.i k,sv p,rD l] (aX h g [V.agg M.enc,.i k,sv p,rD l]):=⟨⟨cB.1,trivial,trivial,trivial,trivial⟩,cB.2,rfl,rfl,⟨rfl,rfl⟩,trivial⟩
theorem pJ (h1:t.length≤300) (h2:1≤n∧n≤300) (hk:k<nb t.length n):D16 (prL t n k)∧(prL t n k).length≤1000000000:=by
 have hn:=xT (n:=t.length) h2.1
 have e:prL t n k=eB (lvs t n) k:=by
  unfold prL;rw [if_neg (by rw [mk0 (by omega) (by omega)];decide),yaa]
  unfold inL
  rw [fG,if_neg (by omega),yaa]
 rw [e]
 refine ⟨Wg _ _ _ rfl Cw,?_⟩
 have:=Ai (l:=lvs t n) (i:=k) (by rw [fG];exact hk)
 rw [fG] at this
 omega
theorem acT (hH:iZ t n m) (hk:k<nb t.length n) (hK:nU t n m k e) (hN:∀ e b',nU t n m k e→N ⟨e,hA2 t n m k,b'⟩):aw cT (pt 7 b10) N X iO ⟨e,hA2 t n m k,bb⟩:=by
 obtain ⟨⟨g0,g1,g2,g7,g9,g40,g39,g10⟩,g11,g12,g14,g15,g16⟩:=hK
 obtain ⟨h1,h2,h3⟩:=hH
 obtain ⟨q1,q2,q3⟩:=fP (m:=mkM t n) eH
 have hbl:(bk t n k).length≤300:=by rw [oN];omega
 have hpos:1≤(bk t n k).length:=by
  have:=xI h2.1 hk
  have:=Bh h2.1 hk
  omega
 obtain ⟨hD,hpl⟩:=pJ h1 h2 hk
 have o1:=Ml (mkM t n) k (bk t n k) (prL t n k) (oC (by omega) (by omega)) eH (by omega) hD hpl
 rw [(Or (by omega) (by omega) hk).1] at o1
 have o2:=Ml (mkM t n) k ((bk t n k).drop 1) (prL t n k) (oC (by omega) (by omega)) eH (by simp;omega) hD hpl
 rw [Dr (by omega) (by omega) hk (by
  have:=Bh h2.1 hk
  rw [List.length_drop]
  omega)] at o2
 have e1:(sb (bk t n k)).extract 1 (bk t n k).length=sb ((bk t n k).drop 1):=by rw [eQ,List.take_length]
 conv=>arg 2;whnf
 simp -implicitDefEqProofs only [rX,↓rY,rdK,↓reduceIte,Nat.reduceEqDiff,Nat.reduceAdd,cxN,g7,g10,g12,g14,q1,q2]
 refine aE o1 Wa rfl (by simp [aC,aB]) ?_
 simp -implicitDefEqProofs only [rX,↓rY,qs,rdK,aA,↓reduceIte,Nat.reduceEqDiff,Nat.reduceAdd,cP,aU,aY,wfV,yaa,bQ,g7,g10,g12,g14,q1,q2,bne_self_eq_false]
 rw [show Int.toNat 1=1 from rfl,e1]
 refine ⟨⟨⟨by omega,by omega⟩,by omega⟩,?_⟩
 refine aE o2 Wa rfl (by simp [aC,aB]) ?_
 simp -implicitDefEqProofs only [rX,↓rY,aA,↓reduceIte,Nat.reduceEqDiff,Nat.reduceAdd,aU,aY,wfV,bne_self_eq_false]
 exact hN _ _ ⟨⟨g0,g1,g2,g7,g9,g40,g39,g10⟩,g11,g12,g14,g15,g16⟩
theorem acS (hH:iZ t n m) (hk:k<nb t.length n) (hK:nU t n m k e) (hN:∀ e b',nU t n m k e→get e 17=.i (chE (mkM t n) (oth t n m:Nat) (bk t n k) (prL t n k))→N ⟨e,hA2 t n m k,b'⟩):aw cT (pt 8 b10) N X iO ⟨e,hA2 t n m k,bb⟩:=by
 obtain ⟨⟨g0,g1,g2,g7,g9,g40,g39,g10⟩,g11,g12,g14,g15,g16⟩:=hK
 obtain ⟨h1,h2,h3⟩:=hH
 obtain ⟨q1,q2,q3⟩:=fP (m:=mkM t n) eH
 have hbl:(bk t n k).length≤300:=by rw [oN];omega
 obtain ⟨hD,hpl⟩:=pJ h1 h2 hk
 have o1:=Ml (mkM t n) (oth t n m:Nat) (bk t n k) (prL t n k) (oC (by omega) (by omega)) eH (by omega) hD hpl
 conv=>arg 2;whnf
 simp -implicitDefEqProofs only [rX,↓rY,↓reduceIte,Nat.reduceEqDiff,Nat.reduceAdd,cxN,g7,g12,g14,g15,q1,q2]
 refine aE o1 Wa rfl trivial ?_
 simp -implicitDefEqProofs only [rX,↓reduceIte]
 refine hN _ _ ⟨⟨g0,g1,g2,g7,g9,g40,g39,g10⟩,g11,g12,g14,g15,g16⟩ ?_
 rfl
theorem acR (hH:iZ t n m) (hk:k<nb t.length n) (hK:nU t n m k e) (g17:get e 17=.i (chE (mkM t n) (oth t n m:Nat) (bk t n k) (prL t n k))) (hN:∀ e b',nU t n m k e→N ⟨e,hA2 t n m k,b'⟩):aw cT (pt 9 b10) N X iO ⟨e,hA2 t n m k,bb⟩:=by
 obtain ⟨⟨g0,g1,g2,g7,g9,g40,g39,g10⟩,g11,g12,g14,g15,g16⟩:=hK
 obtain ⟨h1,h2,h3⟩:=hH
 have hlt:=Mh (m:=m) hk
 have hs:=xI h2.1 hlt
 conv=>arg 2;whnf
 simp -implicitDefEqProofs only [rX,↓rY,aA,↓reduceIte,Nat.reduceEqDiff,Nat.reduceAdd,aU,aY,wfV,cxN,g10,g15]
 cases d1:((oth t n m:Int) != (k:Int)) with
 | false =>
  simp -implicitDefEqProofs only [↓rY]
  exact hN _ _ ⟨⟨g0,g1,g2,g7,g9,g40,g39,g10⟩,g11,g12,g14,g15,g16⟩
 | true =>
 simp -implicitDefEqProofs only [rX,↓rY,g17]
 cases d2:(chE (mkM t n) (oth t n m:Nat) (bk t n k) (prL t n k)==0) with
 | false =>
  simp -implicitDefEqProofs only [↓rY]
  exact hN _ _ ⟨⟨g0,g1,g2,g7,g9,g40,g39,g10⟩,g11,g12,g14,g15,g16⟩
 | true =>
 have hc:chE (mkM t n) (oth t n m:Nat) (bk t n k) (prL t n k)=0:=by simpa using d2
 have hlen:((bk t n k).length:Int)=(spn t n (oth t n m)).2-(spn t n (oth t n m)).1:=by
  apply Classical.byContradiction
  intro hne
  rw [Dr (by omega) (by omega) hlt hne] at hc
  exact absurd hc (by decide)
 simp -implicitDefEqProofs only [rX,↓rY,bQ,g14,g16,enS,hlen,bne_self_eq_false]
 refine ⟨by simp only [lo,Fx.hi];omega,?_⟩
 exact hN _ _ ⟨⟨g0,g1,g2,g7,g9,g40,g39,g10⟩,g11,g12,g14,g15,g16⟩
abbrev hA3 (t:Bs) (n m k:Nat):List Blk:=[.var (mkM t n).enc,.var (enS (spn t n k)),.var (enS (spn t n (oth t n m))),.dead]
theorem Xk (hH:iZ t n m) (hk:k<nb t.length n) (hK:nU t n m k e) (hN:∀ e b',nU t n m k e→N ⟨e,hA3 t n m k,b'⟩):aw cT (pt 10 b10) N X iO ⟨e,hA2 t n m k,bb⟩:=by
 obtain ⟨⟨g0,g1,g2,g7,g9,g40,g39,g10⟩,g11,g12,g14,g15,g16⟩:=hK
 obtain ⟨h1,h2,h3⟩:=hH
 have hbd:BdS (spn t n k):=by
  have:=xI h2.1 hk
  unfold BdS
  omega
 conv=>arg 2;whnf
 simp -implicitDefEqProofs only [rX,↓rY,cells?,↓reduceIte,Nat.reduceEqDiff,Nat.reduceAdd,aD,bU,isD,Nat.reduceLT,cxN,g9,g11,enS]
 refine cZ [3] [0] [3] [.sl 0 0 1] (aG (ofS [spn t n k])) (aG (ofS [spn t n k])) [.arr 2 [enS (spn t n k)]] [.dead] (hA3 t n m k) _ (Hk [spn t n k] (by simp) (Hu hbd)) (by simp) (by simp) (by simp [blk,bJ,enS]) (by simp [aM,bG,aX,cY,wkL,wk,wkR,pos]) (by simp [bM,bJ,aS,eU,kill,a8,enS]) rfl rfl trivial ?_
 simp -implicitDefEqProofs only [rX,↓reduceIte,Nat.reduceEqDiff,aP,kill,a8,St.kill]
 rw [sD]
 refine aE (adV (mT t n k) (ofS [spn t n k]) (Bj (by omega)) (Kt hbd)) ⟨⟨nG.1,trivial,trivial⟩,nG.2,⟨rfl,rfl⟩,trivial⟩ rfl trivial ?_
 rw [Jw h2.1 hk]
 simp -implicitDefEqProofs only [rX,↓reduceIte]
 refine aE (adX [] Ua) sp1 rfl trivial ?_
 simp -implicitDefEqProofs only [rX,↓rY,aA,↓reduceIte,Nat.reduceAdd,aU,aY,wfV,Gx,Int.lt_irrefl,decide_false]
 refine hN _ _ ⟨⟨?_,?_,?_,?_,?_,?_,?_,?_⟩,?_,?_,?_,?_,?_⟩
 all_goals first
  | (show get (aP [3] e) 0=_;rw [aO,g0];rfl)
  | (show get (aP [3] e) 1=_;rw [aO,g1];rfl)
  | (show get (aP [3] e) 2=_;rw [aO,g2];rfl)
  | (show get (aP [3] e) 7=_;rw [aO,g7];rfl)
  | (show get (aP [3] e) 9=_;rw [aO,g9];exact sD)
  | (show get (aP [3] e) 40=_;rw [aO,g40];rfl)
  | (show get (aP [3] e) 39=_;rw [aO,g39];rfl)
  | (show get (aP [3] e) 10=_;rw [aO,g10];rfl)
  | (show get (aP [3] e) 11=_;rw [aO,g11];rfl)
  | (show get (aP [3] e) 12=_;rw [aO,g12];rfl)
  | (show get (aP [3] e) 14=_;rw [aO,g14];rfl)
  | (show get (aP [3] e) 15=_;rw [aO,g15];rfl)
  | (show get (aP [3] e) 16=_;rw [aO,g16];rfl)
theorem Pd (h1:t.length≤300):(mT t n k).length≤4398046511103:=by
 have:=(Bj (t:=t) (b:=n) (k:=k) (by omega)).len
 omega
theorem Xj (hH:iZ t n m) (hk:k<nb t.length n) (hK:nU t n m k e) (hN:∀ e b',get e 0=sv t→get e 1=.i n→get e 2=.v (.int .u16 m)→get e 7=.ptr 0 0 0→get e 9=pW t n (k+1)→get e 40=.i k→get e 39=.i (nb t.length n)→N ⟨e,hA3 t n m k,b'⟩):aw cT (rt 11 b10) N X iO ⟨e,hA3 t n m k,bb⟩:=by
 obtain ⟨⟨g0,g1,g2,g7,g9,g40,g39,g10⟩,g11,g12,g14,g15,g16⟩:=hK
 obtain ⟨h1,h2,h3⟩:=hH
 have hs:=xI h2.1 hk
 have o:=adT (mT t n k) (spn t n k) (Pd h1) fE (by
  intro s hs2
  rcases List.mem_append.1 hs2 with h|h
  ·have:=(Bj (t:=t) (b:=n) (k:=k) (by omega)).2 s h
   omega
  ·simp at h;subst h;omega)
 rw [Pe h2.1 hk] at o
 conv=>arg 2;whnf
 simp -implicitDefEqProofs only [rX,↓rY,↓reduceIte,Nat.reduceEqDiff,Nat.reduceAdd,cxN,g9,g11,enS]
 refine aE o ⟨⟨nG.1,⟨trivial,trivial,trivial⟩,trivial⟩,nG.2,⟨rfl,rfl,trivial⟩,trivial⟩ rfl trivial ?_
 simp -implicitDefEqProofs only [rX,↓reduceIte]
 refine hN _ _ ?_ ?_ ?_ ?_ ?_ ?_ ?_
 ·exact g0
 ·exact g1
 ·exact g2
 ·exact g7
 ·rw [Xa];rfl
 ·exact g40
 ·exact g39
theorem adG (hH:iZ t n m) (hE:Eh t n m e) (g7:get e 7=.ptr 0 0 0) (g9:get e 9=.v (.slice none 0 0)) (hN:∀ e b',get e 0=sv t→get e 9=pW t n (nb t.length n)→N ⟨e,[.var (mkM t n).enc],b'⟩):aw cT (pt 5 c10) N X iO ⟨e,[.var (mkM t n).enc],bb⟩:=by
 obtain ⟨g0,g1,g2⟩:=hE
 obtain ⟨q1,q2,q3⟩:=fP (m:=mkM t n) eH
 obtain ⟨h1,h2,h3⟩:=id hH
 have o:=Jl (mkM t n) (oC (by omega) (by omega))
 rw [Ct (by omega) (by omega)] at o
 conv=>arg 2;whnf
 simp -implicitDefEqProofs only [rX,↓rY,↓reduceIte,cxN,g7,q1,q2]
 refine aE o m8 rfl trivial ?_
 simp -implicitDefEqProofs only [rX,aA]
 refine gD (fun k:Nat=>(⟨[(40,.i k),(39,.i (nb t.length n)),(9,pW t n k),(7,.ptr 0 0 0),(2,.v (.int .u16 m)),(1,.i n),(0,sv t)],[.var (mkM t n).enc],0⟩:St)) (fun k=>k≤nb t.length n) (fun k=>nb t.length n-k) 0 (Nat.zero_le _) ?_ ?_
 ·simp -implicitDefEqProofs only [rX,↓reduceIte,Nat.reduceEqDiff,reduceCtorEq,leE,leH,leB,aC,aB,wfE,wfB,wfV,g0,g1,g2,g7,g9,mJ]
  exact ⟨⟨rfl,rfl⟩,cJ _,Ip⟩
 intro k hk M hM
 rw [c10l0_parts]
 simp only [qK]
 conv=>arg 2;whnf
 simp -implicitDefEqProofs only [rX,↓rY,↓reduceIte,Nat.reduceEqDiff]
 conv=>arg 2;whnf
 simp -implicitDefEqProofs only [rX,↓reduceIte]
 cases hd:decide ((k:Int)<(nb t.length n:Int)) with
 | false =>
  have hd':=of_decide_eq_false hd
  have:k=nb t.length n:=by omega
  subst this
  simp -implicitDefEqProofs only [↓rY]
  refine hN _ _ rfl rfl
 | true =>
  have hd':=of_decide_eq_true hd
  have hkl:k<nb t.length n:=by omega
  simp -implicitDefEqProofs only [↓rY]
  conv=>arg 2;whnf
  simp -implicitDefEqProofs only [rX,↓reduceIte,Nat.reduceEqDiff]
  refine acZ hH hkl ⟨rfl,rfl,rfl,rfl,rfl,rfl,rfl,rfl⟩ fun e b hL g11=>?_
  rw [qK]
  refine acY hH hkl hL g11 fun e b hL g11 g12 g13=>?_
  rw [qK]
  refine acX hH hkl hL g11 g12 g13 fun e b hL g11 g12=>?_
  rw [qK]
  refine acW hH hkl hL g11 g12 fun e b hL g11 g12 g14=>?_
  rw [qK]
  refine acV hH hkl hL g11 g12 g14 fun e b hL g11 g12 g14 g15=>?_
  rw [qK]
  refine acU hH hkl hL g11 g12 g14 g15 fun e b hK=>?_
  rw [qK]
  refine acT hH hkl hK fun e b hK=>?_
  rw [qK]
  refine acS hH hkl hK fun e b hK g17=>?_
  rw [qK]
  refine acR hH hkl hK g17 fun e b hK=>?_
  rw [qK]
  refine Xk hH hkl hK fun e b hK=>?_
  refine Xj hH hkl hK fun e b g0 g1 g2 g7 g9 g40 g39=>?_
  have hnb:=xT (n:=t.length) h2.1
  conv=>arg 2;whnf
  simp -implicitDefEqProofs only [rX,↓rY,aA,↓reduceIte,Nat.reduceAdd,g40]
  refine ⟨⟨by simp only [lo];omega,by simp only [Fx.hi];omega⟩,hM _ (k+1) (by omega) (by omega) ?_⟩
  simp -implicitDefEqProofs only [rX,↓reduceIte,Nat.reduceEqDiff,reduceCtorEq,leE,leH,leB,aC,aB,wfE,wfB,wfV,g0,g1,g2,g7,g9,g39,mJ]
  exact ⟨by omega,cJ _,Ip⟩
theorem adF (S:S13) (hH:iZ t n m) (g0:get e 0=sv t) (g9:get e 9=pW t n (nb t.length n)):aw cT (rt 6 c10) N X iO ⟨e,[.var (mkM t n).enc],bb⟩:=by
 obtain ⟨h1,h2,h3⟩:=id hH
 have hmid:Mid [((0:Int),(t.length:Int))]:=by intro s hs;simp at hs;subst hs;simp only;omega
 conv=>arg 2;whnf
 simp -implicitDefEqProofs only [rX,cxN]
 refine aE S ⟨trivial,trivial⟩ rfl trivial ?_
 simp -implicitDefEqProofs only [rX,↓rY,cells?,splice,↓reduceIte,Nat.reduceEqDiff,Nat.reduceAdd,reduceCtorEq,aD,bY,bU,isD,Nat.reduceLT,bQ,g0,g9]
 refine cZ [1] [0] [1] [.sl 0 0 1] (aG (ofS [(0,(t.length:Int))])) (aG (ofS [(0,(t.length:Int))])) [.arr 2 [enS (0,(t.length:Int))]] [.dead] [.var (mkM t n).enc,.dead] _ (Hk [(0,(t.length:Int))] (by simp) hmid) (by simp) (by simp) (by simp [blk,bJ,enS]) (by simp [aM,bG,aX,cY,wkL,wk,wkR,pos]) (by simp [bM,bJ,aS,eU,kill,a8,enS]) rfl rfl trivial ?_
 simp -implicitDefEqProofs only [rX,↓rY,↓reduceIte,Nat.reduceEqDiff,aP,kill,a8,St.kill]
 have o:=Zf (mT t n (nb t.length n)) (ofS [(0,(t.length:Int))])
 rw [pX h2.1,beq_self_eq_true,←pX h2.1] at o
 rw [sD]
 rw [pX h2.1] at o
 refine aE o ⟨⟨nG.1,trivial,trivial⟩,(by rw [←pX h2.1];exact nG.2),⟨rfl,rfl⟩,trivial⟩ rfl trivial ?_
 simp -implicitDefEqProofs only [rX,↓rY,↓reduceIte,Nat.reduceEqDiff,aU,aY,wfV]
end
theorem aeE (S:S13) (t:Bs) (b:Int) (m:Nat) (hm:m≤65535):Ok 10 [sv t,.i b,.v (.int .u16 m)] (Is (.b true)):=by
 refine bW lw10 (by simp) ?_
 rw [c10_parts]
 simp -implicitDefEqProofs only [qK]
 conv=>arg 2;whnf
 simp -implicitDefEqProofs only [rX,aA,Nat.reduceAdd,cxN,aL]
 refine adI S (t:=t) (b:=b) (m:=m) ⟨rfl,rfl,rfl⟩ fun e _ x1 x2 hE=>?_
 obtain ⟨n,rfl⟩:∃ n:Nat,b=n:=⟨b.toNat,by omega⟩
 have hH:iZ t n m:=⟨x1,by omega,hm⟩
 simp -implicitDefEqProofs only [qK]
 refine adH x1 hH.x2 hE fun e _ hE g7 g8=>?_
 simp -implicitDefEqProofs only [qK]
 conv=>arg 2;whnf
 simp -implicitDefEqProofs only [rX,↓rY,aA,↓reduceIte,aU,aY,wfV,g8,bne_self_eq_false]
 conv=>arg 2;whnf
 simp -implicitDefEqProofs only [rX,aA]
 refine adG hH ⟨hE.g0,hE.g1,hE.g2⟩ g7 rfl fun e _ g0 g9=>?_
 exact adF S hH g0 g9
theorem fn10:∀ xs,WfA [.str,tI,.int .u16] xs→Fn Tryz.prog 10 xs [] [] (fun r _=>r=.b true):=by
 intro xs h
 obtain ⟨x1,_,rfl,h1,x2,_,rfl,h2,x3,_,rfl,h3,h⟩:=h
 obtain rfl:_=[]:=h
 obtain ⟨t,rfl⟩:=Tw h1
 obtain ⟨b,rfl,_⟩:=Tx h2
 obtain ⟨m,rfl,hm⟩:=Tv h3
 exact aaR (aeE aeD t b m hm)
end Go.Fx.H
