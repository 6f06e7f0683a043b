import Derived.Test.YtebjeeogjepcaaaGreatDoorT51
import Derived.Test.YtebjeeogjepcaaaGreatDoorHLow0
set_option linter.unusedVariables false
set_option linter.unusedSimpArgs false
set_option linter.unusedSectionVars false
open List renaming take_of_length_le → yaa
open Nat renaming not_lt_zero → yab
namespace Go.Fx.H
open Go Go.Fx Go.Proofs Go.Fx.R
set_option maxRecDepth 20000
theorem c13_parts:c13=.seq (pt 0 c13) (.seq (pt 1 c13) (.seq (pt 2 c13) (.seq (pt 3 c13) (.seq (pt 4 c13) (.seq (pt 5 c13) (.seq (pt 6 c13) (.seq (pt 7 c13) (.seq (pt 8 c13) (.seq (pt 9 c13) (.seq (pt 10 c13) (rt 11 c13))))))))))):=by rfl
theorem Kd:xM.okP:=by decide
theorem Ed:xM.rt.length=16:=by
 show (root [l0,l1,l2]).length=16
 rw [Kc];exact lQ
theorem Sf:V.v (.string ⟨#[97,98,99,100,101,102,103,104,105,106]⟩)=sv xA:=rfl
section
variable {N R:St→Prop} {X:Nat→St→Prop} {e:Env} {bb:Nat}
theorem xW {h:List Blk} {g:Nat→Option Nat} {x y:List V}:aZ h g (x++y)=aZ h g x++aZ h g y:=by
 induction x with
 | nil=>rfl
 | cons u r ih=>simp [aZ,ih]
theorem sP {h:List Blk} {g:Nat→Option Nat} {x y:List V} (h1:aM h g x) (h2:aM h g y):aM h g (x++y):=by
 induction x with
 | nil=>exact h2
 | cons u r ih=>exact ⟨h1.1,ih h1.2⟩
theorem Bn {h:List Blk} {g:Nat→Option Nat} {l:Bs}:aZ h g (us l)=us l:=by
 unfold us
 induction l with
 | nil=>rfl
 | cons x r ih=>simp [aZ,dF,ih]
theorem m6 {h:List Blk} {g:Nat→Option Nat} {a b:Bs} {s:Int} {l:List Op}:aM h g (pe a b s (rO l))∧wkL (pe a b s (rO l)) (aZ h g (pe a b s (rO l))):=by
 constructor
 ·unfold pe
  exact sP dV.1 (sP dV.1 ⟨trivial,trivial,trivial⟩)
 ·have:aZ h g (pe a b s (rO l))=pe a b s (rO l):=by
   unfold pe
   rw [xW,xW,Bn,Bn];rfl
  rw [this]
  exact Ma ⟨rfl,rfl⟩
theorem eqS {s:Sp} {a b:Int} {K:Bool→Prop}:(cP (k6 (.agg (enS s))) fun xs=>cP (k6 (.agg [V.v (.int .i64 a),V.v (.int .i64 b)])) fun ys=>eV xs ys [(0,.int .i64),(1,.int .i64)] K)=K (s==(a,b)):=by
 have e:(s==(a,b))=((s.1==a)&&((s.2==b)&&true)):=by
  obtain ⟨x,y⟩:=s
  rw [Bool.and_true];rfl
 rw [e]
 exact propext ⟨fun h=>h.2.2,fun h=>⟨⟨rfl,rfl⟩,⟨rfl,rfl⟩,h⟩⟩
theorem Wh {s:Op} {a b:Int} {c:Bs} {K:Bool→Prop}:(cP (k6 (.agg [.i s.1,.i s.2.1,sv s.2.2])) fun xs=>cP (k6 (.agg [V.v (.int .i64 a),V.v (.int .i64 b),sv c])) fun ys=>eV xs ys [(0,.int .i64),(1,.int .i64),(2,.string)] K)=K (s==(a,b,c)):=eqO (y:=(a,b,c))
theorem Xu (hN:∀ e b,get e 1=.ptr 0 0 0→get e 2=.i 0→N ⟨e,[.var xM.enc],b⟩):aw cE (pt 1 c13) N X R ⟨e,[],bb⟩:=by
 conv=>arg 2;whnf
 simp -implicitDefEqProofs only [rX,aA,cxN,Sf]
 have o:=Yn xA 4 (by decide)
 rw [x_M,h3] at o
 obtain ⟨q1,q2,q3⟩:=nT (m:=xM) Ed
 refine aD o ⟨⟨trivial,trivial,trivial⟩,rfl,rfl,trivial⟩ (by simp [ren,cD,Co]) trivial ?_
 simp -implicitDefEqProofs only [rX,↓rY,aA,cells?,splice,↓reduceIte,Nat.reduceEqDiff,aE,zM,q1,Hq]
 obtain ⟨v1,v2,v3⟩:=nT (m:=Bg) rfl
 rw [v1,v3,List.append_nil]
 exact ⟨Nat.le_refl _,hN _ _ rfl rfl⟩
theorem Xt (g1:get e 1=.ptr 0 0 0) (g2:get e 2=.i 0) (hN:∀ e b,get e 1=.ptr 0 0 0→get e 2=.i 0→get e 3=rD [nd l0 l1]→get e 4=.i 0→N ⟨e,[.var xM.enc],b⟩):aw cE (pt 2 c13) N X R ⟨e,[.var xM.enc],bb⟩:=by
 conv=>arg 2;whnf
 simp -implicitDefEqProofs only [rX,aA,cxN,Sf]
 have o:=adB xA 4 2 (by decide)
 rw [x_P.1,x_P.2] at o
 refine aD o ⟨⟨trivial,trivial,trivial,trivial⟩,rfl,rfl,rfl,trivial⟩ rfl trivial ?_
 simp -implicitDefEqProofs only [rX,↓rY,↓reduceIte,Nat.reduceEqDiff]
 refine hN _ _ ?_ ?_ ?_ ?_
 ·exact g1
 ·exact g2
 ·rfl
 ·rfl
theorem Xs (g1:get e 1=.ptr 0 0 0) (g2:get e 2=.i 0) (g3:get e 3=rD [nd l0 l1]) (g4:get e 4=.i 0) (hN:∀ e b,get e 1=.ptr 0 0 0→get e 5=.b true→N ⟨e,[.var xM.enc],b⟩):aw cE (pt 3 c13) N X R ⟨e,[.var xM.enc],bb⟩:=by
 obtain ⟨q1,q2,q3⟩:=nT (m:=xM) Ed
 conv=>arg 2;whnf
 simp -implicitDefEqProofs only [rX,↓rY,aA,↓reduceIte,Nat.reduceEqDiff,cxN,g1,g2,g4,q1,q2,beq_self_eq_true]
 have e1:xM.n=3:=by decide
 have e2:xM.span 2=(8,10):=by decide
 have dP:D16 [nd l0 l1]:=by intro d hd;simp at hd;subst hd;exact lQ
 have o1:=Qp xM Kd
 have o2:=Ym xM 2 Kd Ed
 have o3:=Yl xM 2 [105,106] [nd l0 l1] Kd Ed (by decide) dP (by decide)
 have o4:=Yl xM 2 [105,120] [nd l0 l1] Kd Ed (by decide) dP (by decide)
 rw [e1] at o1
 rw [e2] at o2
 rw [x_C] at o3
 rw [acG] at o4
 refine aD o1 tN rfl trivial ?_
 simp -implicitDefEqProofs only [rX,↓rY,aA,↓reduceIte,Nat.reduceEqDiff,g1,q1,q2,beq_self_eq_true]
 refine aD o2 ⟨⟨dH.1,trivial,trivial⟩,dH.2,rfl,trivial⟩ rfl trivial ?_
 simp -implicitDefEqProofs only [rX,↓rY,aA,cells?,splice,↓reduceIte,Nat.reduceEqDiff,Nat.reduceAdd,bZ,Nat.reduceLeDiff,g1,g3,q1,q2]
 rw [eqS,beq_self_eq_true,kb]
 refine aD o3 ⟨⟨dH.1,trivial,trivial,trivial,trivial⟩,dH.2,rfl,rfl,⟨rfl,rfl⟩,trivial⟩ rfl trivial ?_
 simp -implicitDefEqProofs only [rX,↓rY,aA,↓reduceIte,Nat.reduceEqDiff,g1,g3,q1,q2,beq_self_eq_true,kb]
 refine aD o4 ⟨⟨dH.1,trivial,trivial,trivial,trivial⟩,dH.2,rfl,rfl,⟨rfl,rfl⟩,trivial⟩ rfl trivial ?_
 simp -implicitDefEqProofs only [rX,↓rY,aA,↓reduceIte,Nat.reduceEqDiff,beq_self_eq_true,kb]
 refine hN _ _ ?_ ?_
 ·exact g1
 ·rfl
theorem Yq (l:List Sp) (most:Int) (hl:l.length≤40) (hm:most≤9223372036854775807):OkN Tryz.prog 17 [.sl 0 0 l.length,.i most] [.arr 2 (l.map enS)] [0] (IsA (.tup [aL (nM l most),.i (xD l most)]) [.dead]):=by
 have ht:List.take l.length (l.map enS)=l.map enS:=yaa (by simp)
 exact y5 (xs:=[.sl 0 0 l.length,.i most]) (h0:=[.arr 2 (l.map enS)]) (Yr l most hl hm) (by simp [gvL,gvV,wkL,wk,wkR,blk,ht])
theorem Su (a l:List Sp):OkN Tryz.prog 16 [aL a,.sl 0 0 l.length] [.arr 2 (l.map enS)] [0] (IsA (.b (a==l)) [.dead]):=by
 have ht:List.take l.length (l.map enS)=l.map enS:=yaa (by simp)
 exact y5 (xs:=[aL a,.sl 0 0 l.length]) (h0:=[.arr 2 (l.map enS)]) (adE a l) (by simp [gvL,gvV,wkL,wk,wkR,blk,ht])
theorem Yx (m:Man) (ls:List Bs) (t:Bs) (l:List Sp) (hm:m.okP) (hr:m.rt.length=16) (hD:D16 ls) (hl:ls.length≤1000000000) (ht:t.length≤1000000000) (hh:l.length≤1000000000) :
  OkN Tryz.prog 14 [.agg m.enc,.ro 16 (ls.map us),sv t,.sl 0 0 l.length] [.arr 2 (l.map enS)] [0] (IsA (.tup [aL (dmL m ls t l),.i (dmE m ls t l)]) [.dead]):=by
 have ht2:List.take l.length (l.map enS)=l.map enS:=yaa (by simp)
 refine y5 (xs:=[.agg m.enc,.ro 16 (ls.map us),sv t,.sl 0 0 l.length]) (h0:=[.arr 2 (l.map enS)]) (adF m ls t l hm hr hD hl ht hh) ?_
 have hg:gvL (fun _=>true) [.arr 2 (l.map enS)] m.enc=m.enc:=Vr
 simp [gvL,gvV,wkL,wk,wkR,blk,ht2,hg]
 exact ⟨⟨rfl,rfl,Ko⟩,rfl,rfl⟩
theorem Xr (g1:get e 1=.ptr 0 0 0) (g5:get e 5=.b true) (hN:∀ e b,get e 1=.ptr 0 0 0→get e 5=.b true→get e 6=aL [(0,2),(5,9)]→get e 7=.i 0→N ⟨e,[.var xM.enc,.dead],b⟩):aw cE (pt 4 c13) N X R ⟨e,[.var xM.enc],bb⟩:=by
 conv=>arg 2;whnf
 simp -implicitDefEqProofs only [rX,↓rY,aA,cells?,splice,↓reduceIte,Nat.reduceEqDiff,Nat.reduceAdd,aE,bZ,cF,isD,Nat.reduceLT,Nat.reduceLeDiff,cxN]
 have o:=Yq [(0,2),(5,6),(8,9)] 2 (by decide) (by decide)
 rw [h4,h5] at o
 have k1:get (aS [1] e) 1=.ptr 0 0 0:=by rw [a8,g1];rfl
 have k5:get (aS [1] e) 5=.b true:=by rw [a8,g5];rfl
 refine dQ [1] [0] [1] [.sl 0 0 3,.i 2] _ (.tup [aL [(0,2),(5,9)],.i 0]) [.arr 2 ([((0:Int),(2:Int)),(5,6),(8,9)].map enS)] [.dead] [.var xM.enc,.dead] _ o (by simp) (by simp) (by simp [blk,bQ,enS]) (by simp [aM,bL,aZ,dF,wkL,wk,wkR,pos]) (by simp [bO,bQ,bA,iC]) rfl rfl trivial ?_
 simp -implicitDefEqProofs only [rX,↓rY,↓reduceIte,Nat.reduceEqDiff,aS,kill,bH,St.kill]
 refine hN _ _ ?_ ?_ ?_ ?_
 ·exact k1
 ·exact k5
 ·rfl
 ·rfl
theorem Xq (g1:get e 1=.ptr 0 0 0) (g5:get e 5=.b true) (g6:get e 6=aL [(0,2),(5,9)]) (g7:get e 7=.i 0) (hN:∀ e b,get e 1=.ptr 0 0 0→get e 5=.b true→get e 8=.b true→N ⟨e,[.var xM.enc,.dead,.dead],b⟩):aw cE (pt 5 c13) N X R ⟨e,[.var xM.enc,.dead],bb⟩:=by
 conv=>arg 2;whnf
 simp -implicitDefEqProofs only [rX,↓rY,aA,cells?,splice,↓reduceIte,Nat.reduceEqDiff,Nat.reduceAdd,aE,bZ,cF,isD,Nat.reduceLT,Nat.reduceLeDiff,cxN,g6,g7,beq_self_eq_true]
 have o:=Su [(0,2),(5,9)] [(0,2),(5,9)]
 rw [beq_self_eq_true] at o
 have k1:get (aS [2] e) 1=.ptr 0 0 0:=by rw [a8,g1];rfl
 have k5:get (aS [2] e) 5=.b true:=by rw [a8,g5];rfl
 refine dQ [2] [0] [2] [aL [(0,2),(5,9)],.sl 0 0 2] _ (.b true) [.arr 2 ([((0:Int),(2:Int)),(5,9)].map enS)] [.dead] [.var xM.enc,.dead,.dead] _ o (by simp) (by simp) (by simp [blk,bQ,enS]) (by simp [aM,bL,aZ,dF,wkL,wk,wkR,pos]) (by simp [bO,bQ,bA,iC]) rfl rfl trivial ?_
 simp -implicitDefEqProofs only [rX,↓rY,↓reduceIte,Nat.reduceEqDiff,aS,kill,bH,St.kill]
 refine hN _ _ ?_ ?_ ?_
 ·exact k1
 ·exact k5
 ·rfl
theorem Xp (g1:get e 1=.ptr 0 0 0) (g5:get e 5=.b true) (g8:get e 8=.b true) (hN:∀ e b,get e 1=.ptr 0 0 0→get e 5=.b true→get e 8=.b true→get e 9=.ptr 3 0 0→get e 10=.i 0→N ⟨e,[.var xM.enc,.dead,.dead,.var (pe (dig yA) (dig yB) 9 (rO yO))],b⟩):aw cE (pt 6 c13) N X R ⟨e,[.var xM.enc,.dead,.dead],bb⟩:=by
 conv=>arg 2;whnf
 have o:=adD yA yB 4 (by decide) (by decide)
 rw [y_P,y_O,y_E] at o
 simp -implicitDefEqProofs only [rX,aA,Nat.reduceAdd,cxN]
 have d1:(dig yA).length=16:=bM
 have d2:(dig yB).length=16:=bM
 refine aD o ⟨⟨trivial,trivial,trivial,trivial⟩,rfl,rfl,rfl,trivial⟩ (by simp [ren,cD,pF];rfl) trivial ?_
 simp -implicitDefEqProofs only [rX,↓rY,aA,cells?,splice,↓reduceIte,Nat.reduceEqDiff,aE,Bh,mJ,gW,dM,d1,d2]
 refine ⟨Jg rfl,hN _ _ ?_ ?_ ?_ ?_ ?_⟩
 ·exact g1
 ·exact g5
 ·exact g8
 ·rfl
 ·rfl
abbrev hS:List Blk:=[.var xM.enc,.dead,.dead,.var (pe (dig yA) (dig yB) 9 (rO yO))]
theorem Xo (g1:get e 1=.ptr 0 0 0) (g5:get e 5=.b true) (g8:get e 8=.b true) (g9:get e 9=.ptr 3 0 0) (g10:get e 10=.i 0) (hN:∀ e b,get e 1=.ptr 0 0 0→get e 5=.b true→get e 8=.b true→get e 9=.ptr 3 0 0→get e 11=.b true→N ⟨e,hS,b⟩):aw cE (pt 7 c13) N X R ⟨e,hS,bb⟩:=by
 have d1:(dig yA).length=16:=bM
 have d2:(dig yB).length=16:=bM
 have o:=adC (dig yA) (dig yB) 9 yO d1 d2 (by decide) (by decide)
 rw [y_W] at o
 conv=>arg 2;whnf
 simp -implicitDefEqProofs only [rX,↓rY,aA,↓reduceIte,Nat.reduceEqDiff,Nat.reduceAdd,cxN,nU,g9,g10,mJ,pG,d1,d2,beq_self_eq_true]
 refine aD o ⟨⟨m6.1,trivial⟩,m6.2,trivial⟩ rfl trivial ?_
 simp -implicitDefEqProofs only [rX,↓rY,aA,cells?,splice,↓reduceIte,Nat.reduceEqDiff,Nat.reduceAdd,bZ,Nat.reduceLeDiff,g9,Ci,d1,d2,beq_self_eq_true]
 intro _
 simp only [show (((3:Nat):Int)==3)=true from rfl,kb]
 refine ⟨by decide,by decide,by decide,?_⟩
 refine Eq.mpr (Wh (s:=((0:Int),(4:Int),([]:Bs))) (a:=0) (b:=4) (c:=[])) ?_
 simp only [beq_self_eq_true,kb]
 refine ⟨by decide,by decide,by decide,?_⟩
 refine Eq.mpr (Wh (s:=((0:Int),(0:Int),([88]:Bs))) (a:=0) (b:=0) (c:=[88])) ?_
 simp only [beq_self_eq_true,kb]
 refine ⟨by decide,by decide,by decide,?_⟩
 refine Eq.mpr (Wh (s:=((4:Int),(8:Int),([]:Bs))) (a:=4) (b:=8) (c:=[])) ?_
 simp only [beq_self_eq_true,kb]
 refine hN _ _ ?_ ?_ ?_ ?_ ?_
 ·exact g1
 ·exact g5
 ·exact g8
 ·exact g9
 ·rfl
def A22:Prop:=∀ (old a b:Bs) (s:Int) (l:List Op),old.length≤1000→a.length=16→b.length=16→l.length≤1000→(∀ x∈l,x.2.2.length≤1000)→Ok 22 [sv old,.agg (pe a b s (rO l))] (Is (.tup [sv (apR old a b s l),.i (apE old a b s l)]))
theorem Xn (A:A22) (g1:get e 1=.ptr 0 0 0) (g5:get e 5=.b true) (g8:get e 8=.b true) (g9:get e 9=.ptr 3 0 0) (g11:get e 11=.b true) (hN:∀ e b,get e 1=.ptr 0 0 0→get e 5=.b true→get e 8=.b true→get e 9=.ptr 3 0 0→get e 11=.b true→get e 12=sv yB→get e 13=.i 0→N ⟨e,hS,b⟩):aw cE (pt 8 c13) N X R ⟨e,hS,bb⟩:=by
 have d1:(dig yA).length=16:=bM
 have d2:(dig yB).length=16:=bM
 have o:=A yA (dig yA) (dig yB) 9 yO (by decide) d1 d2 (by decide) (by decide)
 rw [y_A,y_S] at o
 conv=>arg 2;whnf
 simp -implicitDefEqProofs only [rX,↓rY,aA,↓reduceIte,Nat.reduceAdd,cxN,g9,mJ,pG,d1,d2]
 refine aD o ⟨⟨trivial,m6.1,trivial⟩,rfl,m6.2,trivial⟩ rfl trivial ?_
 simp -implicitDefEqProofs only [rX,↓rY,↓reduceIte,Nat.reduceEqDiff]
 refine hN _ _ ?_ ?_ ?_ ?_ ?_ ?_ ?_
 ·exact g1
 ·exact g5
 ·exact g8
 ·exact g9
 ·exact g11
 ·rfl
 ·rfl
theorem Xm (A:A22) (g1:get e 1=.ptr 0 0 0) (g5:get e 5=.b true) (g8:get e 8=.b true) (g9:get e 9=.ptr 3 0 0) (g11:get e 11=.b true) (g12:get e 12=sv yB) (g13:get e 13=.i 0) (hN:∀ e b,get e 1=.ptr 0 0 0→get e 5=.b true→get e 8=.b true→get e 11=.b true→get e 12=sv yB→get e 13=.i 0→get e 15=.i 8→N ⟨e,hS,b⟩):aw cE (pt 9 c13) N X R ⟨e,hS,bb⟩:=by
 have d1:(dig yA).length=16:=bM
 have d2:(dig yB).length=16:=bM
 have o:=A yC (dig yA) (dig yB) 9 yO (by decide) d1 d2 (by decide) (by decide)
 rw [y_B] at o
 conv=>arg 2;whnf
 simp -implicitDefEqProofs only [rX,↓rY,aA,↓reduceIte,Nat.reduceAdd,cxN,g9,mJ,pG,d1,d2]
 refine aD o ⟨⟨trivial,m6.1,trivial⟩,rfl,m6.2,trivial⟩ rfl trivial ?_
 simp -implicitDefEqProofs only [rX,↓rY,↓reduceIte,Nat.reduceEqDiff]
 refine hN _ _ ?_ ?_ ?_ ?_ ?_ ?_ ?_
 ·exact g1
 ·exact g5
 ·exact g8
 ·exact g11
 ·exact g12
 ·exact g13
 ·rfl
theorem Um (g1:get e 1=.ptr 0 0 0) (g5:get e 5=.b true) (g8:get e 8=.b true) (g11:get e 11=.b true) (g12:get e 12=sv yB) (g13:get e 13=.i 0) (g15:get e 15=.i 8) (hN:∀ e b,get e 5=.b true→get e 8=.b true→get e 11=.b true→get e 12=sv yB→get e 13=.i 0→get e 15=.i 8→get e 16=aL [(4,8)]→get e 17=.i 0→N ⟨e,hS++[.dead],b⟩):aw cE (pt 10 c13) N X R ⟨e,hS,bb⟩:=by
 obtain ⟨q1,q2,q3⟩:=nT (m:=xM) Ed
 have o3:=Vi xA 4 (by decide) (by decide)
 rw [xL] at o3
 have dL:D16 [l0,l1,l2]:=by
  intro d hd
  simp at hd
  rcases hd with rfl|rfl|rfl<;>exact oI
 have o:=Yx xM [l0,l1,l2] xB [(0,10)] Kd Ed dL (by decide) (by decide) (by decide)
 rw [acE,Wv] at o
 conv=>arg 2;whnf
 simp -implicitDefEqProofs only [rX,↓rY,rdK,aA,cells?,splice,↓reduceIte,Nat.reduceEqDiff,Nat.reduceAdd,aE,bZ,cF,isD,Nat.reduceLT,cxN,g1,q1,q2]
 have k5:get (aS [4] e) 5=.b true:=by rw [a8,g5];rfl
 have k8:get (aS [4] e) 8=.b true:=by rw [a8,g8];rfl
 have k11:get (aS [4] e) 11=.b true:=by rw [a8,g11];rfl
 have k12:get (aS [4] e) 12=sv yB:=by rw [a8,g12];rfl
 have k13:get (aS [4] e) 13=.i 0:=by rw [a8,g13];rfl
 have k15:get (aS [4] e) 15=.i 8:=by rw [a8,g15];rfl
 refine ⟨?_,?_⟩
 ·refine aD o3 ⟨⟨trivial,trivial,trivial⟩,rfl,rfl,trivial⟩ rfl trivial ?_
  simp -implicitDefEqProofs only [rX,↓rY,aA,cells?,↓reduceIte,Nat.reduceEqDiff,Nat.reduceAdd,aE,cF,isD,Nat.reduceLT]
  refine dQ [4] [0] [4] [.agg xM.enc,.ro 16 ([l0,l1,l2].map us),sv xB,.sl 0 0 1] _ (.tup [aL [(4,8)],.i 0]) [.arr 2 ([((0:Int),(10:Int))].map enS)] [.dead] (hS++[.dead]) _ o (by simp) (by simp) (by simp [blk,bQ,enS]) ⟨⟨dH.1,trivial,trivial,trivial,trivial⟩,dH.2,⟨rfl,rfl⟩,rfl,rfl,trivial⟩ (by simp [bO,bQ,bA,iC,gK,kill]) rfl rfl trivial ?_
  simp -implicitDefEqProofs only [rX,↓rY,↓reduceIte,Nat.reduceEqDiff,aS,kill,bH,St.kill]
  refine hN _ _ ?_ ?_ ?_ ?_ ?_ ?_ ?_ ?_
  ·exact k5
  ·exact k8
  ·exact k11
  ·exact k12
  ·exact k13
  ·exact k15
  ·rfl
  ·rfl
 ·refine aD o3 ⟨⟨trivial,trivial,trivial⟩,rfl,rfl,trivial⟩ rfl trivial ?_
  simp -implicitDefEqProofs only [rX,aA,↓reduceIte,Nat.reduceEqDiff]
  refine dQ [4] [0] [4] [.agg xM.enc,.ro 16 ([l0,l1,l2].map us),sv xB,.sl 0 0 1] _ (.tup [aL [(4,8)],.i 0]) [.arr 2 ([((0:Int),(10:Int))].map enS)] [.dead] (hS++[.dead]) _ o (by simp) (by simp) (by simp [blk,bQ,enS]) ⟨⟨dH.1,trivial,trivial,trivial,trivial⟩,dH.2,⟨rfl,rfl⟩,rfl,rfl,trivial⟩ (by simp [bO,bQ,bA,iC,gK,kill]) rfl rfl trivial ?_
  simp -implicitDefEqProofs only [rX,↓rY,↓reduceIte,Nat.reduceEqDiff,aS,kill,bH,St.kill]
  refine hN _ _ ?_ ?_ ?_ ?_ ?_ ?_ ?_ ?_
  ·exact k5
  ·exact k8
  ·exact k11
  ·exact k12
  ·exact k13
  ·exact k15
  ·rfl
  ·rfl
theorem Ul (g5:get e 5=.b true) (g8:get e 8=.b true) (g11:get e 11=.b true) (g12:get e 12=sv yB) (g13:get e 13=.i 0) (g15:get e 15=.i 8) (g16:get e 16=aL [(4,8)]) (g17:get e 17=.i 0) (hN:∀ e b h,get e 0=.b true→R ⟨e,h,b⟩):aw cE (rt 11 c13) N X R ⟨e,hS++[.dead],bb⟩:=by
 conv=>arg 2;whnf
 simp -implicitDefEqProofs only [rX,↓rY,aA,cells?,splice,↓reduceIte,Nat.reduceEqDiff,Nat.reduceAdd,aE,bZ,cF,isD,Nat.reduceLT,Nat.reduceLeDiff,↓ji,cxN,fG,g5,g8,g11,g12,g13,g15,g16,g17,beq_self_eq_true,fG]
 rw [show (({ data:=#[97,98,99,100,88,101,102,103,104] }:ByteArray).toList)=yB from fG (l:=yB),beq_self_eq_true,kb]
 have o:=Su [(4,8)] [(4,8)]
 rw [beq_self_eq_true] at o
 refine dQ [5] [0] [5] [aL [(4,8)],.sl 0 0 1] _ (.b true) [.arr 2 ([((4:Int),(8:Int))].map enS)] [.dead] (hS++[.dead,.dead]) _ o (by simp) (by simp) (by simp [blk,bQ,enS]) (by simp [aM,bL,aZ,dF,wkL,wk,wkR,pos]) (by simp [bO,bQ,bA,iC,gK,kill]) rfl rfl trivial ?_
 simp -implicitDefEqProofs only [rX,↓rY,↓reduceIte,Nat.reduceEqDiff,aS,kill,bH,St.kill]
 exact hN _ _ _ rfl
end
theorem Yz (A:A22):Ok 13 [] (Is (.b true)):=by
 refine bU lw13 (by simp) ?_
 rw [c13_parts]
 simp -implicitDefEqProofs only [qJ]
 conv=>arg 2;whnf
 simp -implicitDefEqProofs only [rX,aA,cxN,aK]
 refine Xu fun e b g1 g2=>?_
 simp -implicitDefEqProofs only [qJ]
 refine Xt g1 g2 fun e b g1 g2 g3 g4=>?_
 simp -implicitDefEqProofs only [qJ]
 refine Xs g1 g2 g3 g4 fun e b g1 g5=>?_
 simp -implicitDefEqProofs only [qJ]
 refine Xr g1 g5 fun e b g1 g5 g6 g7=>?_
 simp -implicitDefEqProofs only [qJ]
 refine Xq g1 g5 g6 g7 fun e b g1 g5 g8=>?_
 simp -implicitDefEqProofs only [qJ]
 refine Xp g1 g5 g8 fun e b g1 g5 g8 g9 g10=>?_
 simp -implicitDefEqProofs only [qJ]
 refine Xo g1 g5 g8 g9 g10 fun e b g1 g5 g8 g9 g11=>?_
 simp -implicitDefEqProofs only [qJ]
 refine Xn A g1 g5 g8 g9 g11 fun e b g1 g5 g8 g9 g11 g12 g13=>?_
 simp -implicitDefEqProofs only [qJ]
 refine Xm A g1 g5 g8 g9 g11 g12 g13 fun e b g1 g5 g8 g11 g12 g13 g15=>?_
 simp -implicitDefEqProofs only [qJ]
 refine Um g1 g5 g8 g11 g12 g13 g15 fun e b g5 g8 g11 g12 g13 g15 g16 g17=>?_
 refine Ul g5 g8 g11 g12 g13 g15 g16 g17 fun e b h g0=>?_
 rw [kg]
 simp -implicitDefEqProofs only [rX,aT,aX,wfV,g0]
end Go.Fx.H
namespace Go.Fx.H
open Go Go.Fx Go.Proofs Go.RowKit
section
variable {ρ:Nat→Loc} {X:Nat→Prop} {w:World}
theorem oC:∀ {x y:List V} {vs:List Value},a7 ρ X w (x++y) vs→∃ u v,vs=u++v∧a7 ρ X w x u∧a7 ρ X w y v
 | [],y,vs,h=>⟨[],vs,rfl,by simp only [a7],h⟩
 | x::r,y,[],h=>by simp only [List.cons_append,a7] at h
 | x::r,y,v::vs,h=>by
  simp only [List.cons_append,a7] at h
  obtain ⟨u,v',e,h1,h2⟩:=oC h.2
  exact ⟨v::u,v',by rw [e];rfl,by simp only [a7];exact ⟨h.1,h1⟩,h2⟩
theorem Cj {S:Nat→Prop} {b:Nat}:∀ {l:List Op} {off:Nat},b8 S w 3 b off (l.map enO)→∀ k (h:k<l.length),w.cell? ⟨b,off+k*3,none⟩=some (.int .i64 l[k].1)∧w.cell? ⟨b,off+k*3+1,none⟩=some (.int .i64 l[k].2.1)∧w.cell? ⟨b,off+k*3+2,none⟩=some (.string (sb l[k].2.2))
 | [],_,_,k,h=>absurd h (yab _)
 | x::r,off,hr,k,h=>by
  obtain ⟨⟨_,⟨v1,c1,d1⟩,⟨v2,c2,d2⟩,⟨v3,c3,d3⟩,_⟩,h3⟩:=hr
  cases k with
  | zero =>
   obtain rfl:v1=_:=d1.1
   obtain rfl:v2=_:=d2.1
   obtain rfl:v3=_:=d3.1
   rw [Nat.zero_mul,Nat.add_zero]
   exact ⟨c1,c2,c3⟩
  | succ k =>
   have:=Cj h3 k (by simpa using h)
   rw [show off+3+k*3=off+(k+1)*3 by omega] at this
   exact this
end
theorem a22:A22:=by
 intro old a b s l h1 ha hb hl hx
 refine ⟨cal Tryz.func22 (by kernel_rfl) (by kernel_rfl),?_⟩
 intro ρ X w vals hr hv
 match vals,hv with
 | [v1,v2],⟨e1,⟨arr,e0,h2⟩,_⟩ =>
 subst e0
 obtain rfl:v1=.string (sb old):=e1
 obtain ⟨u1,v',e1,r1,r2⟩:=oC h2
 obtain ⟨u2,v'',e9,r3,r4⟩:=oC r2
 subst e9
 match v'',r4 with
 | [i,sl],⟨e2,⟨pp,len,cap,e0,hlen,hc1,hc2,hels⟩,_⟩ =>
 subst e0
 obtain rfl:i=.int .i64 s:=e2
 have q1:=yU r1
 have q2:=yU r3
 subst q1 q2
 have hlen2:len=l.length:=by simpa using hlen
 subst hlen2
 have harr:arr=pcs a b s (.slice pp l.length cap):=by
  apply Array.ext'
  rw [e1];unfold pcs;rfl
 rw [harr]
 have hend:∀ {blk off},(l≠[]→pp=some ⟨blk,off,none⟩)→(∀ k (h:k<l.length),w.cell? ⟨blk,off+k*3,none⟩=some (.int .i64 l[k].1)∧w.cell? ⟨blk,off+k*3+1,none⟩=some (.int .i64 l[k].2.1)∧w.cell? ⟨blk,off+k*3+2,none⟩=some (.string (sb l[k].2.2))∧blk<w.heap.size)→_:=fun {blk off} hp hop =>
  Calls.mono (Ry hr old a b s l blk off pp cap (by omega) ha hb (by omega) (fun x h=>by have:=hx x h;omega) hp hop) (R':=fun e w'=>∃ val r h' ρ',e=.returned val∧(Is (.tup [sv (apR old a b s l),.i (apE old a b s l)]) r h'∧[].length≤h'.length)∧Fr ρ w ρ' w'∧Rep ρ' X w' h'∧aJ ρ' X w' r val∧∀ k,k<([]:List Blk).length→k∉([]:List Nat)→ρ' k=ρ k) (by
   rintro e w' ⟨rfl,hbw⟩
   exact ⟨_,_,[],ρ,rfl,⟨⟨rfl,rfl⟩,Nat.le_refl _⟩,x7 hr hbw,uI hr hbw,⟨_,rfl,rfl,rfl,trivial⟩,fun k hk=>absurd hk (yab _)⟩)
 rcases hels with hn|⟨blk,off,hp,hS,hcs⟩
 ·have hl0:l=[]:=by simpa using hn
  exact hend (blk:=0) (off:=0) (fun h=>absurd hl0 h) (fun k h=>by rw [hl0] at h;exact absurd h (yab _))
 ·exact hend (fun _=>hp) fun k h=>by
   obtain ⟨c1,c2,c3⟩:=Cj hcs k h
   exact ⟨c1,c2,c3,hS.1⟩
theorem adG:Ok 13 [] (Is (.b true)):=Yz a22
theorem fn9:∀ xs,WfA [Qb,.int .u8,Qb] xs→Fn Tryz.prog 9 xs [] [] (fun r _=>r=.b true):=by
 intro xs h
 obtain ⟨x1,_,rfl,h1,x2,_,rfl,h2,x3,_,rfl,h3,h⟩:=h
 obtain rfl:_=[]:=h
 obtain ⟨l,rfl⟩:=Kf h1
 obtain ⟨n,rfl,hn⟩:=Ww h2
 obtain ⟨o,rfl⟩:=Kf h3
 exact aaI (ok9 adG l n o hn)
end Go.Fx.H
