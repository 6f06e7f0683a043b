import Derived.Test.YtebjeeogjepcaaaGreatDoorT44
import Derived.Test.YtebjeeogjepcaaaGreatDoorHLow0
import Derived.Shelf.Lay
import Derived.Shelf.LaySoft
import Derived.Shelf.Strings.Builder1
import Derived.Shelf.Strings.BuilderF
import Derived.Shelf.Strings.BuilderK
import Derived.Test.YtebjeeogjepcaaaGreatDoorProg
import Derived.WalkKit
import Derived.BigCall
import Derived.Deep.RegionHeld3
import Derived.Shelf.Strings.MapGrows
set_option linter.unusedVariables false
set_option linter.unusedSimpArgs false
set_option linter.unusedSectionVars false
open Nat renaming le_refl → yaa, zero_le → yae, le_of_lt → yaf, not_lt_zero → yam, reduceSub → yao
open List renaming length_take → yab, take_of_length_le → yac, take → yad, getElem?_append_right → yag, eq_nil_or_concat → yah, concat_eq_append → yai, length_append → yaj, drop → yak, mem_cons_of_mem → yal, length_drop → yan, getElem_mem → yaq, map_cons → yar, toArray → yas, replicate_succ → yat, take_succ_cons → yau, getElem?_toArray → yav, isEmpty_eq_false_iff → yaw
open Int renaming toNat_natCast → yap
namespace Go.Fx.H
open Go Go.Fx Go.Proofs Go.Fx.R
set_option maxRecDepth 20000
abbrev hQ (old new D1 D2:Bs) (n p:Nat) (o:List Op):List Blk:=Oc old new n++[.var (pe D1 D2 new.length (.sl 10 0 o.length)),.var [.i p],rwO o]
section
variable {old new:Bs} {n:Nat} {N R:St→Prop} {X:Nat→St→Prop} {e:Env} {bb:Nat}
set_option maxHeartbeats 1000000 in
theorem Ye (h1:old.length≤1000) (h2:new.length≤1000) (hE:E20 old e) (e8:get e 8=.ptr 4 0 0)
  (hN:∀ e b' D1 D2,D1=dig old→D2=dig new→E20 old e→get e 8=.ptr 4 0 0→get e 13=.ptr 8 0 0→N ⟨e,Oc old new n++[.var (pe D1 D2 new.length (.v (.slice none 0 0)))],b'⟩):aw cE (pt 4 c20) N X R ⟨e,Oc old new n,bb⟩:=by
 obtain ⟨e0,e4,e5,e6,e7⟩:=hE
 conv=>arg 2;whnf
 have o1:=Wd old (by omega)
 have o2:=Wd new (by omega)
 have d1:(dig old).length=16:=a8
 have d2:(dig new).length=16:=a8
 rw [show cD 34 [old]=dig old from rfl] at o1
 rw [show cD 34 [new]=dig new from rfl] at o2
 have hN':=fun e b'=>hN e b' (dig old) (dig new) rfl rfl
 generalize dig old=D1 at *
 generalize dig new=D2 at *
 simp -implicitDefEqProofs only [rX,↓rY,qg,rdK,aA,cells?,↓reduceIte,Nat.reduceEqDiff,Nat.reduceAdd,aD,cxN,aU,e0,e4,xT]
 refine ⟨?_,?_⟩
 ·refine aE o1 ⟨⟨trivial,trivial⟩,rfl,trivial⟩ (by simp [ren,a6]) trivial ?_
  simp -implicitDefEqProofs only [rX,↓rY,aA,cells?,↓reduceIte,Nat.reduceEqDiff,aD,xT]
  refine ⟨?_,?_⟩
  ·refine aE o2 ⟨⟨trivial,trivial⟩,rfl,trivial⟩ (by simp [ren,a6]) trivial ?_
   simp -implicitDefEqProofs only [rX,↓rY,aA,cells?,splice,↓reduceIte,Nat.reduceEqDiff,Nat.reduceAdd,aD,bG,Nat.reduceLeDiff,xT,dW,Ke,dX,bQ,d1,d2,r1,r2,r3,p_l,yan,yab,yao,Nat.reduceAdd,show min 16 34=16 from rfl,show min 32 34=32 from rfl]
   refine ⟨Aj rfl,hN' _ _ ?_ ?_ ?_⟩
   ·exact ⟨e0,e4,e5,e6,e7⟩
   ·exact e8
   ·rfl
  ·refine aE o2 ⟨⟨trivial,trivial⟩,rfl,trivial⟩ (by simp [ren,a6]) trivial ?_
   simp -implicitDefEqProofs only [rX,↓rY,cells?,splice,↓reduceIte,Nat.reduceEqDiff,Nat.reduceAdd,bG,Nat.reduceLeDiff,xT,dW,Ke,dX,bQ,d1,d2,r1,r2,r3,p_l,yan,yab,yao,Nat.reduceAdd,show min 16 34=16 from rfl,show min 32 34=32 from rfl]
   refine ⟨Aj rfl,hN' _ _ ?_ ?_ ?_⟩
   ·exact ⟨e0,e4,e5,e6,e7⟩
   ·exact e8
   ·rfl
 ·refine aE o1 ⟨⟨trivial,trivial⟩,rfl,trivial⟩ (by simp [ren,a6]) trivial ?_
  simp -implicitDefEqProofs only [rX,↓reduceIte,Nat.reduceEqDiff]
  refine aE o2 ⟨⟨trivial,trivial⟩,rfl,trivial⟩ (by simp [ren,a6]) trivial ?_
  simp -implicitDefEqProofs only [rX,↓rY,cells?,splice,↓reduceIte,Nat.reduceEqDiff,Nat.reduceAdd,bG,Nat.reduceLeDiff,xT,dW,Ke,dX,bQ,d1,d2,r1,r2,r3,p_l,yan,yab,yao,Nat.reduceAdd,show min 16 34=16 from rfl,show min 32 34=32 from rfl]
  refine ⟨Aj rfl,hN' _ _ ?_ ?_ ?_⟩
  ·exact ⟨e0,e4,e5,e6,e7⟩
  ·exact e8
  ·rfl
theorem c20l0_parts:c20l0=.seq (pt 0 c20l0) (.block 4 (.seq (pt 0 (jW (rt 1 c20l0))) (.seq (pt 1 (jW (rt 1 c20l0))) (.seq (pt 2 (jW (rt 1 c20l0))) (.seq (pt 3 (jW (rt 1 c20l0))) (.seq (pt 4 (jW (rt 1 c20l0))) (rt 5 (jW (rt 1 c20l0))))))))):=by rfl
structure E2L (i:Nat) (e:Env):Prop where
 e4:get e 4=.ptr 0 0 0
 e5:get e 5=.ptr 1 0 0
 e6:get e 6=.ptr 2 0 0
 e7:get e 7=.i 0
 e8:get e 8=.ptr 4 0 0
 e13:get e 13=.ptr 8 0 0
 e14:get e 14=.ptr 9 0 0
 e15:get e 15=.clo 71 [.ptr 9 0 0,.ptr 8 0 0,.ptr 0 0 0]
 e16:get e 16=.i i
theorem E2L.kill {i:Nat} {e:Env} (h:E2L i e):E2L i (aP [10] e):=by
 obtain ⟨e4,e5,e6,e7,e8,e13,e14,e15,e16⟩:=h
 exact ⟨by rw [aQ,e4];rfl,by rw [aQ,e5];rfl,by rw [aQ,e6];rfl,by rw [aQ,e7];rfl,by rw [aQ,e8];rfl,by rw [aQ,e13];rfl,by rw [aQ,e14];rfl,by rw [aQ,e15];rfl,by rw [aQ,e16];rfl⟩
theorem rG {M:List Nat}:∀ {l:List (Bs × Nat)} {i:Nat},(esV l i).map (fun e=>(e.1,kill M e.2.1,e.2.2))=esV l i
 | [],_=>rfl
 | x::r,i=>by
  show _::(esV r (i+1)).map _=_
  rw [rG];rfl
theorem Yg {D1 D2:Bs} {p i:Nat} {o:List Op} (d1:D1.length=16) (d2:D2.length=16) (h2:new.length≤1000) (hi:i≤new.length) (ho:o.length≤1000000) (hE:E2L i e) (f:Nat) (e17:get e 17=.i f)
  (hN:∀ e b',E2L i e→get e 17=.i f→N ⟨e,hQ old new D1 D2 n p (flO o new p i),b'⟩):aw cE (pt 2 (jW (rt 1 c20l0))) N X R ⟨e,hQ old new D1 D2 n p o,bb⟩:=by
 have hE':=hE
 obtain ⟨e4,e5,e6,e7,e8,e13,e14,e15,e16⟩:=hE
 conv=>arg 2;whnf
 simp -implicitDefEqProofs only [rX,↓rY,↓reduceIte,Nat.reduceEqDiff,Nat.reduceAdd,cxN,e15,e16]
 have hE2:=hE'.kill
 have k17:get (aP [10] e) 17=.i f:=by rw [aQ,e17];rfl
 refine d7 [9,8,0,10] [3] [10] [.i i,.ptr 0 0 0,.ptr 1 0 0,.ptr 2 0 0] (.tup []) (.tup []) _ _ (hQ old new D1 D2 n p (flO o new p i)) _ (Ze D1 D2 new new.length o p i d1 d2 ho hi (by omega)) (by simp) (by simp) ?_ (by simp [aG,bA,aS,cK,wkL,wk,wkR,wkB,pos]) ?_ rfl rfl trivial ?_
 ·simp [blk,bV,mE,ren,pos,cH]
 ·simp [bV,mE,ren,back,cH,bZ,aZ,rG,d4]
  exact ⟨rfl,rfl,rfl,rfl,rfl⟩
 simp -implicitDefEqProofs only [rX,↓reduceIte,Nat.reduceEqDiff,reduceCtorEq,aP,kill,bM,St.kill]
 refine hN _ _ ?_ ?_
 ·exact ⟨hE2.e4,hE2.e5,hE2.e6,hE2.e7,hE2.e8,hE2.e13,hE2.e14,hE2.e15,hE2.e16⟩
 ·exact k17
set_option maxHeartbeats 1000000 in
theorem Yd {D1 D2:Bs} {p i:Nat} {o:List Op} (hn:1≤n) (hn2:n≤4096) (d1:D1.length=16) (d2:D2.length=16) (ho:o.length≤100000) (hE:E2L i e) (f:Nat) (hf:f≤1000) (e17:get e 17=.i f)
  (hN:∀ e b' o' tl,E2L i e→o'=m5 o f n→N ⟨e,hQ old new D1 D2 n p o'++tl,b'⟩):aw cE (pt 3 (jW (rt 1 c20l0))) N X R ⟨e,hQ old new D1 D2 n p o,bb⟩:=by
 have hk:=hE.kill
 obtain ⟨e4,e5,e6,e7,e8,e13,e14,e15,e16⟩:=hE
 have k13:=hk.e13
 have k17:get (aP [10] e) 17=.i f:=by rw [aQ,e17];rfl
 conv=>arg 2;whnf
 rcases yah o with rfl|⟨o1,x,rfl⟩
 ·simp -implicitDefEqProofs only [rX,↓rY,aA,cells?,splice,↓reduceIte,Nat.reduceEqDiff,eQ,Nat.reduceAdd,reduceCtorEq,aD,bG,bY,aP,aZ,kill,bM,St.kill,isD,isC,Nat.reduceLT,Nat.reduceLeDiff,↓jk,cxN,cO,d6,e13,e17,e5,k13,hk.e5,rG,dW,gX,dX,d4,vD,d1,d2,show decide ((0:Int)<((0:Nat):Int))=false from rfl]
  refine fun _=>⟨by simp only [lo,Fx.hi];omega,by decide,?_⟩
  refine hN _ _ [((f:Int),(f:Int)+n,[])] [_,_] ?_ rfl
  exact ⟨hk.e4,hk.e5,hk.e6,hk.e7,hk.e8,hk.e13,hk.e14,hk.e15,hk.e16⟩
 ·rw [yai] at *
  have hl1:((o1++[x]).length:Nat)=o1.length+1:=by simp
  have hd0:decide ((0:Int)<((o1.length+1:Nat):Int))=true:=decide_eq_true (by omega)
  have hidx:(((o1.length+1:Nat):Int)-1).toNat=o1.length:=by omega
  have hlast:∀ hh,(o1++[x])[(((o1.length+1:Nat):Int)-1).toNat]'hh=x:=by
   intro hh;simp only [hidx];simp
  have hle:o1.length+1≤100000:=by rw [←hl1];exact ho
  simp -implicitDefEqProofs only [rX,↓rY,aA,cells?,splice,↓reduceIte,Nat.reduceEqDiff,eQ,Nat.reduceAdd,reduceCtorEq,aD,bG,bY,aP,aZ,kill,bM,St.kill,isD,isC,Nat.reduceLT,Nat.reduceLeDiff,↓jk,List.getElem_map,cxN,cO,d6,e13,e17,e5,k13,hk.e5,rG,dW,gX,dX,d4,vD,d1,d2,hl1,hd0,kc,hlast]
  have htk:yad (o1.length+1) ((o1++[x]).map enO)=(o1++[x]).map enO:=yac (by simp)
  have hpu:∀ e1 b1 tl,E2L i e1→(o1++[x])++[((f:Int),(f:Int)+n,[])]=m5 (o1++[x]) f n→N ⟨e1,Oc old new n++[.var (pe D1 D2 new.length (.sl 10 0 (o1.length+1+1))),.var [.i p],.arr 3 ((o1++[x]).map enO++[[V.i f,V.i ((f:Int)+n),sv []]])]++tl,b1⟩:=by
   intro e1 b1 tl g1 g3
   have hs:=hN e1 b1 ((o1++[x])++[((f:Int),(f:Int)+n,[])]) tl g1 g3
   unfold hQ at hs
   rwa [yaj,hl1,show rwO ((o1++[x])++[((f:Int),(f:Int)+n,[])])=.arr 3 ((o1++[x]).map enO++[enO ((f:Int),(f:Int)+n,[])]) by unfold rwO;rw [List.map_append];rfl] at hs
  refine fun _=>⟨by simp only [lo,Fx.hi];omega,⟨by omega,by omega⟩,by omega,?_⟩
  cases h9:(x.2.2==[]) with
  | false =>
   have h9':x.2.2≠[]:=beq_eq_false_iff_ne.1 h9
   rw [ke,htk]
   refine ⟨by simp only [lo,Fx.hi];omega,by omega,?_⟩
   refine hpu _ _ [_,_] ?_ ?_
   ·exact ⟨hk.e4,hk.e5,hk.e6,hk.e7,hk.e8,hk.e13,hk.e14,hk.e15,hk.e16⟩
   ·rw [fW,if_neg (fun h=>h9' h.1)]
  | true =>
   have h9':x.2.2=[]:=beq_iff_eq.1 h9
   rw [kc]
   refine ⟨by simp only [lo,Fx.hi];omega,⟨by omega,by omega⟩,by omega,?_⟩
   cases h8:(x.2.1==(f:Int)) with
   | false =>
    have h8':x.2.1≠f:=beq_eq_false_iff_ne.1 h8
    rw [ke,htk]
    refine ⟨by simp only [lo,Fx.hi];omega,by omega,?_⟩
    refine hpu _ _ [_,_] ?_ ?_
    ·exact ⟨hk.e4,hk.e5,hk.e6,hk.e7,hk.e8,hk.e13,hk.e14,hk.e15,hk.e16⟩
    ·rw [fW,if_neg (fun h=>h8' h.2)]
   | true =>
    have h8':x.2.1=f:=beq_iff_eq.1 h8
    rw [kc]
    refine ⟨by simp only [lo,Fx.hi];omega,⟨by omega,by omega⟩,by omega,by simp only [lo,Fx.hi];omega,⟨by omega,by omega⟩,by omega,?_⟩
    rw [hidx,set_last (y:=(x.1,x.2.1+n,x.2.2)),h8']
    have hs:=fun e1 b1 tl=>hN e1 b1 (o1++[(x.1,(f:Int)+n,x.2.2)]) tl
    unfold hQ at hs
    rw [yaj,List.length_singleton] at hs
    refine hs _ _ [] ?_ ?_
    ·exact ⟨e4,e5,e6,e7,e8,e13,e14,e15,e16⟩
    ·rw [fW,if_pos ⟨h9',h8'⟩]
end
end Go.Fx.H
namespace Go.Fx.H
open Go Go.Fx Go.Proofs Go.Fx.R
set_option maxRecDepth 20000
def noB (o:List Op):Prop:=∀ x,o.getLast?=some x→x.2.2=[]
theorem Rl:noB []:=fun x h=>by cases h
theorem Nf {o:List Op} {f b:Nat}:noB (m5 o f b):=by
 rcases yah o with rfl|⟨o1,x,rfl⟩
 ·intro y hy;simp [m5] at hy;rw [←hy]
 ·rw [yai,fW]
  intro y hy
  split at hy
  ·rename_i h
   simp at hy;rw [←hy];exact h.1
  ·rw [List.getLast?_append] at hy
   simp at hy;rw [←hy]
theorem Dw {o:List Op} {new:Bs} {p:Nat}:flO o new p p=o:=if_neg (Nat.lt_irrefl p)
theorem Om {o:List Op} {new:Bs} {p i:Nat} (h:noB o) (hp:p≤i) (hi:i<new.length):flO o new p (i+1)=xN (flO o new p i) (pc new 1 i):=by
 have e0:∀ k,p≤k→k<new.length→(new.take (k+1)).drop p=(new.take k).drop p++pc new 1 k:=by
  intro k h1 h2
  rw [←List.take_append_drop k new]
  have e1:(yad k new++yak k new).take (k+1)=yad k new++(yak k new).take 1:=by
   rw [List.take_append,yac (by rw [yab];omega),yab]
   congr 2;omega
  have e2:(yad k new++yak k new).take k=yad k new:=by
   rw [List.take_append,yab,yac (by rw [yab];omega)]
   rw [show k-min k new.length=0 by omega];simp
  rw [e1,e2,List.drop_append_of_le_length (by rw [yab];omega)]
  simp [pc]
 rcases Nat.eq_or_lt_of_le hp with rfl|hp
 ·rw [Dw]
  have:flO o new p (p+1)=o++[(0,0,pc new 1 p)]:=by
   unfold flO
   rw [if_pos (by omega),e0 p (yaa _) hi,List.drop_of_length_le (by rw [yab];omega)];rfl
  rw [this]
  rcases yah o with rfl|⟨o1,x,rfl⟩
  ·rfl
  ·rw [yai] at *
   rw [nR,if_neg]
   have:=h x (by simp)
   simp [this]
 ·have e1:flO o new p (i+1)=o++[(0,0,(new.take i).drop p++pc new 1 i)]:=by
   unfold flO
   rw [if_pos (by omega),e0 i (by omega) hi]
  have e2:flO o new p i=o++[(0,0,(new.take i).drop p)]:=if_pos hp
  rw [e1,e2,nR,if_pos]
  intro h9
  have:=congrArg List.length h9
  simp at this
  omega
theorem Ry {o:List Op} {new:Bs} {p i:Nat}:(flO o new p i).length≤o.length+1:=by
 unfold flO;split<;>simp
theorem Pp {o:List Op} {f b:Nat}:(m5 o f b).length≤o.length+1:=by
 rcases yah o with rfl|⟨o1,x,rfl⟩
 ·simp [m5]
 ·rw [yai,fW];split<;>simp
theorem Xj {D1 D2 old new:Bs} {n p i:Nat} {o:List Op} {e:Env} {b:Nat} {K:V→St→Prop} (d1:D1.length=16) (d2:D2.length=16) (h2:new.length≤1000) (hi:i≤new.length) (ho:o.length≤1000000) (h3:K (.tup []) ⟨aP [10] e,hQ old new D1 D2 n p (flO o new p i),b⟩) :
  eX cE 71 [.i i,.ptr 9 0 0,.ptr 8 0 0,.ptr 0 0 0] ⟨e,hQ old new D1 D2 n p o,b⟩ K:=by
 refine d7 [9,8,0,10] [3] [10] [.i i,.ptr 0 0 0,.ptr 1 0 0,.ptr 2 0 0] (.tup []) (.tup []) _ _ (hQ old new D1 D2 n p (flO o new p i)) _ (Ze D1 D2 new new.length o p i d1 d2 ho hi (by omega)) (by simp [cxN]) (by simp [cxN]) ?_ (by simp [aG,bA,aS,cK,wkL,wk,wkR,wkB,pos]) ?_ rfl rfl trivial h3
 ·simp [blk,bV,mE,ren,pos,cH]
 ·simp [bV,mE,ren,back,cH,bZ,aZ,rG,d4]
  exact ⟨rfl,rfl,rfl,rfl,rfl⟩
theorem Yy:(pe z16 z16 0 (V.v (Value.slice none 0 0))).all isC=true:=Aj rfl
theorem Zo (old new:Bs) (b:Int) (h1:old.length≤1000) (h2:new.length≤1000):Ok 20 [sv old,sv new,.i b] (Is (.tup [.agg (dfP old new b (rO (dfO old new b))),.i (dfE old new b)])):=by
 refine iT (R:=fun q hs=>wk (.tup [.agg (dfP old new b (rO (dfO old new b))),.i (dfE old new b)]) (gvV (fun _=>true) hs q)) ?_ fun _ _ h=>h
 refine bO lw20 (by simp) ?_
 rw [c20_parts]
 simp -implicitDefEqProofs only [qK]
 conv=>arg 2;whnf
 simp -implicitDefEqProofs only [rX,↓rY,aA,cells?,↓reduceIte,Nat.reduceEqDiff,Nat.reduceAdd,reduceCtorEq,aD,cxN,aH,xT]
 have hret:∀ (e:Env) (k:Int) (b':Nat) (tl:List Blk),get e 6=.ptr 2 0 0→get e 7=.v (.int .i64 k)→dfE old new b=k→k≠0→eZ [] 0 [fJ.cell 6 (some 34),fJ.tmp 7] (fun q hs=>wk (.tup [.agg (dfP old new b (rO (dfO old new b))),.i (dfE old new b)]) (gvV (fun _=>true) hs q)) ⟨e,[.var [sv new],.var [.i b],.var zP]++tl,b'⟩:=by
  intro e k b' tl g6 g7 hk h0
  have e1:dfO old new b=[]:=if_pos (by rw [hk];exact h0)
  have e2:∀ o,dfP old new b o=pe z16 z16 0 o:=fun o=>if_pos (by rw [hk];exact h0)
  rw [eE,e1,e2,hk]
  simp -implicitDefEqProofs only [rX,↓rY,aT,aY,aC,wfV,wfL,g6,g7,dW,fE,bQ]
  refine ⟨([]:List Blk),⟨trivial,yae _,uH,trivial⟩,?_⟩
  show wkL [V.agg (pe z16 z16 0 (rO [])),V.i k] (gvL (fun _=>true) [] [V.agg zP,V.i k])
  refine ⟨?_,rfl,trivial⟩
  show wkL _ (gvL _ _ zP)
  rw [Hv]
  exact Cv (by simp [wk,wkR,gvV])
 conv=>arg 2;whnf
 simp -implicitDefEqProofs only [rX,↓rY,aA,cells?,splice,↓reduceIte,Nat.reduceEqDiff,Nat.reduceAdd,reduceCtorEq,bG,aU,xT,dW,dX,bQ]
 have hb1:dfE old new b=1∨(1≤b∧b≤4096∧dfE old new b=0):=by
  unfold dfE
  by_cases h:b<1∨4096<b
  ·left;rw [if_pos h]
  ·right;rw [if_neg h,if_neg (by omega)];omega
 have hd3:decide ((65536:Int)<max (old.length:Int) (new.length:Int))=false:=decide_eq_false (by omega)
 cases hd1:decide (b<1) with
 | true =>
  rw [kc]
  have:=of_decide_eq_true hd1
  exact ⟨Yy,hret _ 1 _ [] rfl rfl (by unfold dfE;rw [if_pos (.inl this)]) (by decide)⟩
 | false =>
 rw [ke]
 cases hd2:decide (4096<b) with
 | true =>
  rw [kc]
  have:=of_decide_eq_true hd2
  exact ⟨Yy,hret _ 1 _ [] rfl rfl (by unfold dfE;rw [if_pos (.inr this)]) (by decide)⟩
 | false =>
 rw [ke,hd3,ke]
 have h5:=of_decide_eq_false hd1
 have h6:=of_decide_eq_false hd2
 have he0:dfE old new b=0:=by
  unfold dfE
  rw [if_neg (by omega),if_neg (by omega)]
 obtain ⟨n,rfl⟩:∃ n:Nat,b=n:=⟨b.toNat,by omega⟩
 have hb:1≤n∧n≤4096:=by omega
 have he1:∀ o,dfP old new (n:Int) o=pe (dig old) (dig new) new.length o:=fun o=>by unfold dfP;rw [if_neg (by rw [he0];decide)]
 have ho:dfO old new (n:Int)=jV old new n 0 []:=by unfold dfO;rw [if_neg (by rw [he0];decide),yap]
 refine Yf hb.1 hb.2 h1 h2 ⟨rfl,rfl,rfl,rfl,rfl⟩ ?_
 rintro e b' hE e8
 simp -implicitDefEqProofs only [qK]
 refine Ye h1 h2 hE e8 ?_
 rintro e b' D1 D2 hD1 hD2 ⟨e0,e4,e5,e6,e7⟩ e8 e13
 have d1:D1.length=16:=by rw [hD1];exact a8
 have d2:D2.length=16:=by rw [hD2];exact a8
 rw [←hD1,←hD2] at he1
 conv=>arg 2;whnf
 simp -implicitDefEqProofs only [rX]
 conv=>arg 2;whnf
 simp -implicitDefEqProofs only [rX,↓rY,aA,cells?,splice,↓reduceIte,Nat.reduceAdd,aD,isC]
 conv=>arg 2;whnf
 simp -implicitDefEqProofs only [rX,↓reduceIte,Nat.reduceEqDiff,Nat.reduceAdd,e4,e13]
 conv=>arg 2;whnf
 simp -implicitDefEqProofs only [rX,aA,Nat.reduceAdd]
 refine eT (.virt 1 3 (by decide) (.nilB 8 (pe D1 D2 new.length (.v (.slice none 0 0))) (pe D1 D2 new.length (.sl 10 0 0)) rfl ⟨?_,?_⟩ (.refl _))) (fun g:Nat × Nat × List Op=>⟨[(16,.i g.1),(4,.ptr 0 0 0),(5,.ptr 1 0 0),(6,.ptr 2 0 0),(7,.i 0),(8,.ptr 4 0 0),(13,.ptr 8 0 0),(14,.ptr 9 0 0),(15,.clo 71 [.ptr 9 0 0,.ptr 8 0 0,.ptr 0 0 0])],hQ old new D1 D2 n g.2.1 g.2.2,10⟩) (fun g=>g.2.1≤g.1∧g.1≤new.length∧g.2.2.length≤g.1+g.1∧noB g.2.2∧jV old new n g.1 (flO g.2.2 new g.2.1 g.1)=jV old new n 0 []) (fun g=>new.length-g.1) (0,0,[]) ⟨yaa _,yae _,yae _,Rl,rfl⟩ ?_ ?_
 ·rw [dW d1 d2,dW d1 d2]
 ·intro i x y hx hy
  exact Ms d1 d2 hx hy
 ·simp -implicitDefEqProofs only [rX,↓reduceIte,Nat.reduceEqDiff,leE,leH,leB,leV,dH,aC,aB,wfE,wfB,wfV,wfL,yat,e4,e5,e6,e7,e8,e13]
  exact ⟨rfl,⟨bB _,bB _,rfl,rfl⟩,uH,yV,eH (by simp [wfV,aB])⟩
 rintro ⟨i,p,o⟩ ⟨hpi,hi,hol,hnb,hd⟩
 simp only at hpi hi hol hnb hd
 rw [c20l0_parts]
 simp -implicitDefEqProofs only [qK]
 conv=>arg 2;whnf
 simp -implicitDefEqProofs only [rX,↓rY,↓reduceIte,Nat.reduceEqDiff,Nat.reduceAdd,aU]
 cases hdi:decide ((i:Int)<(new.length:Int)) with
 | false =>
  have hdi':=of_decide_eq_false hdi
  have hie:i=new.length:=by omega
  rw [w6 (by omega)] at hd
  simp only [ke]
  conv=>arg 2;whnf
  simp -implicitDefEqProofs only [rX,↓rY,↓reduceIte,Nat.reduceEqDiff,Nat.reduceAdd,aU]
  refine Xj d1 d2 h2 (by omega) (by omega) ?_
  simp -implicitDefEqProofs only [rX,↓reduceIte,Nat.reduceEqDiff,reduceCtorEq,aP,kill,bM,St.kill]
  conv=>arg 2;whnf
  simp -implicitDefEqProofs only [rX,↓rY,aA,cells?,splice,↓reduceIte,Nat.reduceEqDiff,Nat.reduceAdd,aT,aY,aC,wfV,wfL,dW,fE,dX,bQ,d1,d2,eE]
  rw [he1,ho,he0,←hd,←hie]
  refine ⟨Aj rfl,[.dead,.dead,.dead,.dead,.dead,.dead,.dead,.dead,.dead,.dead,rwO (flO o new p i)],⟨⟨trivial,trivial,trivial,trivial,trivial,trivial,trivial,trivial,trivial,trivial,aN _,trivial⟩,yae _,eH (by simp [wfV,aB]),trivial⟩,?_⟩
  show wkL [V.agg _,V.i 0] (gvL _ _ [V.agg _,V.i 0])
  refine ⟨?_,rfl,trivial⟩
  show wkL _ (gvL _ _ _)
  rw [Hv]
  refine Cv ?_
  simp [gvV,blk,wk,wkR,yac]
 | true =>
 have hdi':=of_decide_eq_true hdi
 have hin:i<new.length:=by omega
 simp only [kc]
 conv=>arg 2;whnf
 simp -implicitDefEqProofs only [rX,↓rY,qg,qj,qs,rdK,zu,zD,↓reduceIte,Nat.reduceEqDiff,Nat.reduceAdd,cC,↓jn,↓jq,yap,aU]
 have hmn:(sb new).extract i (min (new.length:Int) ((i:Int)+(n:Int))).toNat=sb (pc new n i):=by
  rw [eD]
  congr 1
  unfold pc
  rw [show (min (new.length:Int) ((i:Int)+(n:Int))).toNat=min new.length (i+n) by omega,List.drop_take]
  rcases Nat.le_total (i+n) new.length with h|h
  ·rw [Nat.min_eq_right h];congr 1;omega
  ·rw [Nat.min_eq_left h,yac (by simp),yac (by simp;omega)]
 rw [hmn,vK]
 have hlk:=Im (old:=old) (q:=pc new n i) (b:=n) (j:=nb old.length n)
 have hst:=lG (old:=old) (o:=flO o new p i) hb.1 hin
 rw [hd] at hst
 refine ⟨by simp only [lo,Fx.hi];omega,⟨⟨by omega,by omega⟩,by omega,Int.le_refl _⟩,rfl,?_⟩
 cases hl:lkp (pc new n i) (gV old n (nb old.length n)) 0 with
 | none =>
  have hf:fnd old n (pc new n i)=none:=by
   unfold fnd
   rw [hl] at hlk
   cases h9:mZ old n (pc new n i) (nb old.length n) with
   | none=>rfl
   | some f=>rw [h9] at hlk;simp at hlk
  rw [hf] at hst
  simp -implicitDefEqProofs only [rX,↓rY,aA,↓jt]
  conv=>arg 2;whnf
  simp -implicitDefEqProofs only [rX,↓rY,aA,↓reduceIte,Nat.reduceEqDiff,Nat.reduceAdd,leE,leH,leB,leV,dH,aC,aB,wfE,wfB,wfV,wfL]
  exact ⟨by simp only [lo,Fx.hi];omega,(i+1,p,o),⟨⟨by simp only;omega,by simp only;omega,by simp only;omega,hnb,by show jV old new n (i+1) (flO o new p (i+1))=_;rw [Om hnb hpi hin];exact hst.symm⟩,by simp only;omega⟩,by simp only;omega,⟨bB _,bB _,rfl,rfl⟩,uH,yV,eH (by simp [wfV,aB])⟩
 | some r =>
  obtain ⟨f,hf,hr⟩:∃ f:Nat,fnd old n (pc new n i)=some f∧r.2=.i f:=by
   unfold fnd
   rw [hl] at hlk
   cases h9:mZ old n (pc new n i) (nb old.length n) with
   | none=>rw [h9] at hlk;simp at hlk
   | some f=>rw [h9] at hlk;exact ⟨f,rfl,by simpa using hlk⟩
  rw [hf] at hst
  have hfl:=Oi hf
  have hpl:(pc new n i).length=n:=by
   obtain ⟨j,_,_,_,h4⟩:=sO hf
   exact h4
  rw [vE] at hpl
  obtain ⟨r1,r2⟩:=r
  simp only at hr
  subst hr
  simp -implicitDefEqProofs only [rX,↓rY,↓jr]
  conv=>arg 2;whnf
  simp -implicitDefEqProofs only [rX,↓rY,↓reduceIte,Nat.reduceAdd]
  refine Yg d1 d2 h2 hi (by omega) ⟨rfl,rfl,rfl,rfl,rfl,rfl,rfl,rfl,rfl⟩ f rfl ?_
  rintro e b' hE e17
  simp -implicitDefEqProofs only [qK]
  have hfo:=Ry (o:=o) (new:=new) (p:=p) (i:=i)
  refine Yd hb.1 hb.2 d1 d2 (by omega) hE f (by omega) e17 ?_
  rintro e b' o' tl ⟨e4,e5,e6,e7,e8,e13,e14,e15,e16⟩ ho'
  conv=>arg 2;whnf
  simp -implicitDefEqProofs only [rX]
  conv=>arg 2;whnf
  simp -implicitDefEqProofs only [rX,↓rY,↓reduceIte,Nat.reduceEqDiff,e5,e16]
  refine ⟨by simp only [lo,Fx.hi];omega,?_⟩
  conv=>arg 2;whnf
  simp -implicitDefEqProofs only [rX,↓rY,cells?,splice,↓reduceIte,Nat.reduceEqDiff,leE,leH,leB,leV,dH,aC,aB,wfE,wfB,wfV,wfL,isC,e4,e5,e6,e7,e8,e13,e14,e15]
  have hao:=Pp (o:=flO o new p i) (f:=f) (b:=n)
  subst ho'
  refine ⟨(i+n,i+n,m5 (flO o new p i) f n),⟨⟨yaa _,by simp only;omega,by simp only;omega,Nf,by show jV old new n (i+n) (flO _ new (i+n) (i+n))=_;rw [Dw];exact hst.symm⟩,by simp only;omega⟩,?_⟩
  exact ⟨by simp only;omega,⟨bB _,bB _,by simp only;omega,rfl⟩,uH,yV,eH (by simp [wfV,aB])⟩
end Go.Fx.H
namespace Go.Fx.H
open Go Go.Fx Go.Proofs Go.Fx.R
set_option maxRecDepth 20000
def Gq (old:Bs) (x:Op):Prop:=(x.2.2=[]∧(x.1<0∨x.1≥x.2.1∨x.2.1>old.length))∨(x.2.2≠[]∧(x.1≠0∨x.2.1≠0))
instance {old:Bs} {x:Op}:Decidable (Gq old x):=inferInstanceAs (Decidable (_∨_))
def eR (old:Bs) (x:Op):Bs:=if x.2.2=[] then (old.take x.2.1.toNat).drop x.1.toNat else x.2.2
def apN (old:Bs):List Op→Bs→Option Bs
 | [],o=>some o
 | x::r,o=>if Gq old x then none else if 65536<(o++eR old x).length then none else apN old r (o++eR old x)
def apE (old a b:Bs) (s:Int) (l:List Op):Int :=
 if dig old≠a then 8 else match apN old l [] with
  | none=>3
  | some t=>if (t.length:Int)≠s then 3 else if dig t≠b then 8 else 0
def apR (old a b:Bs) (s:Int) (l:List Op):Bs:=if apE old a b s l≠0 then [] else (apN old l []).getD []
theorem Ei {old:Bs} {l:List Op} {k:Nat} {o:Bs} (h:k<l.length):apN old (l.drop k) o=if Gq old l[k] then none else if 65536<(o++eR old l[k]).length then none else apN old (l.drop (k+1)) (o++eR old l[k]):=by
 rw [List.drop_eq_getElem_cons h];rfl
theorem c23_parts:c23=.seq (pt 0 c23) (.seq (pt 1 c23) (.seq (pt 2 c23) (.seq (pt 3 c23) (.seq (pt 4 c23) (.seq (pt 5 c23) (rt 6 c23)))))):=by rfl
theorem c23l0_parts:c23l0=.seq (pt 0 c23l0) (.seq (.block 1 (.seq (pt 0 (jW (pt 1 c23l0))) (.seq (pt 1 (jW (pt 1 c23l0))) (rt 2 (jW (pt 1 c23l0)))))) (rt 2 c23l0)):=by rfl
abbrev h23 (a b:Bs) (s:Int) (l:List Op) (k:Int):List Blk:=[.var (pe a b s (rO l)),.var [.v (.string (sb [])),.i k]]
structure E23 (old o:Bs) (k:Nat) (e:Env):Prop where
 e6:get e 6=.i k
 e0:get e 0=sv old
 e3:get e 3=.ptr 0 0 0
 e4:get e 4=.ptr 1 0 0
 e5:get e 5=sv o
section
variable {a b:Bs} {s:Int} {l:List Op} {N R:St→Prop} {X:Nat→St→Prop} {e:Env} {bb:Nat} {old o:Bs} {x:Op} {k:Nat}
theorem Yb (h1:old.length≤100000) (hx:x.2.2.length≤100000) (ho:o.length≤65536) (hE:E23 old o k e) (e7:get e 7=.ptr 2 0 0)
  (hN:∀ e b',E23 old o k e→get e 7=.ptr 2 0 0→¬Gq old x→N ⟨e,h23 a b s l 0++[.var (enO x)],b'⟩)
  (hR:∀ e b',get e 4=.ptr 1 0 0→Gq old x→R ⟨e,h23 a b s l 3++[.var (enO x)],b'⟩):aw cE (pt 1 (jW (pt 1 c23l0))) N X R ⟨e,h23 a b s l 0++[.var (enO x)],bb⟩:=by
 obtain ⟨e6,e0,e3,e4,e5⟩:=hE
 conv=>arg 2;whnf
 cases h2:(x.2.2==[]) with
 | true =>
  simp -implicitDefEqProofs only [rX,↓rY,aA,cells?,splice,↓reduceIte,Nat.reduceEqDiff,Nat.reduceAdd,reduceCtorEq,bG,isC,↓jk,cxN,aU,cO,d6,e0,e4,e7,h2]
  have h2':x.2.2=[]:=beq_iff_eq.1 h2
  cases h3:decide (x.1<0) with
  | true=>rw [kc];exact hR _ _ e4 (.inl ⟨h2',.inl (of_decide_eq_true h3)⟩)
  | false =>
  rw [ke]
  cases h4:decide (x.2.1≤x.1) with
  | true=>rw [kc];exact hR _ _ e4 (.inl ⟨h2',.inr (.inl (of_decide_eq_true h4))⟩)
  | false =>
  rw [ke]
  cases h5:decide ((old.length:Int)<x.2.1) with
  | true=>rw [kc];exact hR _ _ e4 (.inl ⟨h2',.inr (.inr (of_decide_eq_true h5))⟩)
  | false =>
  rw [ke]
  refine hN _ _ ⟨e6,e0,e3,e4,e5⟩ e7 ?_
  have:=of_decide_eq_false h3
  have:=of_decide_eq_false h4
  have:=of_decide_eq_false h5
  rintro (⟨_,h⟩|⟨h,_⟩)
  ·omega
  ·exact h h2'
 | false =>
  simp -implicitDefEqProofs only [rX,↓rY,aA,cells?,splice,↓reduceIte,Nat.reduceEqDiff,Nat.reduceAdd,reduceCtorEq,bG,isC,↓jk,cxN,aU,cO,d6,e0,e4,e7,h2]
  have h2':x.2.2≠[]:=beq_eq_false_iff_ne.1 h2
  cases h3:(x.1 != 0) with
  | true=>rw [kc];exact hR _ _ e4 (.inr ⟨h2',.inl (by simpa using h3)⟩)
  | false =>
  rw [ke]
  cases h4:(x.2.1 != 0) with
  | true=>rw [kc];exact hR _ _ e4 (.inr ⟨h2',.inr (by simpa using h4)⟩)
  | false =>
  rw [ke]
  refine hN _ _ ⟨e6,e0,e3,e4,e5⟩ e7 ?_
  have h3':x.1=0:=by simpa using h3
  have h4':x.2.1=0:=by simpa using h4
  rintro (⟨h,_⟩|⟨_,h⟩)
  ·exact h2' h
  ·rcases h with h|h
   ·exact h h3'
   ·exact h h4'
theorem Ya (h1:old.length≤100000) (hx:x.2.2.length≤100000) (ho:o.length≤65536) (hE:E23 old o k e) (e7:get e 7=.ptr 2 0 0) (hb:¬Gq old x)
  (hN:∀ e b',E23 old (o++eR old x) k e→(o++eR old x).length≤65536→N ⟨e,h23 a b s l 0++[.var (enO x)],b'⟩)
  (hR:∀ e b',get e 4=.ptr 1 0 0→65536<(o++eR old x).length→R ⟨e,h23 a b s l 3++[.var (enO x)],b'⟩):aw cE (rt 2 (jW (pt 1 c23l0))) N X R ⟨e,h23 a b s l 0++[.var (enO x)],bb⟩:=by
 obtain ⟨e6,e0,e3,e4,e5⟩:=hE
 conv=>arg 2;whnf
 have hout:(eR old x).length≤100000:=by
  unfold eR
  split
  ·simp;omega
  ·exact hx
 cases h2:(x.2.2==[]) with
 | true =>
  have h2':x.2.2=[]:=beq_iff_eq.1 h2
  have hnb:0≤x.1∧x.1<x.2.1∧x.2.1≤old.length:=by
   have:¬(x.1<0∨x.1≥x.2.1∨x.2.1>old.length):=fun h=>hb (.inl ⟨h2',h⟩)
   omega
  have hoe:eR old x=(old.take x.2.1.toNat).drop x.1.toNat:=if_pos h2'
  simp -implicitDefEqProofs only [rX,↓rY,zD,aA,cells?,splice,↓reduceIte,Nat.reduceEqDiff,Nat.reduceAdd,reduceCtorEq,cC,bG,isC,↓jj,↓jk,cxN,aU,cO,d6,e0,e4,e5,e7,h2,kc]
  rw [eD,Ez,←hoe,aU,aU]
  refine ⟨⟨⟨by omega,by omega⟩,by omega,Int.le_refl _⟩,by omega,?_⟩
  cases h6:decide ((65536:Int)<((o++eR old x).length:Int)) with
  | true =>
   have:=of_decide_eq_true h6
   rw [kc]
   exact hR _ _ e4 (by omega)
  | false =>
   have:=of_decide_eq_false h6
   rw [ke]
   exact hN _ _ ⟨e6,e0,e3,e4,rfl⟩ (by omega)
 | false =>
  have h2':x.2.2≠[]:=beq_eq_false_iff_ne.1 h2
  have hoe:eR old x=x.2.2:=if_neg h2'
  simp -implicitDefEqProofs only [rX,↓rY,zD,aA,cells?,splice,↓reduceIte,Nat.reduceEqDiff,Nat.reduceAdd,reduceCtorEq,cC,bG,isC,↓jj,↓jk,cxN,aU,cO,d6,e0,e4,e5,e7,h2,ke]
  rw [Ez,←hoe,aU]
  refine ⟨by omega,?_⟩
  cases h6:decide ((65536:Int)<((o++eR old x).length:Int)) with
  | true =>
   have:=of_decide_eq_true h6
   rw [kc]
   exact hR _ _ e4 (by omega)
  | false =>
   have:=of_decide_eq_false h6
   rw [ke]
   exact hN _ _ ⟨e6,e0,e3,e4,rfl⟩ (by omega)
end
theorem aeM (old a b:Bs) (s:Int) (l:List Op) (h1:old.length≤100000) (ha:a.length=16) (hb:b.length=16) (hl:l.length≤100000) (hx:∀ x∈l,x.2.2.length≤100000):Ok 23 [sv old,.agg (pe a b s (rO l))] (Is (.agg [sv (apR old a b s l),.i (apE old a b s l)])):=by
 refine bO lw23 (by simp) ?_
 rw [c23_parts]
 have hret:∀ (e:Env) (k:Int) (b':Nat) (tl:List Blk),get e 4=.ptr 1 0 0→apE old a b s l=k→k≠0→eZ [] 0 [fJ.cell 4 (some 2)] (Is (.agg [sv (apR old a b s l),.i (apE old a b s l)])) ⟨e,h23 a b s l k++tl,b'⟩:=by
  intro e k b' tl g4 hk h0
  have e1:apR old a b s l=[]:=if_pos (by rw [hk];exact h0)
  rw [e1,hk]
  simp -implicitDefEqProofs only [rX,↓rY,Nat.reduceAdd,aT,aY,wfV,wfL,g4]
 have hre0:∀ k:Int,apE old a b s l=k→k≠0→V.agg [V.v (Value.string (sb [])),V.v (Value.int IntKind.i64 k)]=V.agg [sv (apR old a b s l),V.i (apE old a b s l)]:=by
  intro k hk h0
  have e1:apR old a b s l=[]:=if_pos (by rw [hk];exact h0)
  rw [e1,hk]
 simp -implicitDefEqProofs only [qK]
 conv=>arg 2;whnf
 simp -implicitDefEqProofs only [rX,↓rY,aA,cells?,↓reduceIte,reduceCtorEq,aD,cxN,d6,aH]
 conv=>arg 2;whnf
 simp -implicitDefEqProofs only [rX,↓rY,rdK,↓reduceIte,Nat.reduceEqDiff,Nat.reduceAdd,reduceCtorEq,Nat.reduceLeDiff,d6,dW,Ke,ha,hb]
 refine aE (Ri old (by omega)) ⟨⟨trivial,trivial⟩,rfl,trivial⟩ (by simp [ren,a6]) trivial ?_
 rw [show cD 34 [old]=dig old from rfl]
 have d1:(dig old).length=16:=a8
 simp -implicitDefEqProofs only [rX,↓rY,aA,cells?,splice,↓reduceIte,Nat.reduceEqDiff,Nat.reduceAdd,bG,aT,aY,wfV,wfL,isC,mL d1 ha]
 cases h4:(dig old==a) with
 | false =>
  have h4':dig old≠a:=beq_eq_false_iff_ne.1 h4
  simp only [Bool.not_false,kc]
  exact hre0 8 (by unfold apE;rw [if_pos h4']) (by decide)
 | true =>
 have h4':dig old=a:=beq_iff_eq.1 h4
 have hE0:apE old a b s l=match apN old l [] with
  | none=>3
  | some t=>if (t.length:Int)≠s then 3 else if dig t≠b then 8 else 0:=if_neg (by simp [h4'])
 simp only [Bool.not_true,ke]
 conv=>arg 2;whnf
 simp -implicitDefEqProofs only [rX,aA,Nat.reduceAdd,d6]
 conv=>arg 2;whnf
 simp -implicitDefEqProofs only [rX,aA,Nat.reduceAdd]
 refine aR (fun g:Nat × Bs=>⟨[(6,.i g.1),(5,sv g.2),(0,sv old),(3,.ptr 0 0 0),(4,.ptr 1 0 0)],h23 a b s l 0,2⟩) (fun g=>g.1≤l.length∧g.2.length≤65536∧apN old (l.drop g.1) g.2=apN old l []) (fun g=>l.length-g.1) (0,[]) ⟨yae _,by simp,rfl⟩ ?_ ?_
 ·simp -implicitDefEqProofs only [rX,↓reduceIte,Nat.reduceEqDiff,reduceCtorEq,leE,leH,leB,leV,dH,aC,aB,wfE,wfB,wfV,wfL]
  exact ⟨rfl,bB _,eH trivial⟩
 rintro ⟨k,o⟩ ⟨hk,ho,hap⟩
 simp only at hk ho hap
 rw [c23l0_parts]
 simp -implicitDefEqProofs only [qK]
 conv=>arg 2;whnf
 simp -implicitDefEqProofs only [rX,↓rY,↓reduceIte,Nat.reduceEqDiff,Nat.reduceAdd,reduceCtorEq,gX,ha,hb]
 intro _
 cases hd:decide ((k:Int)<l.length) with
 | false =>
  have hd':=of_decide_eq_false hd
  have hke:k=l.length:=by omega
  rw [hke,List.drop_length] at hap
  have hap':some o=apN old l []:=hap
  rw [←hap'] at hE0
  simp only at hE0
  simp only [ke]
  conv=>arg 2;whnf
  simp -implicitDefEqProofs only [rX,↓rY,aA,cells?,splice,↓reduceIte,Nat.reduceEqDiff,Nat.reduceAdd,reduceCtorEq,bG,aT,aY,wfV,wfL,isC,aU,d6,To,ha,hb]
  cases h5:((o.length:Int) != s) with
  | true =>
   have h5':(o.length:Int)≠s:=by simpa using h5
   rw [kc]
   exact hre0 3 (by rw [hE0,if_pos h5']) (by decide)
  | false =>
  have h5':¬(o.length:Int)≠s:=by simpa using h5
  rw [if_neg h5'] at hE0
  rw [ke]
  conv=>arg 2;whnf
  simp -implicitDefEqProofs only [rX,↓rY,rdK,↓reduceIte,Nat.reduceEqDiff,Nat.reduceAdd,reduceCtorEq,Nat.reduceLeDiff,d6,dW,Tn,ha,hb]
  refine aE (Ri o (by omega)) ⟨⟨trivial,trivial⟩,rfl,trivial⟩ (by simp [ren,a6]) trivial ?_
  rw [show cD 34 [o]=dig o from rfl]
  have d2:(dig o).length=16:=a8
  simp -implicitDefEqProofs only [rX,↓rY,aA,cells?,splice,↓reduceIte,Nat.reduceEqDiff,Nat.reduceAdd,reduceCtorEq,bG,aT,aY,wfV,wfL,isC,mL d2 hb]
  cases h6:(dig o==b) with
  | false =>
   have h6':dig o≠b:=beq_eq_false_iff_ne.1 h6
   simp only [Bool.not_false,kc]
   exact hre0 8 (by rw [hE0,if_pos h6']) (by decide)
  | true =>
  have h6':¬dig o≠b:=by simpa using h6
  rw [if_neg h6'] at hE0
  simp only [Bool.not_true,ke]
  conv=>arg 2;whnf
  have hR0:apR old a b s l=o:=by
   unfold apR
   rw [hE0,if_neg (by decide),←hap'];rfl
  simp -implicitDefEqProofs only [rX,↓rY,cells?,splice,↓reduceIte,Nat.reduceEqDiff,Nat.reduceAdd,reduceCtorEq,bG,aT,aY,wfV,wfL,isC,Nat.reduceLeDiff,d6,hR0,hE0]
 | true =>
 have hd':=of_decide_eq_true hd
 have hkl:k<l.length:=by omega
 rw [Ei hkl] at hap
 simp only [kc]
 conv=>arg 2;whnf
 simp -implicitDefEqProofs only [rX,↓rY,aA,cells?,splice,↓reduceIte,Nat.reduceEqDiff,Nat.reduceAdd,reduceCtorEq,aD,isC,List.getElem_map,yap,d6,gX,ha,hb]
 refine ⟨⟨by omega,by omega⟩,hkl,?_⟩
 have hxl:=hx _ (yaq hkl)
 refine Yb h1 hxl ho (k:=k) ⟨rfl,rfl,rfl,rfl,rfl⟩ rfl ?_ ?_
 ·rintro e b' hE e7 hnb
  rw [if_neg hnb] at hap
  refine Ya h1 hxl ho hE e7 hnb ?_ ?_
  ·rintro e b' ⟨e6,e0,e3,e4,e5⟩ hlen
   rw [if_neg (by omega)] at hap
   conv=>arg 2;whnf
   simp -implicitDefEqProofs only [rX,↓rY,aA,↓reduceIte,Nat.reduceEqDiff,Nat.reduceAdd,reduceCtorEq,leE,leH,leB,leV,dH,aC,aB,wfE,wfB,wfV,wfL,e0,e3,e4,e5,e6]
   exact ⟨by simp only [lo,Fx.hi];omega,(k+1,o++eR old l[k]),⟨⟨by simp only;omega,by simp only;omega,hap⟩,by simp only;omega⟩,⟨by simp only;omega,rfl⟩,bB _,eH trivial⟩
  ·intro e b' e4 hlen
   rw [if_pos hlen] at hap
   have hap':none=apN old l []:=hap
   rw [←hap'] at hE0
   exact hret _ 3 _ _ e4 hE0 (by decide)
 ·intro e b' e4 hbd
  rw [if_pos hbd] at hap
  have hap':none=apN old l []:=hap
  rw [←hap'] at hE0
  exact hret _ 3 _ _ e4 hE0 (by decide)
end Go.Fx.H
namespace Go.Fx.H
open Go Go.Fx Go.Proofs Go.Fx.R
set_option maxRecDepth 20000
theorem aeQ (a b:List Sp):Ok 16 [aO a,aO b] (Is (.b (a==b))):=by
 refine bO lw16 (by simp) ?_
 unfold c16
 simp -implicitDefEqProofs only [rX,aA,↓reduceIte,Nat.reduceEqDiff,reduceCtorEq,cxN,aH]
 refine aE (aeF a b) ⟨⟨trivial,trivial,trivial⟩,⟨rfl,rfl⟩,⟨rfl,rfl⟩,trivial⟩ rfl trivial ?_
 simp -implicitDefEqProofs only [rX,↓reduceIte,aT,aY,wfV]
abbrev xA:Bs:=[97,98,99,100,101,102,103,104,105,106]
abbrev xB:Bs:=[97,98,99,100,101,88,103,104,105,106]
abbrev yA:Bs:=[97,98,99,100,101,102,103,104]
abbrev yB:Bs:=[97,98,99,100,88,101,102,103,104]
abbrev yC:Bs:=[97,98,99,100,101,102,103,88]
theorem h1:lf [101,88,103,104]≠lf [101,102,103,104]:=by decide +kernel
theorem h2:dig yC≠dig yA:=by decide +kernel
theorem h3:mkE xA 4=0:=by decide
theorem h4:Gu [(0,2),(5,6),(8,9)] 2=[(0,2),(5,9)]:=by decide
theorem h5:Ee [(0,2),(5,6),(8,9)] 2=0:=by decide
abbrev l0:Bs:=lf [97,98,99,100]
abbrev l1:Bs:=lf [101,102,103,104]
abbrev l2:Bs:=lf [105,106]
abbrev lX:Bs:=lf [105,120]
theorem xL:lvs xA 4=[l0,l1,l2]:=by
 have:Pj xA 4=[[97,98,99,100],[101,102,103,104],[105,106]]:=by decide
 unfold lvs;rw [this];rfl
theorem Gz:root [l0,l1]=nd l0 l1:=by
 rw [root,dif_pos (by decide)]
 have e:spl [l0,l1].length=1:=by decide
 rw [e]
 show nd (root [l0]) (root [l1])=_
 rw [root,dif_neg (by decide),root,dif_neg (by decide)];rfl
theorem Qe (x:Bs):root [x]=x:=by rw [root,dif_neg (by simp)];rfl
theorem Kx:root [l0,l1,l2]=nd (nd l0 l1) l2:=by
 rw [root,dif_pos (by decide)]
 have e:spl [l0,l1,l2].length=2:=by decide
 rw [e]
 show nd (root [l0,l1]) (root [l2])=_
 rw [Gz,Qe]
theorem Kz:fB [l0,l1,l2] 2=[nd l0 l1]:=by
 rw [fB,dif_pos (by decide)]
 have e:spl [l0,l1,l2].length=2:=by decide
 rw [e,if_neg (by decide)]
 show fB [l2] 0++[root [l0,l1]]=_
 rw [fB,dif_neg (by decide),Gz];rfl
theorem adG (x p:Bs):cl x 2 3 [p]=nd p x:=by
 have e:spl 3=2:=by decide
 rw [Jd (by decide) (by rw [e];decide),e,Bk (by decide)]
 rfl
theorem h6:nd (nd l0 l1) lX≠nd (nd l0 l1) l2:=by decide +kernel
abbrev xM:Man:=⟨10,4,root [l0,l1,l2]⟩
theorem x_M:mkM xA 4=xM:=by
 unfold mkM
 rw [if_pos h3]
 show (⟨_,_,root (lvs xA 4)⟩:Man)=_
 rw [xL];rfl
theorem x_P:prE xA 4 2=0∧prL xA 4 2=[nd l0 l1]:=by
 have e:¬mkE xA 4≠0:=by rw [h3];decide
 unfold prE prL
 rw [if_neg e,if_neg e]
 show inE (lvs xA 4) 2=0∧inL (lvs xA 4) 2=_
 rw [xL]
 exact ⟨by decide,Kz⟩
theorem x_C:chE xM 2 [105,106] [nd l0 l1]=0:=by
 have e1:xM.n=3:=by decide
 have e2:xM.span 2=(8,10):=by decide
 have e3:ckI l2 2 3 [nd l0 l1] xM.rt=true:=by
  have:=Dm (l:=[l0,l1,l2]) (i:=2) (by decide)
  rw [Kz] at this
  exact this
 unfold chE
 rw [e1,e2,if_neg (by decide),if_neg]
 rw [e3]
 decide
theorem adH:chE xM 2 [105,120] [nd l0 l1]=8:=by
 have e1:xM.n=3:=by decide
 have e2:xM.span 2=(8,10):=by decide
 have e3:ckI lX 2 3 [nd l0 l1] xM.rt=false:=by
  show nI lX 2 3 [nd l0 l1] (root [l0,l1,l2])=false
  unfold nI
  rw [adG,Kx]
  have:=beq_eq_false_iff_ne.2 h6
  rw [this,Bool.and_false]
 unfold chE
 rw [e1,e2,if_neg (by decide),if_pos]
 exact .inr e3
abbrev yO:List Op:=[(0,4,[]),(0,0,[88]),(4,8,[])]
theorem y_E:dfE yA yB 4=0:=by decide
theorem y_O:dfO yA yB 4=yO:=by
 unfold dfO
 rw [if_neg (by rw [y_E];decide)]
 show jV yA yB 4 0 []=_
 have f0:fnd yA 4 (pc yB 4 0)=some 0:=by decide
 have f4:fnd yA 4 (pc yB 4 4)=none:=by decide
 have f5:fnd yA 4 (pc yB 4 5)=some 4:=by decide
 rw [lG (by decide) (by decide),f0]
 show jV yA yB 4 4 _=_
 rw [lG (by decide) (by decide),f4]
 show jV yA yB 4 5 _=_
 rw [lG (by decide) (by decide),f5]
 show jV yA yB 4 9 _=_
 rw [w6 (by decide)]
 decide
theorem y_P (o:V):dfP yA yB 4 o=pe (dig yA) (dig yB) 9 o:=by
 unfold dfP
 rw [if_neg (by rw [y_E];decide)];rfl
theorem y_N:apN yA yO []=some yB:=by decide
theorem y_A:apE yA (dig yA) (dig yB) 9 yO=0:=by
 unfold apE
 rw [if_neg (by simp),y_N]
 simp
theorem y_S:apR yA (dig yA) (dig yB) 9 yO=yB:=by
 unfold apR
 rw [y_A,if_neg (by decide),y_N];rfl
theorem y_B:apE yC (dig yA) (dig yB) 9 yO=8:=by
 unfold apE
 rw [if_pos h2]
theorem y_W:wgt yO=1:=by decide
theorem Xo:dmE xM [l0,l1,l2] xB [(0,10)]=0:=by
 refine dm0 ?_ rfl
 have e1:xM.n=3:=by decide
 have e2:vd [(0,10)]=true:=by decide
 have e3:iW [(0,10)]=10:=by decide
 rw [e1,e2,e3]
 decide
theorem adF:dmL xM [l0,l1,l2] xB [(0,10)]=[(4,8)]:=by
 unfold dmL
 rw [if_neg (by rw [Xo];decide)]
 show ofS (dmO [l0,l1,l2] xB 4 [(0,10)] 3)=_
 have g0:dmg [l0,l1,l2] xB 4 [(0,10)] 0=false:=by
  show ((lf [97,98,99,100] != l0)&&_)=false
  rw [bne_self_eq_false];rfl
 have g2:dmg [l0,l1,l2] xB 4 [(0,10)] 2=false:=by
  show ((lf [105,106] != l2)&&_)=false
  rw [bne_self_eq_false];rfl
 have g1:dmg [l0,l1,l2] xB 4 [(0,10)] 1=true:=by
  show ((lf [101,88,103,104] != l1)&&cov [(0,10)] (spn xB 4 1))=true
  have:(lf [101,88,103,104] != l1)=true:=bne_iff_ne.2 h1
  rw [this]
  decide
 have e0:dmO [l0,l1,l2] xB 4 [(0,10)] 3=[(4,8)]:=by
  rw [lF,lF,lF,g0,g1,g2]
  decide
 rw [e0]
 decide
end Go.Fx.H
namespace Go.Fx.H
open Go Go.Fx Go.Proofs Go.Fx.R
set_option maxRecDepth 20000
abbrev S13:Prop:=Ok 13 [] (Is (.b true))
end Go.Fx.H
namespace Go.Fx.H
open Go Go.Fx Go.Proofs Go.Fx.R
theorem Ln {l:List Sp} (h:∀ s∈l,s.1≤s.2):0≤tot l:=by
 induction l with
 | nil=>simp [tot]
 | cons s r ih =>
  rw [jZ]
  have:=h s List.mem_cons_self
  have:=ih fun t ht=>h t (yal _ ht)
  omega
theorem pick {C G:List Sp} (h:C.Sublist G):∀ {m:Nat},G.Pairwise (fun s t=>s.2-s.1≤t.2-t.1)→(∀ s∈G,s.1≤s.2)→m≤C.length→tot (G.take m)≤tot C:=by
 induction h with
 | slnil=>intro m _ _ hm;simp [tot]
 | @cons C G g hs ih =>
  intro m hp hn hm
  obtain ⟨p1,p2⟩:=List.pairwise_cons.1 hp
  have hn2:∀ s∈G,s.1≤s.2:=fun s hs=>hn s (yal _ hs)
  match m with
  | 0=>rw [List.take_zero];exact Ln fun s hm=>hn2 s (hs.subset hm)
  | m+1 =>
   have h1:=ih p2 hn2 hm
   have hl:=hs.length_le
   have hlt:m<G.length:=by omega
   rw [yau,jZ]
   rw [List.take_add_one,List.getElem?_eq_getElem hlt] at h1
   have h2:tot (G.take m++(some G[m]).toList)=tot (G.take m)+(G[m].2-G[m].1):=by rw [Qt];simp [tot]
   rw [h2] at h1
   have:=p1 _ (yaq hlt)
   omega
 | @cons_cons C G g hs ih =>
  intro m hp hn hm
  obtain ⟨p1,p2⟩:=List.pairwise_cons.1 hp
  match m with
  | 0=>rw [List.take_zero];exact Ln fun s hm=>hn s ((hs.cons_cons g).subset hm)
  | m+1 =>
   have h1:=ih p2 (fun s hs=>hn s (yal _ hs)) (show m≤C.length by simpa using hm)
   rw [yau,jZ,jZ]
   omega
end Go.Fx.H
namespace Go.Fx.H
open Go Go.Fx Go.Proofs Go.Fx.R
set_option maxRecDepth 20000
end Go.Fx.H
namespace Go.Fx.H
open Go Go.Fx Go.Proofs Go.Fx.R
set_option maxRecDepth 20000
theorem abL {f:FuncId} {xs:List V} (h:Ok f xs (Is (.b true))):Fn Tryz.prog f xs [] [] (fun r _=>r=.b true):=(pY h fun r h' hr=>hr.1).2
abbrev tI:Fx.T:=.int .i64
abbrev tDg:Fx.T:=.st (List.replicate 16 (.int .u8))
abbrev tPt:Fx.T:=.st [tDg,tDg,tI,.sl 3 (.st [tI,tI,.str])]
theorem uK {k:IntKind} {x:List V} (h:WfT (.int k) x):∃ n:Int,x=[.v (.int k n)]∧lo k≤n∧n≤hi k:=by
 simpa only [WfT] using h
theorem jL {t:Fx.T} {ts:List Fx.T} {x:List V} (h:tP (t::ts) x):∃ a b,x=a++b∧WfT t a∧tP ts b:=by
 rwa [tP.eq_2] at h
theorem exM {α β:Type} {g:α→β} {p:α→Prop}:∀ {els:List β},(∀ x∈els,∃ a,x=g a∧p a)→∃ l:List α,els=l.map g∧∀ a∈l,p a
 | [],_=>⟨[],rfl,by simp⟩
 | x::r,h=>by
  obtain ⟨a,rfl,ha⟩:=h x List.mem_cons_self
  obtain ⟨l,rfl,hl⟩:=exM (els:=r) fun y hy=>h y (yal _ hy)
  exact ⟨a::l,rfl,fun b hb=>(List.mem_cons.1 hb).elim (fun e=>e▸ha) (hl b)⟩
theorem abH {n:Int} (h:lo .i64≤n∧n≤hi .i64):-9223372036854775808≤n∧n≤9223372036854775807:=h
theorem Uu {x:V} (h:WfV tI x):∃ n:Int,x=.i n∧-9223372036854775808≤n∧n≤9223372036854775807:=by
 obtain ⟨n,h1,h2⟩:=uK (show WfT tI [x] from h)
 exact ⟨n,by simpa using h1,abH h2⟩
theorem La {x:V} (h:WfV .str x):∃ l:Bs,x=sv l:=by
 obtain ⟨s,h1,_⟩:=(show WfT .str [x] from h)
 obtain ⟨l,rfl⟩:=Tm (b:=s)
 exact ⟨l,by simpa using h1⟩
theorem Te:∀ {n:Nat} {x:List V},tP (List.replicate n (.int .u8)) x→∃ l:Bs,l.length=n∧x=us l
 | 0,x,h=>⟨[],rfl,by simpa [tP,us] using h⟩
 | n+1,x,h=>by
  rw [yat] at h
  obtain ⟨_,_,e0,q0,hr⟩:=jL h
  obtain ⟨m,rfl,h0⟩:=uK q0
  obtain ⟨l,rfl,rfl⟩:=Te hr
  subst e0
  obtain ⟨k,rfl⟩:=Int.eq_ofNat_of_zero_le (show 0≤m from h0.1)
  have hk:k<256:=by
   have:(k:Int)≤255:=h0.2
   omega
  refine ⟨UInt8.ofNat k::l,rfl,?_⟩
  have e:(UInt8.ofNat k).toNat=k:=by simp;omega
  simp [us,u8,e]
theorem Tf {x:List V} (h:WfT tDg x):∃ d:Bs,x=us d∧d.length=16:=by
 rw [WfT] at h
 obtain ⟨d,h1,h2⟩:=Te h
 exact ⟨d,h2,h1⟩
end Go.Fx.H
namespace Go.Proofs
open Go.Shelf
def Tryz.bldRen:Go.Shelf.Ren:=⟨fun|166=>74|240=>121|276=>157|169=>76|170=>75|n=>n,fun|0=>0|3=>3|4=>4|9=>9|20=>20|5=>5|37=>122|70=>121|72=>124|75=>126|76=>126|80=>129|164=>231|127=>187|n=>n,fun|n=>n⟩
theorem Tryz.bld166:Go.Proofs.Lays.n166 Tryz.prog Tryz.bldRen:={
 mixed:=by kernel_rfl
 f166:=Tryz.func74.trans (congrArg some (by kernel_rfl))
 f240:=Tryz.func121.trans (congrArg some (by kernel_rfl))
 f276:=Tryz.func157.trans (congrArg some (by kernel_rfl))
 t0:=Tryz.underlying0
 a0:=Tryz.isAgg0
 z0:=Tryz.sizeOf0
 v0:=Tryz.zeroValue0
 t3:=Tryz.underlying3
 a3:=Tryz.isAgg3
 z3:=Tryz.sizeOf3
 v3:=Tryz.zeroValue3
 t4:=Tryz.underlying4
 a4:=Tryz.isAgg4
 z4:=Tryz.sizeOf4
 v4:=Tryz.zeroValue4
 t9:=Tryz.underlying9
 a9:=Tryz.isAgg9
 z9:=Tryz.sizeOf9
 v9:=Tryz.zeroValue9
 t20:=Tryz.underlying20
 a20:=Tryz.isAgg20
 z20:=Tryz.sizeOf20
 v20:=Tryz.zeroValue20
 t37:=Tryz.underlying122
 a37:=Tryz.isAgg122
 z37:=Tryz.sizeOf122
 v37:=Tryz.zeroValue122
 t70:=Tryz.underlying121
 a70:=Tryz.isAgg121
 z70:=Tryz.sizeOf121
 v70:=Tryz.zeroValue121
 t72:=Tryz.underlying124
 a72:=Tryz.isAgg124
 z72:=Tryz.sizeOf124
 v72:=Tryz.zeroValue124
 t75:=Tryz.underlying126
 a75:=Tryz.isAgg126
 z75:=Tryz.sizeOf126
 v75:=Tryz.zeroValue126
 t164:=Tryz.underlying231
 a164:=Tryz.isAgg231
 z164:=Tryz.sizeOf231
 v164:=Tryz.zeroValue231 }
theorem Tryz.bld169:Go.Proofs.Lays.n169 Tryz.prog Tryz.bldRen:={
 mixed:=by kernel_rfl
 f169:=Tryz.func76.trans (congrArg some (by kernel_rfl))
 t0:=Tryz.underlying0
 a0:=Tryz.isAgg0
 z0:=Tryz.sizeOf0
 v0:=Tryz.zeroValue0
 t3:=Tryz.underlying3
 a3:=Tryz.isAgg3
 z3:=Tryz.sizeOf3
 v3:=Tryz.zeroValue3
 t9:=Tryz.underlying9
 a9:=Tryz.isAgg9
 z9:=Tryz.sizeOf9
 v9:=Tryz.zeroValue9
 t37:=Tryz.underlying122
 a37:=Tryz.isAgg122
 z37:=Tryz.sizeOf122
 v37:=Tryz.zeroValue122
 t70:=Tryz.underlying121
 a70:=Tryz.isAgg121
 z70:=Tryz.sizeOf121
 v70:=Tryz.zeroValue121
 t72:=Tryz.underlying124
 a72:=Tryz.isAgg124
 z72:=Tryz.sizeOf124
 v72:=Tryz.zeroValue124
 t127:=Tryz.underlying187
 a127:=Tryz.isAgg187
 z127:=Tryz.sizeOf187
 v127:=Tryz.zeroValue187 }
theorem Tryz.bld170:Go.Proofs.Lays.n170 Tryz.prog Tryz.bldRen:={
 mixed:=by kernel_rfl
 f170:=Tryz.func75.trans (congrArg some (by kernel_rfl))
 t0:=Tryz.underlying0
 a0:=Tryz.isAgg0
 z0:=Tryz.sizeOf0
 v0:=Tryz.zeroValue0
 t3:=Tryz.underlying3
 a3:=Tryz.isAgg3
 z3:=Tryz.sizeOf3
 v3:=Tryz.zeroValue3
 t37:=Tryz.underlying122
 a37:=Tryz.isAgg122
 z37:=Tryz.sizeOf122
 v37:=Tryz.zeroValue122
 t70:=Tryz.underlying121
 a70:=Tryz.isAgg121
 z70:=Tryz.sizeOf121
 v70:=Tryz.zeroValue121
 t72:=Tryz.underlying124
 a72:=Tryz.isAgg124
 z72:=Tryz.sizeOf124
 v72:=Tryz.zeroValue124 }
theorem Tryz.bldX:Builder.Extra Tryz.prog Tryz.bldRen:={
 sizeBuilder:=by kernel_rfl
 liesBuilder:=by kernel_rfl
 t5:=Tryz.underlying5
 a5:=Tryz.isAgg5
 z5:=Tryz.sizeOf5
 v5:=Tryz.zeroValue5
 infoByte:=by kernel_rfl
 cellsByte:=by kernel_rfl
 sizeByte:=by kernel_rfl
 neB5:=by decide }
end Go.Proofs
namespace Go.Fx.H
open Go Go.Fx Go.Proofs Go.RowKit
theorem yQ {w w':World} {ρ:Nat→Loc} {X:Nat→Prop} (hr:Rep ρ X w []) (h:Below w.heap.size w w'):Fr ρ w ρ w':=⟨h.os,h.tape,h.output,h.size,fun b hb ho=>⟨h.block b hb,ho⟩⟩
theorem u0 {w w':World} {ρ:Nat→Loc} {X:Nat→Prop} (hr:Rep ρ X w []) (h:Below w.heap.size w w'):Rep ρ X w' [] :=
 ⟨hr.inj,hr.out,fun k b hk=>by simp at hk,hr.disj,fun k hk=>Nat.lt_of_lt_of_le (hr.lt k hk) h.size,hr.xfr (yQ hr h)⟩
theorem Pl {w w':World} {ρ ρ':Nat→Loc} {X:Nat→Prop} (hr:Rep ρ X w []) (h:Fr ρ w ρ' w'):Below w.heap.size w w':=by
 have hown:∀ b,¬Own ρ b:=by
  rintro b ⟨k,hk,_⟩
  rw [hr.out k (yae _)] at hk;cases hk
 exact ⟨h.os,h.tape,h.output,h.size,fun b hb=>(h.keep b hb (hown b)).1⟩
theorem y9 {w:World} {ρ:Nat→Loc} {X:Nat→Prop}:∀ {t:Bs} {a:List Value},bJ ρ X w (us t) a→a=t.map fun c=>Value.int .u8 c.toNat
 | [],[],_=>rfl
 | [],_::_,h=>by simp only [us,List.map_nil,bJ] at h
 | _::_,[],h=>by simp only [us,yar,bJ] at h
 | c::r,v::a,h=>by
  simp only [us,yar,bJ] at h
  have h3:v=.int .u8 c.toNat:=h.1
  have h4:a=r.map fun c=>Value.int .u8 c.toNat:=y9 (ρ:=ρ) (X:=X) (w:=w) (t:=r) (a:=a) (by unfold us;exact h.2)
  rw [h3,h4];rfl
theorem Ue {w w1:World} {ρ:Nat→Loc} {X:Nat→Prop} (hr:Rep ρ X w []) (hb:Below w.heap.size w w1) (t:Bs) (h:t.length≤100000000000) :
  Calls Tryz.prog 70 #[.string (sb t)] w1 fun e w2=>e=.returned (.agg ((dig t).map fun c=>Value.int .u8 c.toNat).toArray)∧Below w1.heap.size w1 w2:=by
 have hr1:=u0 hr hb
 refine Calls.mono ((Wd t h).2 ρ X w1 [.string (sb t)] hr1 ⟨rfl,trivial⟩) ?_
 rintro e w2 ⟨val,r,h',ρ',rfl,⟨⟨rfl,rfl⟩,_⟩,hf,hr2,hv,_⟩
 refine ⟨?_,Pl hr1 hf⟩
 obtain ⟨a,rfl,ha⟩:=hv
 have:=y9 (t:=dig t) ha
 rw [←this]
end Go.Fx.H
namespace Go.Fx.H
open Go Go.Fx Go.Proofs Go.RowKit
set_option maxHeartbeats 4000000
set_option maxRecDepth 1000000
abbrev usV (t:Bs):List Value:=t.map fun c=>Value.int .u8 c.toNat
theorem Fg {w:World} {ρ:Nat→Loc} {X:Nat→Prop}:∀ {t:Bs},bJ ρ X w (us t) (usV t)
 | []=>by simp only [us,List.map_nil,bJ]
 | c::r=>by
  have h:=Fg (ρ:=ρ) (X:=X) (w:=w) (t:=r)
  unfold us at h
  simp only [us,yar,bJ]
  exact ⟨rfl,h⟩
theorem Oo {a b:Bs} (ha:a.length=16) (hb:b.length=16) (w:World):Sem.run Tryz.prog (Op.equalIn 10000 23 (.agg (usV a).toArray) (.agg (usV b).toArray)) w=.ok (a==b) w:=by
 have h1:bJ (fun _=>default) (fun _=>False) w (us a) (usV a).toArray.toList:=Fg
 have h2:bJ (fun _=>default) (fun _=>False) w (us b) (usV b).toArray.toList:=Fg
 have hK:=mL ha hb (K:=fun t=>t=(a==b))
 obtain ⟨t,ht,hrun⟩:=vZ (P:=Tryz.prog) h1 h2 (d:=4) (D:=10000) (by omega) (t:=23) (ks:=(List.range' 0 16).map fun i=>(i,.int .u8)) (K:=fun t=>t=(a==b)) (by kernel_rfl) (by kernel_rfl) (hK.mpr rfl)
 rw [hrun w,ht]
def pcs (a b:Bs) (s:Int) (o:Value):Array Value:=((a.map fun c=>Value.int .u8 c.toNat)++((b.map fun c=>Value.int .u8 c.toNat)++[.int .i64 s,o])).toArray
def Bx (B:Nat) (A A':List Value) (s:Int) (o:Value) (w:World):Prop:=w.rangeAt B 0 A∧w.rangeAt B 16 A'∧w.cell? ⟨B,32,none⟩=some (.int .i64 s)∧w.cell? ⟨B,33,none⟩=some o∧B<w.heap.size
theorem Bx.of {w:World} {a b:Bs} {s:Int} {o:Value} (ha:a.length=16) (hb:b.length=16):Bx w.heap.size (usV a) (usV b) s o (w.alloc (.cells (pcs a b s o) 43)).drew:=by
 have hbk:(w.alloc (.cells (pcs a b s o) 43)).drew.heap[w.heap.size]?=some (.cells (pcs a b s o) 43 (0,0)):=by
  show (w.heap.push _)[w.heap.size]?=_
  exact Array.getElem?_push_size
 have e0:((pcs a b s o).extract 0 (0+16)).toList=usV a:=by unfold pcs;simp [ha]
 have e1:((pcs a b s o).extract 16 (16+16)).toList=usV b:=by unfold pcs;simp [ha,hb]
 have e2:(pcs a b s o)[32]?=some (.int .i64 s):=by
  unfold pcs
  rw [yav,yag (by simp [ha]),yag (by simp [ha,hb])]
  simp [ha,hb]
 have e3:(pcs a b s o)[33]?=some o:=by
  unfold pcs
  rw [yav,yag (by simp [ha]),yag (by simp [ha,hb])]
  simp [ha,hb]
 refine ⟨?_,?_,?_,?_,?_⟩
 ·rw [←e0];exact World.rangeAt_of_block hbk 0 16
 ·rw [←e1];exact World.rangeAt_of_block hbk 16 16
 ·simp only [World.cell?,hbk];exact e2
 ·simp only [World.cell?,hbk];exact e3
 ·show w.heap.size<(w.heap.push _).size
  rw [Array.size_push];omega
theorem Bx.below {B:Nat} {A A':List Value} {s:Int} {o:Value} {w w':World} {n:Nat} (h:Bx B A A' s o w) (hb:Below n w w') (hn:B<n):Bx B A A' s o w':=by
 obtain ⟨h1,h2,h3,h4,h5⟩:=h
 refine ⟨fun j v hj=>?_,fun j v hj=>?_,?_,?_,Nat.lt_of_lt_of_le h5 hb.size⟩
 ·rw [hb.cell (p:=⟨B,0+j,none⟩) hn];exact h1 j v hj
 ·rw [hb.cell (p:=⟨B,16+j,none⟩) hn];exact h2 j v hj
 ·rw [hb.cell (p:=⟨B,32,none⟩) hn];exact h3
 ·rw [hb.cell (p:=⟨B,33,none⟩) hn];exact h4
theorem Kh {B b:Nat} {bs:List Value} {w:World} (h:Lib.IsBuilder 124 5 B b bs w) (ob:Obj):Lib.IsBuilder 124 5 B b bs (w.alloc ob):=by
 have one:∀ p,Lib.BuilderAt 124 5 B b p bs w→Lib.BuilderAt 124 5 B b p bs (w.alloc ob):=by
  intro p hp
  have hlt:=hp.lt
  obtain ⟨hB,v,hb,hown,hne⟩:=hp
  exact ⟨hB,v,by rw [Below.heap_alloc w ob b hlt];exact hb,hown.alloc ob,hne⟩
 exact h.imp (one _) (one _)
theorem abC {B:Nat} {A A':List Value} {s:Int} {o:Value} {w w' w1:World} (h:w'.rangeAt B 0 A∧Bx B A A' s o w'∧Below B w w') (hb:Below w'.heap.size w' w1):w1.rangeAt B 0 A∧Bx B A A' s o w1∧Below B w w1:=by
 have h2:=h.2.1.below hb h.2.1.2.2.2.2
 exact ⟨h2.1,h2,h.2.2.trans (hb.mono (yaf h.2.1.2.2.2.2))⟩
theorem abB {B:Nat} {A A':List Value} {s:Int} {o:Value} {W w w' w1:World} (h:w'.rangeAt B 16 A'∧Bx B A A' s o w'∧Below W.heap.size W w'∧Below w.heap.size w w') (hb:Below w'.heap.size w' w1):w1.rangeAt B 16 A'∧Bx B A A' s o w1∧Below W.heap.size W w1∧Below w.heap.size w w1:=by
 have h2:=h.2.1.below hb h.2.1.2.2.2.2
 exact ⟨h2.2.1,h2,h.2.2.1.trans (hb.mono h.2.2.1.size),h.2.2.2.trans (hb.mono h.2.2.2.size)⟩
theorem Wo {B:Nat} {A A':List Value} {s:Int} {o:Value} {W w w':World} (h:w'.rangeAt B 16 A'∧Bx B A A' s o w'∧Below W.heap.size W w'∧Below w.heap.size w w'):Below w.heap.size w w':=h.2.2.2
theorem Sr {w:World} {ρ:Nat→Loc} {X:Nat→Prop} (hr:Rep ρ X w []) (old a b:Bs) (s:Int) (l:List Op) (blk off:Nat) (pp:Option Addr) (cap:Nat) (h1:old.length≤100000) (ha:a.length=16) (hb:b.length=16) (hl:l.length≤100000) (hx:∀ x∈l,x.2.2.length≤100000) (hpp:l≠[]→pp=some ⟨blk,off,none⟩) (hop:∀ k (h:k<l.length),w.cell? ⟨blk,off+k*3,none⟩=some (.int .i64 l[k].1)∧w.cell? ⟨blk,off+k*3+1,none⟩=some (.int .i64 l[k].2.1)∧w.cell? ⟨blk,off+k*3+2,none⟩=some (.string (sb l[k].2.2))∧blk<w.heap.size) :
  Calls Tryz.prog 22 #[.string (sb old),.agg (pcs a b s (.slice pp l.length cap))] w fun e w'=>e=.returned (.tuple #[.string (sb (apR old a b s l)),.int .i64 (apE old a b s l)])∧Below w.heap.size w w':=by
 go_enter Tryz.func22,Tryz.ntmps22
 go_wp2
 have u23:=Tryz.underlying23
 have hbx:=Bx.of (w:=w) (s:=s) (o:=.slice pp l.length cap) ha hb
 generalize pcs a b s (.slice pp l.length cap)=C at *
 have hbe:Below w.heap.size w (w.alloc (.cells C 43)).drew:=((Below.refl _ w).alloc (yaa _) _).drew
 have hdl:(dig old).length=16:=a8
 have heq:=fun w1=>Oo hdl ha w1
 have heq2:=fun (t:Bs) w1=>Oo (a:=dig t) a8 hb w1
 have hdg2:∀ (t:Bs) w1,t.length≤65536→Below w.heap.size w w1→Calls Tryz.prog 70 #[.string (sb t)] w1 fun e w2=>e=.returned (.agg (usV (dig t)).toArray)∧Below w1.heap.size w1 w2:=fun t w1 ht hb=>Ue hr hb t (by omega)
 have hal:(usV a).length=16:=by rw [List.length_map,ha]
 have hbl:(usV b).length=16:=by rw [List.length_map,hb]
 have hdg:∀ w1,Below w.heap.size w w1→Calls Tryz.prog 70 #[.string (sb old)] w1 fun e w2=>e=.returned (.agg (usV (dig old)).toArray)∧Below w1.heap.size w1 w2:=fun w1 hb=>Ue hr hb old (by omega)
 generalize usV a=A at *
 generalize usV b=A' at *
 generalize usV (dig old)=D at *
 have i23:(Tryz.prog.info? 23).map (·.size)=some A.length:=by rw [hal];rfl
 go_region_held3 (fun w'=>w'.rangeAt w.heap.size 0 A∧Bx w.heap.size A A' s (.slice pp l.length cap) w'∧Below w.heap.size w w') (first|exact ⟨hbx.1,hbx,hbe⟩|exact abC (by assumption) (by assumption))
  (first|(go_at_call 70;refine (hdg _ ?_).mono ?_;(first|assumption|(rename_i hs;exact hs.2.2));rintro e w1 ⟨rfl,hb1⟩))
 rename_i w1 hs
 obtain ⟨-,hb1,hbw⟩:=hs
 have hB0:=hb1.2.2.2.2
 have hfb:Below w1.heap.size w1 (w1.alloc (Obj.cells #[Value.pointer none,Value.slice none 0 0] 124)):=(Below.refl _ w1).alloc (yaa _) _
 have c33:=(hb1.below hfb hB0).2.2.2.1
 by_cases hq:(!dig old==a)=true
 ·go_wp2
  ·go_ret2
   have h0:apE old a b s l=8:=by unfold apE;rw [if_pos (by simpa using hq)]
   have h9:apR old a b s l=[]:=by unfold apR;rw [if_pos (by rw [h0];decide)]
   rw [h0,h9]
   exact ⟨rfl,hbw⟩
  ·exfalso
   have hf:(!dig old==a)=false:=by assumption
   rw [hq] at hf;cases hf
 ·go_wp2
  have hdq:dig old=a:=by simpa using hq
  have hE0:apE old a b s l=match apN old l [] with
   | none=>3
   | some t=>if (t.length:Int)≠s then 3 else if dig t≠b then 8 else 0:=if_neg (by simp [hdq])
  have hwB:w.heap.size<w1.heap.size:=hB0
  have hqf:(!dig old==a)=false:=by simpa using hq
  rw [hqf]
  go_loopw [18] (fun i wr=>∃ (k:Nat) (o:Bs),i=.int .i64 k∧k≤l.length∧o.length≤65536∧apN old (l.drop k) o=apN old l []∧Lib.IsBuilder 124 5 w1.heap.size w1.heap.size (Lib.byteCells o) wr∧Below w1.heap.size w1 wr) (fun i _=>l.length-(Go.RowKit.intOf i).toNat)
  case atStart=>exact ⟨0,[],rfl,yae _,by simp,rfl,Lib.fresh_isBuilder 124 5 w1,hfb⟩
  case round =>
   obtain ⟨k,o,rfl,hk,ho,hap,hI,hbwr⟩:=hrel
   by_cases hp:k<l.length
   ·rw [hpp (fun h=>by rw [h] at hp;exact yam _ hp)]
    obtain ⟨p0,p1,p2,p3⟩:=hop k hp
    have hbb:=hbw.trans (hbwr.mono (yaf hwB))
    rw [←hbb.cell (p:=⟨blk,off+k*3,none⟩) p3] at p0
    rw [←hbb.cell (p:=⟨blk,off+k*3+1,none⟩) p3] at p1
    rw [←hbb.cell (p:=⟨blk,off+k*3+2,none⟩) p3] at p2
    rw [Ei hp] at hap
    have hxk:=hx _ (yaq hp)
    have hpt:(k:Int)<(l.length:Int):=by omega
    generalize l[k]=x at *
    by_cases hbad:Gq old x
    ·rw [if_pos hbad] at hap
     have hap':none=apN old l []:=hap
     rw [←hap'] at hE0
     have hE3:apE old a b s l=3:=hE0
     have hR3:apR old a b s l=[]:=by unfold apR;rw [if_pos (by rw [hE3];decide)]
     have hend:∀ W,Below wr.heap.size wr W→Below w.heap.size w W:=fun W hW=>hbb.trans (hW.mono hbb.size)
     have hAl:Below wr.heap.size wr (wr.alloc (Obj.cells #[.int .i64 x.1,.int .i64 x.2.1,.string (sb x.2.2)] 109)):=(Below.refl _ wr).alloc (yaa _) _
     have hAl2:=hend _ hAl
     rcases hbad with ⟨he,hbd⟩|⟨he,hbd⟩
     ·have hS:(sb x.2.2).toList=[]:=by rw [cO];exact he
      have hSz:((sb x.2.2).size:Int)=x.2.2.length:=rfl
      generalize sb x.2.2=S at *
      go_wp2_with fail
      all_goals (first|(go_ret2;exact ⟨rfl,hAl2⟩)|(exfalso;simp only [aU] at *;omega))
     ·have hS:¬(sb x.2.2).toList=[]:=by rw [cO];exact he
      have hS2:(sb x.2.2).toList.isEmpty=false:=by rw [yaw];exact hS
      generalize sb x.2.2=S at *
      go_wp2_with fail
      all_goals (first|(go_ret2;exact ⟨rfl,hend _ ((Below.refl _ wr).alloc (yaa _) _)⟩)|skip)
    ·rw [if_neg hbad] at hap
     have hI2:=Kh hI (Obj.cells #[.int .i64 x.1,.int .i64 x.2.1,.string (sb x.2.2)] 109)
     have hA109:Below w1.heap.size w1 (wr.alloc (Obj.cells #[.int .i64 x.1,.int .i64 x.2.1,.string (sb x.2.2)] 109)):=hbwr.alloc hbwr.size _
     have hout:(eR old x).length≤100000:=by
      unfold eR
      split
      ·simp;omega
      ·exact hxk
     by_cases he:x.2.2=[]
     ·have hoe:eR old x=(old.take x.2.1.toNat).drop x.1.toNat:=if_pos he
      have hnb:0≤x.1∧x.1<x.2.1∧x.2.1≤old.length:=by
       have:¬(x.1<0∨x.1≥x.2.1∨x.2.1>old.length):=fun h=>hbad (.inl ⟨he,h⟩)
       omega
      have hS:(sb x.2.2).toList=[]:=by rw [cO];exact he
      have hn1:=hnb.1
      have hn2:x.1≤x.2.1:=by omega
      have hn3:x.2.1≤((sb old).size:Int):=hnb.2.2
      have hn4:=hnb.2.1
      have hsx:(sb old).extract x.1.toNat x.2.1.toNat=sb (eR old x):=by rw [eD,hoe]
      clear hnb hoe
      generalize sb x.2.2=S at *
      go_wp2_with (go_at_call 74;refine (Any.Builder_WriteString Tryz.bld166 Tryz.bldX _ _ _ _ _ hI2 ?_ hA109.size).mono ?_)
      ·rw [Lib.byteCells_length];show o.length+(eR old x).length≤_;omega
      rintro e W1 ⟨rfl,h1b,b1⟩
      have hI3:Lib.IsBuilder 124 5 w1.heap.size w1.heap.size (Lib.byteCells (o++eR old x)) W1:=.inr (by rw [Lib.byteCells_append];exact h1b)
      have hB3:Below w1.heap.size w1 W1:=hA109.trans b1
      go_wp2_with (go_at_call 75;refine (Any.Builder_Len Tryz.bld170 _ _ _ _ hI3).mono ?_)
      rintro e W2 ⟨rfl,rfl⟩
      have hlo:((o++eR old x).length:Int)=(o.length:Int)+((eR old x).length:Int):=by rw [yaj];omega
      by_cases h65:65536<(o++eR old x).length
      ·rw [if_pos h65] at hap
       have hap':none=apN old l []:=hap
       rw [←hap'] at hE0
       have hE3:apE old a b s l=3:=hE0
       have hR3:apR old a b s l=[]:=by unfold apR;rw [if_pos (by rw [hE3];decide)]
       go_wp2
       ·go_ret2
        rw [hE3,hR3]
        exact ⟨rfl,hbw.trans (hB3.mono (yaf hwB))⟩
       ·exfalso;have h3:=Lib.byteCells_length (o++eR old x);omega
      ·rw [if_neg h65] at hap
       go_wp2
       ·exfalso;have h3:=Lib.byteCells_length (o++eR old x);omega
       ·go_roundw
        case rel=>exact ⟨k+1,o++eR old x,by simp,by omega,by omega,hap,hI3,hB3⟩
        case measure=>simp only [Go.RowKit.intOf];omega
     ·have hoe:eR old x=x.2.2:=if_neg he
      have h0:x.1=0∧x.2.1=0:=by
       have:¬(x.1≠0∨x.2.1≠0):=fun h=>hbad (.inr ⟨he,h⟩)
       omega
      have hS:¬(sb x.2.2).toList=[]:=by rw [cO];exact he
      have hS2:(sb x.2.2).toList.isEmpty=false:=by rw [yaw];exact hS
      obtain ⟨h01,h02⟩:=h0
      rw [←hoe] at hS hS2 hI2 hA109 p2
      rw [h01] at hI2 hA109 p0
      rw [h02] at hI2 hA109 p1
      clear hoe
      go_wp2_with (go_at_call 74;refine (Any.Builder_WriteString Tryz.bld166 Tryz.bldX _ _ _ _ _ hI2 ?_ hA109.size).mono ?_)
      ·rw [Lib.byteCells_length];show o.length+(eR old x).length≤_;omega
      rintro e W1 ⟨rfl,h1b,b1⟩
      have hI3:Lib.IsBuilder 124 5 w1.heap.size w1.heap.size (Lib.byteCells (o++eR old x)) W1:=.inr (by rw [Lib.byteCells_append];exact h1b)
      have hB3:Below w1.heap.size w1 W1:=hA109.trans b1
      go_wp2_with (go_at_call 75;refine (Any.Builder_Len Tryz.bld170 _ _ _ _ hI3).mono ?_)
      rintro e W2 ⟨rfl,rfl⟩
      have hlo:((o++eR old x).length:Int)=(o.length:Int)+((eR old x).length:Int):=by rw [yaj];omega
      by_cases h65:65536<(o++eR old x).length
      ·rw [if_pos h65] at hap
       have hap':none=apN old l []:=hap
       rw [←hap'] at hE0
       have hE3:apE old a b s l=3:=hE0
       have hR3:apR old a b s l=[]:=by unfold apR;rw [if_pos (by rw [hE3];decide)]
       go_wp2
       ·go_ret2
        rw [hE3,hR3]
        exact ⟨rfl,hbw.trans (hB3.mono (yaf hwB))⟩
       ·exfalso;have h3:=Lib.byteCells_length (o++eR old x);omega
      ·rw [if_neg h65] at hap
       go_wp2
       ·exfalso;have h3:=Lib.byteCells_length (o++eR old x);omega
       ·go_roundw
        case rel=>exact ⟨k+1,o++eR old x,by simp,by omega,by omega,hap,hI3,hB3⟩
        case measure=>simp only [Go.RowKit.intOf];omega
   ·have hke:k=l.length:=by omega
    subst hke
    rw [List.drop_length] at hap
    have hap':some o=apN old l []:=hap
    rw [←hap'] at hE0
    simp only at hE0
    go_wp2_with (go_at_call 76;refine (Any.Builder_String_any_f Tryz.bld169 Tryz.bldX _ _ o _ (Lib.IsBuilderF.of hI) hbwr.size).mono ?_)
    rintro e W1 ⟨rfl,hF,b1⟩
    have hB3:Below w1.heap.size w1 W1:=hbwr.trans b1
    have hbx1:=hb1.below hB3 hB0
    have c32:=hbx1.2.2.1
    have hbw1:Below w.heap.size w W1:=hbw.trans (hB3.mono (yaf hwB))
    have hs1:W1.drew.rangeAt w.heap.size 16 A'∧Bx w.heap.size A A' s (.slice pp l.length cap) W1.drew∧Below W1.heap.size W1 W1.drew∧Below w.heap.size w W1.drew:=⟨(hbx1.below ((Below.refl W1.heap.size W1).drew) hbx1.2.2.2.2).2.1,hbx1.below ((Below.refl W1.heap.size W1).drew) hbx1.2.2.2.2,(Below.refl _ _).drew,hbw1.drew⟩
    have heq3:=heq2 o
    have hdg3:=fun w'=>hdg2 o w' ho
    generalize usV (dig o)=D3 at *
    have i23':(Tryz.prog.info? 23).map (·.size)=some A'.length:=by rw [hbl];rfl
    go_wp2
    ·have hne:(o.length:Int)≠s:=by
      have hn:¬(((({ data:=yas o }:ByteArray).size:Nat):Int)=s):=by first|assumption|(simp only [aU] at *;assumption)|(simp at *;assumption)
      exact hn
     rw [if_pos hne] at hE0
     have hR3:apR old a b s l=[]:=by unfold apR;rw [if_pos (by rw [hE0];decide)]
     go_ret2
     rw [hE0,hR3]
     exact ⟨rfl,hbw1⟩
    ·show Code.wp _ _ _ _ _
     go_region_held3 (fun w'=>w'.rangeAt w.heap.size 16 A'∧Bx w.heap.size A A' s (.slice pp l.length cap) w'∧Below W1.heap.size W1 w'∧Below w.heap.size w w') (first|exact hs1|exact abB (by assumption) (by assumption))
      (first|(go_at_call 70;refine (hdg3 _ ?_).mono ?_;(exact Wo (by assumption));rintro e w1 ⟨rfl,hb1⟩))
     rename_i W2 hs2
     obtain ⟨-,-,hb2,hbw2⟩:=hs2
     by_cases hq2:(!dig o==b)=true
     ·go_wp2
      ·have hs2:(o.length:Int)=s:=by
        have hn:(((({ data:=yas o }:ByteArray).size:Nat):Int)=s):=by first|assumption|(simp only [aU] at *;assumption)|(simp at *;assumption)
        exact hn
       have hdb:dig o≠b:=by simpa using hq2
       rw [if_neg (by simpa using hs2),if_pos hdb] at hE0
       have hR8:apR old a b s l=[]:=by unfold apR;rw [if_pos (by rw [hE0];decide)]
       go_ret2
       rw [hE0,hR8]
       exact ⟨rfl,hbw2⟩
      ·exfalso
       have hf:(!dig o==b)=false:=by assumption
       rw [hq2] at hf;cases hf
     ·have hqf2:(!dig o==b)=false:=by simpa using hq2
      have hF2:=hF.below hb2
      have hdb:dig o=b:=by simpa using hqf2
      have hR0:apE old a b s l=0→apR old a b s l=o:=by
       intro h
       unfold apR
       rw [if_neg (by rw [h];decide),←hap']
       rfl
      have hs2:(o.length:Int)=s:=by
       have hn:(((({ data:=yas o }:ByteArray).size:Nat):Int)=s):=by first|assumption|(simp only [aU] at *;assumption)|(simp at *;assumption)
       exact hn
      rw [if_neg (by simpa using hs2),if_neg (by simp [hdb])] at hE0
      go_wp2_with (go_at_call 76;refine (Any.Builder_String_any_f Tryz.bld169 Tryz.bldX _ _ o _ hF2 (Nat.le_trans hB3.size hb2.size)).mono ?_)
      rintro e W3 ⟨rfl,hF3,b3⟩
      go_wp2
      all_goals go_ret2
      rw [hR0 hE0,hE0]
      exact ⟨rfl,hbw2.trans (b3.mono (Nat.le_trans (yaf hwB) (yaa _)))⟩
end Go.Fx.H
namespace Go.Fx.H
open Go Go.Fx Go.Proofs Go.Fx.R
set_option maxRecDepth 20000
theorem c13_parts:c13=.seq (pt 0 c13) (.seq (pt 1 c13) (.seq (pt 2 c13) (.seq (pt 3 c13) (.seq (pt 4 c13) (.seq (pt 5 c13) (.seq (pt 6 c13) (.seq (pt 7 c13) (.seq (pt 8 c13) (.seq (pt 9 c13) (.seq (pt 10 c13) (rt 11 c13))))))))))):=by rfl
theorem Ky:xM.okP:=by decide
theorem Es:xM.rt.length=16:=by
 show (root [l0,l1,l2]).length=16
 rw [Kx];exact mF
theorem Tc:V.v (.string ⟨#[97,98,99,100,101,102,103,104,105,106]⟩)=sv xA:=rfl
section
variable {N R:St→Prop} {X:Nat→St→Prop} {e:Env} {bb:Nat}
theorem yK {h:List Blk} {g:Nat→Option Nat} {x y:List V}:aS h g (x++y)=aS h g x++aS h g y:=by
 induction x with
 | nil=>rfl
 | cons u r ih=>simp [aS,ih]
theorem s7 {h:List Blk} {g:Nat→Option Nat} {x y:List V} (h1:aG h g x) (h2:aG h g y):aG h g (x++y):=by
 induction x with
 | nil=>exact h2
 | cons u r ih=>exact ⟨h1.1,ih h1.2⟩
theorem Cf {h:List Blk} {g:Nat→Option Nat} {l:Bs}:aS h g (us l)=us l:=by
 unfold us
 induction l with
 | nil=>rfl
 | cons x r ih=>simp [aS,cK,ih]
theorem c8 {h:List Blk} {g:Nat→Option Nat} {a b:Bs} {s:Int} {l:List Op}:aG h g (pe a b s (rO l))∧wkL (pe a b s (rO l)) (aS h g (pe a b s (rO l))):=by
 constructor
 ·unfold pe
  exact s7 eC.1 (s7 eC.1 ⟨trivial,trivial,trivial⟩)
 ·have:aS h g (pe a b s (rO l))=pe a b s (rO l):=by
   unfold pe
   rw [yK,yK,Cf,Cf];rfl
  rw [this]
  exact Cv ⟨rfl,rfl⟩
theorem eqS {s:Sp} {a b:Int} {K:Bool→Prop}:(c6 (lK (.agg (enS s))) fun xs=>c6 (lK (.agg [V.v (.int .i64 a),V.v (.int .i64 b)])) fun ys=>fH xs ys [(0,.int .i64),(1,.int .i64)] K)=K (s==(a,b)):=by
 have e:(s==(a,b))=((s.1==a)&&((s.2==b)&&true)):=by
  obtain ⟨x,y⟩:=s
  rw [Bool.and_true];rfl
 rw [e]
 exact propext ⟨fun h=>h.2.2,fun h=>⟨⟨rfl,rfl⟩,⟨rfl,rfl⟩,h⟩⟩
theorem Wz {s:Op} {a b:Int} {c:Bs} {K:Bool→Prop}:(c6 (lK (.agg [.i s.1,.i s.2.1,sv s.2.2])) fun xs=>c6 (lK (.agg [V.v (.int .i64 a),V.v (.int .i64 b),sv c])) fun ys=>fH xs ys [(0,.int .i64),(1,.int .i64),(2,.string)] K)=K (s==(a,b,c)):=eqO (y:=(a,b,c))
theorem Yr (hN:∀ e b,get e 1=.ptr 0 0 0→get e 2=.i 0→N ⟨e,[.var xM.enc],b⟩):aw cE (pt 1 c13) N X R ⟨e,[],bb⟩:=by
 conv=>arg 2;whnf
 simp -implicitDefEqProofs only [rX,aA,cxN,Tc]
 have o:=Zj xA 4 (by decide)
 rw [x_M,h3] at o
 obtain ⟨q1,q2,q3⟩:=oO (m:=xM) Es
 refine aE o ⟨⟨trivial,trivial,trivial⟩,rfl,rfl,trivial⟩ (by simp [ren,cH,Dc]) trivial ?_
 simp -implicitDefEqProofs only [rX,↓rY,aA,cells?,splice,↓reduceIte,Nat.reduceEqDiff,aD,zM,q1,Ij]
 obtain ⟨v1,v2,v3⟩:=oO (m:=Bw) rfl
 rw [v1,v3,List.append_nil]
 exact ⟨yaa _,hN _ _ rfl rfl⟩
theorem Yq (g1:get e 1=.ptr 0 0 0) (g2:get e 2=.i 0) (hN:∀ e b,get e 1=.ptr 0 0 0→get e 2=.i 0→get e 3=rD [nd l0 l1]→get e 4=.i 0→N ⟨e,[.var xM.enc],b⟩):aw cE (pt 2 c13) N X R ⟨e,[.var xM.enc],bb⟩:=by
 conv=>arg 2;whnf
 simp -implicitDefEqProofs only [rX,aA,cxN,Tc]
 have o:=aeJ xA 4 2 (by decide)
 rw [x_P.1,x_P.2] at o
 refine aE o ⟨⟨trivial,trivial,trivial,trivial⟩,rfl,rfl,rfl,trivial⟩ rfl trivial ?_
 simp -implicitDefEqProofs only [rX,↓rY,↓reduceIte,Nat.reduceEqDiff]
 refine hN _ _ ?_ ?_ ?_ ?_
 ·exact g1
 ·exact g2
 ·rfl
 ·rfl
theorem Yp (g1:get e 1=.ptr 0 0 0) (g2:get e 2=.i 0) (g3:get e 3=rD [nd l0 l1]) (g4:get e 4=.i 0) (hN:∀ e b,get e 1=.ptr 0 0 0→get e 5=.b true→N ⟨e,[.var xM.enc],b⟩):aw cE (pt 3 c13) N X R ⟨e,[.var xM.enc],bb⟩:=by
 obtain ⟨q1,q2,q3⟩:=oO (m:=xM) Es
 conv=>arg 2;whnf
 simp -implicitDefEqProofs only [rX,↓rY,aA,↓reduceIte,Nat.reduceEqDiff,cxN,g1,g2,g4,q1,q2,beq_self_eq_true]
 have e1:xM.n=3:=by decide
 have e2:xM.span 2=(8,10):=by decide
 have dP:D16 [nd l0 l1]:=by intro d hd;simp at hd;subst hd;exact mF
 have o1:=Rk xM Ky
 have o2:=Zi xM 2 Ky Es
 have o3:=Zh xM 2 [105,106] [nd l0 l1] Ky Es (by decide) dP (by decide)
 have o4:=Zh xM 2 [105,120] [nd l0 l1] Ky Es (by decide) dP (by decide)
 rw [e1] at o1
 rw [e2] at o2
 rw [x_C] at o3
 rw [adH] at o4
 refine aE o1 t6 rfl trivial ?_
 simp -implicitDefEqProofs only [rX,↓rY,aA,↓reduceIte,Nat.reduceEqDiff,g1,q1,q2,beq_self_eq_true]
 refine aE o2 ⟨⟨dR.1,trivial,trivial⟩,dR.2,rfl,trivial⟩ rfl trivial ?_
 simp -implicitDefEqProofs only [rX,↓rY,aA,cells?,splice,↓reduceIte,Nat.reduceEqDiff,Nat.reduceAdd,bG,Nat.reduceLeDiff,g1,g3,q1,q2]
 rw [eqS,beq_self_eq_true,kc]
 refine aE o3 ⟨⟨dR.1,trivial,trivial,trivial,trivial⟩,dR.2,rfl,rfl,⟨rfl,rfl⟩,trivial⟩ rfl trivial ?_
 simp -implicitDefEqProofs only [rX,↓rY,aA,↓reduceIte,Nat.reduceEqDiff,g1,g3,q1,q2,beq_self_eq_true,kc]
 refine aE o4 ⟨⟨dR.1,trivial,trivial,trivial,trivial⟩,dR.2,rfl,rfl,⟨rfl,rfl⟩,trivial⟩ rfl trivial ?_
 simp -implicitDefEqProofs only [rX,↓rY,aA,↓reduceIte,Nat.reduceEqDiff,beq_self_eq_true,kc]
 refine hN _ _ ?_ ?_
 ·exact g1
 ·rfl
theorem Zs (l:List Sp) (most:Int) (hl:l.length≤40) (hm:most≤9223372036854775807):OkN Tryz.prog 17 [.sl 0 0 l.length,.i most] [.arr 2 (l.map enS)] [0] (IsA (.tup [aO (Gu l most),.i (Ee l most)]) [.dead]):=by
 have ht:yad l.length (l.map enS)=l.map enS:=yac (by simp)
 exact Ak (xs:=[.sl 0 0 l.length,.i most]) (h0:=[.arr 2 (l.map enS)]) (aeP l most hl hm) (by simp [gvL,gvV,wkL,wk,wkR,blk,ht])
theorem Tu (a l:List Sp):OkN Tryz.prog 16 [aO a,.sl 0 0 l.length] [.arr 2 (l.map enS)] [0] (IsA (.b (a==l)) [.dead]):=by
 have ht:yad l.length (l.map enS)=l.map enS:=yac (by simp)
 exact Ak (xs:=[aO a,.sl 0 0 l.length]) (h0:=[.arr 2 (l.map enS)]) (aeQ a l) (by simp [gvL,gvV,wkL,wk,wkR,blk,ht])
theorem aaA (m:Man) (ls:List Bs) (t:Bs) (l:List Sp) (hm:m.okP) (hr:m.rt.length=16) (hD:D16 ls) (hl:ls.length≤1000000000) (ht:t.length≤1000000000) (hh:l.length≤1000000000) :
  OkN Tryz.prog 14 [.agg m.enc,.ro 16 (ls.map us),sv t,.sl 0 0 l.length] [.arr 2 (l.map enS)] [0] (IsA (.tup [aO (dmL m ls t l),.i (dmE m ls t l)]) [.dead]):=by
 have ht2:yad l.length (l.map enS)=l.map enS:=yac (by simp)
 refine Ak (xs:=[.agg m.enc,.ro 16 (ls.map us),sv t,.sl 0 0 l.length]) (h0:=[.arr 2 (l.map enS)]) (aeR m ls t l hm hr hD hl ht hh) ?_
 have hg:gvL (fun _=>true) [.arr 2 (l.map enS)] m.enc=m.enc:=Wm
 simp [gvL,gvV,wkL,wk,wkR,blk,ht2,hg]
 exact ⟨⟨rfl,rfl,Lj⟩,rfl,rfl⟩
theorem Yo (g1:get e 1=.ptr 0 0 0) (g5:get e 5=.b true) (hN:∀ e b,get e 1=.ptr 0 0 0→get e 5=.b true→get e 6=aO [(0,2),(5,9)]→get e 7=.i 0→N ⟨e,[.var xM.enc,.dead],b⟩):aw cE (pt 4 c13) N X R ⟨e,[.var xM.enc],bb⟩:=by
 conv=>arg 2;whnf
 simp -implicitDefEqProofs only [rX,↓rY,aA,cells?,splice,↓reduceIte,Nat.reduceEqDiff,Nat.reduceAdd,aD,bG,bY,isD,Nat.reduceLT,Nat.reduceLeDiff,cxN]
 have o:=Zs [(0,2),(5,6),(8,9)] 2 (by decide) (by decide)
 rw [h4,h5] at o
 have k1:get (aP [1] e) 1=.ptr 0 0 0:=by rw [aQ,g1];rfl
 have k5:get (aP [1] e) 5=.b true:=by rw [aQ,g5];rfl
 refine d7 [1] [0] [1] [.sl 0 0 3,.i 2] _ (.tup [aO [(0,2),(5,9)],.i 0]) [.arr 2 ([((0:Int),(2:Int)),(5,6),(8,9)].map enS)] [.dead] [.var xM.enc,.dead] _ o (by simp) (by simp) (by simp [blk,bV,enS]) (by simp [aG,bA,aS,cK,wkL,wk,wkR,pos]) (by simp [bZ,bV,aZ,iG]) rfl rfl trivial ?_
 simp -implicitDefEqProofs only [rX,↓rY,↓reduceIte,Nat.reduceEqDiff,aP,kill,bM,St.kill]
 refine hN _ _ ?_ ?_ ?_ ?_
 ·exact k1
 ·exact k5
 ·rfl
 ·rfl
theorem Yn (g1:get e 1=.ptr 0 0 0) (g5:get e 5=.b true) (g6:get e 6=aO [(0,2),(5,9)]) (g7:get e 7=.i 0) (hN:∀ e b,get e 1=.ptr 0 0 0→get e 5=.b true→get e 8=.b true→N ⟨e,[.var xM.enc,.dead,.dead],b⟩):aw cE (pt 5 c13) N X R ⟨e,[.var xM.enc,.dead],bb⟩:=by
 conv=>arg 2;whnf
 simp -implicitDefEqProofs only [rX,↓rY,aA,cells?,splice,↓reduceIte,Nat.reduceEqDiff,Nat.reduceAdd,aD,bG,bY,isD,Nat.reduceLT,Nat.reduceLeDiff,cxN,g6,g7,beq_self_eq_true]
 have o:=Tu [(0,2),(5,9)] [(0,2),(5,9)]
 rw [beq_self_eq_true] at o
 have k1:get (aP [2] e) 1=.ptr 0 0 0:=by rw [aQ,g1];rfl
 have k5:get (aP [2] e) 5=.b true:=by rw [aQ,g5];rfl
 refine d7 [2] [0] [2] [aO [(0,2),(5,9)],.sl 0 0 2] _ (.b true) [.arr 2 ([((0:Int),(2:Int)),(5,9)].map enS)] [.dead] [.var xM.enc,.dead,.dead] _ o (by simp) (by simp) (by simp [blk,bV,enS]) (by simp [aG,bA,aS,cK,wkL,wk,wkR,pos]) (by simp [bZ,bV,aZ,iG]) rfl rfl trivial ?_
 simp -implicitDefEqProofs only [rX,↓rY,↓reduceIte,Nat.reduceEqDiff,aP,kill,bM,St.kill]
 refine hN _ _ ?_ ?_ ?_
 ·exact k1
 ·exact k5
 ·rfl
theorem Ym (g1:get e 1=.ptr 0 0 0) (g5:get e 5=.b true) (g8:get e 8=.b true) (hN:∀ e b,get e 1=.ptr 0 0 0→get e 5=.b true→get e 8=.b true→get e 9=.ptr 3 0 0→get e 10=.i 0→N ⟨e,[.var xM.enc,.dead,.dead,.var (pe (dig yA) (dig yB) 9 (rO yO))],b⟩):aw cE (pt 6 c13) N X R ⟨e,[.var xM.enc,.dead,.dead],bb⟩:=by
 conv=>arg 2;whnf
 have o:=Zo yA yB 4 (by decide) (by decide)
 rw [y_P,y_O,y_E] at o
 simp -implicitDefEqProofs only [rX,aA,Nat.reduceAdd,cxN]
 have d1:(dig yA).length=16:=a8
 have d2:(dig yB).length=16:=a8
 refine aE o ⟨⟨trivial,trivial,trivial,trivial⟩,rfl,rfl,rfl,trivial⟩ (by simp [ren,cH,mE];rfl) trivial ?_
 simp -implicitDefEqProofs only [rX,↓rY,aA,cells?,splice,↓reduceIte,Nat.reduceEqDiff,aD,xT,dW,dX,bQ,d1,d2]
 refine ⟨Aj rfl,hN _ _ ?_ ?_ ?_ ?_ ?_⟩
 ·exact g1
 ·exact g5
 ·exact g8
 ·rfl
 ·rfl
abbrev hS:List Blk:=[.var xM.enc,.dead,.dead,.var (pe (dig yA) (dig yB) 9 (rO yO))]
theorem Yl (g1:get e 1=.ptr 0 0 0) (g5:get e 5=.b true) (g8:get e 8=.b true) (g9:get e 9=.ptr 3 0 0) (g10:get e 10=.i 0) (hN:∀ e b,get e 1=.ptr 0 0 0→get e 5=.b true→get e 8=.b true→get e 9=.ptr 3 0 0→get e 11=.b true→N ⟨e,hS,b⟩):aw cE (pt 7 c13) N X R ⟨e,hS,bb⟩:=by
 have d1:(dig yA).length=16:=a8
 have d2:(dig yB).length=16:=a8
 have o:=Zk (dig yA) (dig yB) 9 yO d1 d2 (by decide) (by decide)
 rw [y_W] at o
 conv=>arg 2;whnf
 simp -implicitDefEqProofs only [rX,↓rY,aA,↓reduceIte,Nat.reduceEqDiff,Nat.reduceAdd,cxN,d6,g9,g10,dW,fE,d1,d2,beq_self_eq_true]
 refine aE o ⟨⟨c8.1,trivial⟩,c8.2,trivial⟩ rfl trivial ?_
 simp -implicitDefEqProofs only [rX,↓rY,aA,cells?,splice,↓reduceIte,Nat.reduceEqDiff,Nat.reduceAdd,bG,Nat.reduceLeDiff,g9,gX,d1,d2,beq_self_eq_true]
 intro _
 simp only [show (((3:Nat):Int)==3)=true from rfl,kc]
 refine ⟨by decide,by decide,by decide,?_⟩
 refine Eq.mpr (Wz (s:=((0:Int),(4:Int),([]:Bs))) (a:=0) (b:=4) (c:=[])) ?_
 simp only [beq_self_eq_true,kc]
 refine ⟨by decide,by decide,by decide,?_⟩
 refine Eq.mpr (Wz (s:=((0:Int),(0:Int),([88]:Bs))) (a:=0) (b:=0) (c:=[88])) ?_
 simp only [beq_self_eq_true,kc]
 refine ⟨by decide,by decide,by decide,?_⟩
 refine Eq.mpr (Wz (s:=((4:Int),(8:Int),([]:Bs))) (a:=4) (b:=8) (c:=[])) ?_
 simp only [beq_self_eq_true,kc]
 refine hN _ _ ?_ ?_ ?_ ?_ ?_
 ·exact g1
 ·exact g5
 ·exact g8
 ·exact g9
 ·rfl
def A22:Prop:=∀ (old a b:Bs) (s:Int) (l:List Op),old.length≤1000→a.length=16→b.length=16→l.length≤1000→(∀ x∈l,x.2.2.length≤1000)→Ok 22 [sv old,.agg (pe a b s (rO l))] (Is (.tup [sv (apR old a b s l),.i (apE old a b s l)]))
theorem Yk (A:A22) (g1:get e 1=.ptr 0 0 0) (g5:get e 5=.b true) (g8:get e 8=.b true) (g9:get e 9=.ptr 3 0 0) (g11:get e 11=.b true) (hN:∀ e b,get e 1=.ptr 0 0 0→get e 5=.b true→get e 8=.b true→get e 9=.ptr 3 0 0→get e 11=.b true→get e 12=sv yB→get e 13=.i 0→N ⟨e,hS,b⟩):aw cE (pt 8 c13) N X R ⟨e,hS,bb⟩:=by
 have d1:(dig yA).length=16:=a8
 have d2:(dig yB).length=16:=a8
 have o:=A yA (dig yA) (dig yB) 9 yO (by decide) d1 d2 (by decide) (by decide)
 rw [y_A,y_S] at o
 conv=>arg 2;whnf
 simp -implicitDefEqProofs only [rX,↓rY,aA,↓reduceIte,Nat.reduceAdd,cxN,g9,dW,fE,d1,d2]
 refine aE o ⟨⟨trivial,c8.1,trivial⟩,rfl,c8.2,trivial⟩ rfl trivial ?_
 simp -implicitDefEqProofs only [rX,↓rY,↓reduceIte,Nat.reduceEqDiff]
 refine hN _ _ ?_ ?_ ?_ ?_ ?_ ?_ ?_
 ·exact g1
 ·exact g5
 ·exact g8
 ·exact g9
 ·exact g11
 ·rfl
 ·rfl
theorem Yj (A:A22) (g1:get e 1=.ptr 0 0 0) (g5:get e 5=.b true) (g8:get e 8=.b true) (g9:get e 9=.ptr 3 0 0) (g11:get e 11=.b true) (g12:get e 12=sv yB) (g13:get e 13=.i 0) (hN:∀ e b,get e 1=.ptr 0 0 0→get e 5=.b true→get e 8=.b true→get e 11=.b true→get e 12=sv yB→get e 13=.i 0→get e 15=.i 8→N ⟨e,hS,b⟩):aw cE (pt 9 c13) N X R ⟨e,hS,bb⟩:=by
 have d1:(dig yA).length=16:=a8
 have d2:(dig yB).length=16:=a8
 have o:=A yC (dig yA) (dig yB) 9 yO (by decide) d1 d2 (by decide) (by decide)
 rw [y_B] at o
 conv=>arg 2;whnf
 simp -implicitDefEqProofs only [rX,↓rY,aA,↓reduceIte,Nat.reduceAdd,cxN,g9,dW,fE,d1,d2]
 refine aE o ⟨⟨trivial,c8.1,trivial⟩,rfl,c8.2,trivial⟩ rfl trivial ?_
 simp -implicitDefEqProofs only [rX,↓rY,↓reduceIte,Nat.reduceEqDiff]
 refine hN _ _ ?_ ?_ ?_ ?_ ?_ ?_ ?_
 ·exact g1
 ·exact g5
 ·exact g8
 ·exact g11
 ·exact g12
 ·exact g13
 ·rfl
theorem Vr (g1:get e 1=.ptr 0 0 0) (g5:get e 5=.b true) (g8:get e 8=.b true) (g11:get e 11=.b true) (g12:get e 12=sv yB) (g13:get e 13=.i 0) (g15:get e 15=.i 8) (hN:∀ e b,get e 5=.b true→get e 8=.b true→get e 11=.b true→get e 12=sv yB→get e 13=.i 0→get e 15=.i 8→get e 16=aO [(4,8)]→get e 17=.i 0→N ⟨e,hS++[.dead],b⟩):aw cE (pt 10 c13) N X R ⟨e,hS,bb⟩:=by
 obtain ⟨q1,q2,q3⟩:=oO (m:=xM) Es
 have o3:=Wg xA 4 (by decide) (by decide)
 rw [xL] at o3
 have dL:D16 [l0,l1,l2]:=by
  intro d hd
  simp at hd
  rcases hd with rfl|rfl|rfl<;>exact o8
 have o:=aaA xM [l0,l1,l2] xB [(0,10)] Ky Es dL (by decide) (by decide) (by decide)
 rw [adF,Xo] at o
 conv=>arg 2;whnf
 simp -implicitDefEqProofs only [rX,↓rY,rdK,aA,cells?,splice,↓reduceIte,Nat.reduceEqDiff,Nat.reduceAdd,aD,bG,bY,isD,Nat.reduceLT,cxN,g1,q1,q2]
 have k5:get (aP [4] e) 5=.b true:=by rw [aQ,g5];rfl
 have k8:get (aP [4] e) 8=.b true:=by rw [aQ,g8];rfl
 have k11:get (aP [4] e) 11=.b true:=by rw [aQ,g11];rfl
 have k12:get (aP [4] e) 12=sv yB:=by rw [aQ,g12];rfl
 have k13:get (aP [4] e) 13=.i 0:=by rw [aQ,g13];rfl
 have k15:get (aP [4] e) 15=.i 8:=by rw [aQ,g15];rfl
 refine ⟨?_,?_⟩
 ·refine aE o3 ⟨⟨trivial,trivial,trivial⟩,rfl,rfl,trivial⟩ rfl trivial ?_
  simp -implicitDefEqProofs only [rX,↓rY,aA,cells?,↓reduceIte,Nat.reduceEqDiff,Nat.reduceAdd,aD,bY,isD,Nat.reduceLT]
  refine d7 [4] [0] [4] [.agg xM.enc,.ro 16 ([l0,l1,l2].map us),sv xB,.sl 0 0 1] _ (.tup [aO [(4,8)],.i 0]) [.arr 2 ([((0:Int),(10:Int))].map enS)] [.dead] (hS++[.dead]) _ o (by simp) (by simp) (by simp [blk,bV,enS]) ⟨⟨dR.1,trivial,trivial,trivial,trivial⟩,dR.2,⟨rfl,rfl⟩,rfl,rfl,trivial⟩ (by simp [bZ,bV,aZ,iG,d4,kill]) rfl rfl trivial ?_
  simp -implicitDefEqProofs only [rX,↓rY,↓reduceIte,Nat.reduceEqDiff,aP,kill,bM,St.kill]
  refine hN _ _ ?_ ?_ ?_ ?_ ?_ ?_ ?_ ?_
  ·exact k5
  ·exact k8
  ·exact k11
  ·exact k12
  ·exact k13
  ·exact k15
  ·rfl
  ·rfl
 ·refine aE o3 ⟨⟨trivial,trivial,trivial⟩,rfl,rfl,trivial⟩ rfl trivial ?_
  simp -implicitDefEqProofs only [rX,aA,↓reduceIte,Nat.reduceEqDiff]
  refine d7 [4] [0] [4] [.agg xM.enc,.ro 16 ([l0,l1,l2].map us),sv xB,.sl 0 0 1] _ (.tup [aO [(4,8)],.i 0]) [.arr 2 ([((0:Int),(10:Int))].map enS)] [.dead] (hS++[.dead]) _ o (by simp) (by simp) (by simp [blk,bV,enS]) ⟨⟨dR.1,trivial,trivial,trivial,trivial⟩,dR.2,⟨rfl,rfl⟩,rfl,rfl,trivial⟩ (by simp [bZ,bV,aZ,iG,d4,kill]) rfl rfl trivial ?_
  simp -implicitDefEqProofs only [rX,↓rY,↓reduceIte,Nat.reduceEqDiff,aP,kill,bM,St.kill]
  refine hN _ _ ?_ ?_ ?_ ?_ ?_ ?_ ?_ ?_
  ·exact k5
  ·exact k8
  ·exact k11
  ·exact k12
  ·exact k13
  ·exact k15
  ·rfl
  ·rfl
theorem Vq (g5:get e 5=.b true) (g8:get e 8=.b true) (g11:get e 11=.b true) (g12:get e 12=sv yB) (g13:get e 13=.i 0) (g15:get e 15=.i 8) (g16:get e 16=aO [(4,8)]) (g17:get e 17=.i 0) (hN:∀ e b h,get e 0=.b true→R ⟨e,h,b⟩):aw cE (rt 11 c13) N X R ⟨e,hS++[.dead],bb⟩:=by
 conv=>arg 2;whnf
 simp -implicitDefEqProofs only [rX,↓rY,aA,cells?,splice,↓reduceIte,Nat.reduceEqDiff,Nat.reduceAdd,aD,bG,bY,isD,Nat.reduceLT,Nat.reduceLeDiff,↓jk,cxN,cO,g5,g8,g11,g12,g13,g15,g16,g17,beq_self_eq_true,cO]
 rw [show (({ data:=#[97,98,99,100,88,101,102,103,104] }:ByteArray).toList)=yB from cO (l:=yB),beq_self_eq_true,kc]
 have o:=Tu [(4,8)] [(4,8)]
 rw [beq_self_eq_true] at o
 refine d7 [5] [0] [5] [aO [(4,8)],.sl 0 0 1] _ (.b true) [.arr 2 ([((4:Int),(8:Int))].map enS)] [.dead] (hS++[.dead,.dead]) _ o (by simp) (by simp) (by simp [blk,bV,enS]) (by simp [aG,bA,aS,cK,wkL,wk,wkR,pos]) (by simp [bZ,bV,aZ,iG,d4,kill]) rfl rfl trivial ?_
 simp -implicitDefEqProofs only [rX,↓rY,↓reduceIte,Nat.reduceEqDiff,aP,kill,bM,St.kill]
 exact hN _ _ _ rfl
end
theorem aaC (A:A22):Ok 13 [] (Is (.b true)):=by
 refine bO lw13 (by simp) ?_
 rw [c13_parts]
 simp -implicitDefEqProofs only [qK]
 conv=>arg 2;whnf
 simp -implicitDefEqProofs only [rX,aA,cxN,aH]
 refine Yr fun e b g1 g2=>?_
 simp -implicitDefEqProofs only [qK]
 refine Yq g1 g2 fun e b g1 g2 g3 g4=>?_
 simp -implicitDefEqProofs only [qK]
 refine Yp g1 g2 g3 g4 fun e b g1 g5=>?_
 simp -implicitDefEqProofs only [qK]
 refine Yo g1 g5 fun e b g1 g5 g6 g7=>?_
 simp -implicitDefEqProofs only [qK]
 refine Yn g1 g5 g6 g7 fun e b g1 g5 g8=>?_
 simp -implicitDefEqProofs only [qK]
 refine Ym g1 g5 g8 fun e b g1 g5 g8 g9 g10=>?_
 simp -implicitDefEqProofs only [qK]
 refine Yl g1 g5 g8 g9 g10 fun e b g1 g5 g8 g9 g11=>?_
 simp -implicitDefEqProofs only [qK]
 refine Yk A g1 g5 g8 g9 g11 fun e b g1 g5 g8 g9 g11 g12 g13=>?_
 simp -implicitDefEqProofs only [qK]
 refine Yj A g1 g5 g8 g9 g11 g12 g13 fun e b g1 g5 g8 g11 g12 g13 g15=>?_
 simp -implicitDefEqProofs only [qK]
 refine Vr g1 g5 g8 g11 g12 g13 g15 fun e b g5 g8 g11 g12 g13 g15 g16 g17=>?_
 refine Vq g5 g8 g11 g12 g13 g15 g16 g17 fun e b h g0=>?_
 rw [kh]
 simp -implicitDefEqProofs only [rX,aT,aY,wfV,g0]
end Go.Fx.H
namespace Go.Fx.H
open Go Go.Fx Go.Proofs Go.RowKit
section
variable {ρ:Nat→Loc} {X:Nat→Prop} {w:World}
theorem oX:∀ {x y:List V} {vs:List Value},bJ ρ X w (x++y) vs→∃ u v,vs=u++v∧bJ ρ X w x u∧bJ ρ X w y v
 | [],y,vs,h=>⟨[],vs,rfl,by simp only [bJ],h⟩
 | x::r,y,[],h=>by simp only [List.cons_append,bJ] at h
 | x::r,y,v::vs,h=>by
  simp only [List.cons_append,bJ] at h
  obtain ⟨u,v',e,h1,h2⟩:=oX h.2
  exact ⟨v::u,v',by rw [e];rfl,by simp only [bJ];exact ⟨h.1,h1⟩,h2⟩
theorem Cw {S:Nat→Prop} {b:Nat}:∀ {l:List Op} {off:Nat},cI S w 3 b off (l.map enO)→∀ k (h:k<l.length),w.cell? ⟨b,off+k*3,none⟩=some (.int .i64 l[k].1)∧w.cell? ⟨b,off+k*3+1,none⟩=some (.int .i64 l[k].2.1)∧w.cell? ⟨b,off+k*3+2,none⟩=some (.string (sb l[k].2.2))
 | [],_,_,k,h=>absurd h (yam _)
 | x::r,off,hr,k,h=>by
  obtain ⟨⟨_,⟨v1,c1,d1⟩,⟨v2,c2,d2⟩,⟨v3,c3,d3⟩,_⟩,h3⟩:=hr
  cases k with
  | zero =>
   obtain rfl:v1=_:=d1.1
   obtain rfl:v2=_:=d2.1
   obtain rfl:v3=_:=d3.1
   rw [Nat.zero_mul,Nat.add_zero]
   exact ⟨c1,c2,c3⟩
  | succ k =>
   have:=Cw h3 k (by simpa using h)
   rw [show off+3+k*3=off+(k+1)*3 by omega] at this
   exact this
end
theorem a22:A22:=by
 intro old a b s l h1 ha hb hl hx
 refine ⟨cal Tryz.func22 (by kernel_rfl) (by kernel_rfl),?_⟩
 intro ρ X w vals hr hv
 match vals,hv with
 | [v1,v2],⟨e1,⟨arr,e0,h2⟩,_⟩ =>
 subst e0
 obtain rfl:v1=.string (sb old):=e1
 obtain ⟨u1,v',e1,r1,r2⟩:=oX h2
 obtain ⟨u2,v'',e9,r3,r4⟩:=oX r2
 subst e9
 match v'',r4 with
 | [i,sl],⟨e2,⟨pp,len,cap,e0,hlen,hc1,hc2,hels⟩,_⟩ =>
 subst e0
 obtain rfl:i=.int .i64 s:=e2
 have q1:=y9 r1
 have q2:=y9 r3
 subst q1 q2
 have hlen2:len=l.length:=by simpa using hlen
 subst hlen2
 have harr:arr=pcs a b s (.slice pp l.length cap):=by
  apply Array.ext'
  rw [e1];unfold pcs;rfl
 rw [harr]
 have hend:∀ {blk off},(l≠[]→pp=some ⟨blk,off,none⟩)→(∀ k (h:k<l.length),w.cell? ⟨blk,off+k*3,none⟩=some (.int .i64 l[k].1)∧w.cell? ⟨blk,off+k*3+1,none⟩=some (.int .i64 l[k].2.1)∧w.cell? ⟨blk,off+k*3+2,none⟩=some (.string (sb l[k].2.2))∧blk<w.heap.size)→_:=fun {blk off} hp hop =>
  Calls.mono (Sr hr old a b s l blk off pp cap (by omega) ha hb (by omega) (fun x h=>by have:=hx x h;omega) hp hop) (R':=fun e w'=>∃ val r h' ρ',e=.returned val∧(Is (.tup [sv (apR old a b s l),.i (apE old a b s l)]) r h'∧[].length≤h'.length)∧Fr ρ w ρ' w'∧Rep ρ' X w' h'∧aL ρ' X w' r val∧∀ k,k<([]:List Blk).length→k∉([]:List Nat)→ρ' k=ρ k) (by
   rintro e w' ⟨rfl,hbw⟩
   exact ⟨_,_,[],ρ,rfl,⟨⟨rfl,rfl⟩,yaa _⟩,yQ hr hbw,u0 hr hbw,⟨_,rfl,rfl,rfl,trivial⟩,fun k hk=>absurd hk (yam _)⟩)
 rcases hels with hn|⟨blk,off,hp,hS,hcs⟩
 ·have hl0:l=[]:=by simpa using hn
  exact hend (blk:=0) (off:=0) (fun h=>absurd hl0 h) (fun k h=>by rw [hl0] at h;exact absurd h (yam _))
 ·exact hend (fun _=>hp) fun k h=>by
   obtain ⟨c1,c2,c3⟩:=Cw hcs k h
   exact ⟨c1,c2,c3,hS.1⟩
theorem aeS:Ok 13 [] (Is (.b true)):=aaC a22
end Go.Fx.H
namespace Go.Fx.H
open Go Go.Fx Go.Proofs Go.Fx.R
end Go.Fx.H
namespace Go.Fx.H
open Go Go.Fx Go.Proofs Go.Fx.R
set_option maxRecDepth 20000
theorem c5_parts:c5=.seq (pt 0 c5) (.seq (pt 1 c5) (.seq (pt 2 c5) (.seq (pt 3 c5) (.seq (pt 4 c5) (.seq (pt 5 c5) (rt 6 c5)))))):=by rfl
theorem Xc (old new:Bs) (b:Int):∃ A B s,A.length=16∧B.length=16∧∀ o,dfP old new b o=pe A B s o:=by
 unfold dfP
 by_cases h:dfE old new b≠0
 ·exact ⟨z16,z16,0,bQ,bQ,fun o=>if_pos h⟩
 ·exact ⟨dig old,dig new,new.length,a8,a8,fun o=>if_neg h⟩
structure E5 (old new:Bs) (n:Int) (e:Env):Prop where
 g0:get e 0=sv old
 g1:get e 1=sv new
 g2:get e 2=.i n
 g7:get e 7=.ptr 0 0 0
abbrev R5:St→Prop:=eZ [] 0 [.tmp 8] (Is (.b true))
section
variable {old new:Bs} {n:Int} {a b A B:Bs} {s S':Int} {l O:List Op} {E:Int} {N:St→Prop} {X:Nat→St→Prop} {e:Env} {bb:Nat}
theorem adU (S:S13) (ha:a.length=16) (hb:b.length=16) (hE:E5 old new n e) (hN:∀ e b',old.length≤200→new.length≤200→tO l=true→E5 old new n e→N ⟨e,[.var (pe a b s (rO l))],b'⟩):aw cT (pt 1 c5) N X R5 ⟨e,[.var (pe a b s (rO l))],bb⟩:=by
 obtain ⟨g0,g1,g2,g7⟩:=hE
 conv=>arg 2;whnf
 simp -implicitDefEqProofs only [rX,↓rY,aA,↓reduceIte,Nat.reduceEqDiff,cxN,aU,g0,g1,g7]
 cases d1:decide (200<(old.length:Int)) with
 | true =>
  simp -implicitDefEqProofs only [↓rY]
  refine aE S ⟨trivial,trivial⟩ rfl trivial ?_
  simp -implicitDefEqProofs only [rX,↓reduceIte,aT,aY,wfV]
 | false =>
 simp -implicitDefEqProofs only [↓rY]
 cases d2:decide (200<(new.length:Int)) with
 | true =>
  simp -implicitDefEqProofs only [↓rY]
  refine aE S ⟨trivial,trivial⟩ rfl trivial ?_
  simp -implicitDefEqProofs only [rX,↓reduceIte,aT,aY,wfV]
 | false =>
 have d1':=of_decide_eq_false d1
 have d2':=of_decide_eq_false d2
 simp -implicitDefEqProofs only [rX,↓rY,dW,fE,ha,hb]
 refine aE (aeO a b s l ha hb) ⟨⟨c8.1,trivial⟩,c8.2,trivial⟩ rfl trivial ?_
 cases hf:tO l with
 | false =>
  simp -implicitDefEqProofs only [rX,↓rY,↓reduceIte,Nat.reduceEqDiff]
  refine aE S ⟨trivial,trivial⟩ rfl trivial ?_
  simp -implicitDefEqProofs only [rX,↓reduceIte,aT,aY,wfV]
 | true =>
 simp -implicitDefEqProofs only [rX,↓rY,↓reduceIte,Nat.reduceEqDiff]
 exact hN _ _ (by omega) (by omega) hf ⟨g0,g1,g2,g7⟩
theorem adT (h1:old.length≤200) (h2:new.length≤200) (hA:A.length=16) (hB:B.length=16) (hP:∀ o,dfP old new n o=pe A B S' o) (hE:E5 old new n e)
  (hN:∀ e b',E5 old new n e→get e 9=.ptr 1 0 0→get e 10=.i (dfE old new n)→N ⟨e,[.var (pe a b s (rO l)),.var (pe A B S' (rO (dfO old new n)))],b'⟩):aw cT (pt 2 c5) N X R5 ⟨e,[.var (pe a b s (rO l))],bb⟩:=by
 obtain ⟨g0,g1,g2,g7⟩:=hE
 have o:=Zo old new n (by omega) (by omega)
 rw [hP] at o
 conv=>arg 2;whnf
 simp -implicitDefEqProofs only [rX,↓reduceIte,Nat.reduceEqDiff,cxN,g0,g1,g2]
 refine aE o ⟨⟨trivial,trivial,trivial,trivial⟩,rfl,rfl,rfl,trivial⟩ (by simp [ren,cH,mE]) trivial ?_
 simp -implicitDefEqProofs only [rX,↓rY,aA,cells?,splice,↓reduceIte,Nat.reduceEqDiff,aD,xT,dW,dX,bQ,hA,hB]
 refine ⟨Aj rfl,hN _ _ ⟨g0,g1,g2,g7⟩ ?_ ?_⟩
 ·rfl
 ·rfl
theorem adS (h1:old.length≤200) (h2:new.length≤200) (hA:A.length=16) (hB:B.length=16) (hP:∀ o,dfP old new n o=pe A B S' o) (hE:E5 old new n e) (g9:get e 9=.ptr 1 0 0) (g10:get e 10=.i (dfE old new n))
  (hN:∀ e b',E5 old new n e→get e 9=.ptr 1 0 0→get e 10=.i (dfE old new n)→get e 11=.ptr 2 0 0→N ⟨e,[.var (pe a b s (rO l)),.var (pe A B S' (rO (dfO old new n))),.var (pe A B S' (rO (dfO old new n))++[.i (dfE old new n)])],b'⟩):aw cT (pt 3 c5) N X R5 ⟨e,[.var (pe a b s (rO l)),.var (pe A B S' (rO (dfO old new n)))],bb⟩:=by
 obtain ⟨g0,g1,g2,g7⟩:=hE
 have o:=aeN old new n (by omega) (by omega)
 rw [hP] at o
 conv=>arg 2;whnf
 simp -implicitDefEqProofs only [rX,↓reduceIte,Nat.reduceEqDiff,Nat.reduceAdd,cxN,g0,g1,g2]
 refine aE o ⟨⟨trivial,trivial,trivial,trivial⟩,rfl,rfl,rfl,trivial⟩ (by simp [ren,u6,cH,mE]) trivial ?_
 simp -implicitDefEqProofs only [rX,↓rY,aA,cells?,splice,↓reduceIte,Nat.reduceEqDiff,Nat.reduceAdd,aD,dW,hA,hB]
 rw [show yak 35 _=([]:List V) from rfl,List.append_nil]
 refine ⟨q_C rfl,hN _ _ ⟨g0,g1,g2,g7⟩ ?_ ?_ ?_⟩
 ·exact g9
 ·exact g10
 ·rfl
structure F5 (old new:Bs) (n:Int) (e:Env):Prop where
 g9:get e 9=.ptr 1 0 0
 g10:get e 10=.i (dfE old new n)
 g11:get e 11=.ptr 2 0 0
abbrev hP5 (a b A B:Bs) (s S':Int) (l O:List Op) (E:Int):List Blk:=[.var (pe a b s (rO l)),.var (pe A B S' (rO O)),.var (pe A B S' (rO O)++[.i E])]
theorem Jb (h:tO l=true):l.length≤1000∧∀ x∈l,x.2.2.length≤1000:=by
 unfold tO at h
 rw [Bool.and_eq_true,List.all_eq_true,decide_eq_true_eq] at h
 refine ⟨by omega,fun x hx=>?_⟩
 have:=of_decide_eq_true (h.1 x hx)
 omega
theorem adR (h1:old.length≤200) (ha:a.length=16) (hb:b.length=16) (hf:tO l=true) (hE:E5 old new n e) (hF:F5 old new n e)
  (hN:∀ e b',E5 old new n e→F5 old new n e→get e 12=sv (apR old a b s l)→get e 13=.i (apE old a b s l)→N ⟨e,hP5 a b A B s S' l O E,b'⟩):aw cT (pt 4 c5) N X R5 ⟨e,hP5 a b A B s S' l O E,bb⟩:=by
 obtain ⟨g0,g1,g2,g7⟩:=hE
 obtain ⟨g9,g10,g11⟩:=hF
 have o:=a22 old a b s l (by omega) ha hb (Jb hf).1 (Jb hf).2
 conv=>arg 2;whnf
 simp -implicitDefEqProofs only [rX,↓rY,↓reduceIte,Nat.reduceEqDiff,Nat.reduceAdd,cxN,g0,g7,dW,fE,ha,hb]
 refine aE o ⟨⟨trivial,c8.1,trivial⟩,rfl,c8.2,trivial⟩ rfl trivial ?_
 simp -implicitDefEqProofs only [rX,↓rY,↓reduceIte,Nat.reduceEqDiff]
 refine hN _ _ ⟨g0,g1,g2,g7⟩ ⟨g9,g10,g11⟩ ?_ ?_
 ·rfl
 ·rfl
theorem adQ (h1:old.length≤200) (ha:a.length=16) (hb:b.length=16) (hf:tO l=true) (hE:E5 old new n e) (hF:F5 old new n e) (g12:get e 12=sv (apR old a b s l)) (g13:get e 13=.i (apE old a b s l))
  (hN:∀ e b',E5 old new n e→F5 old new n e→get e 12=sv (apR old a b s l)→get e 13=.i (apE old a b s l)→get e 14=.ptr 3 0 0→N ⟨e,hP5 a b A B s S' l O E++[.var [sv (apR old a b s l),.i (apE old a b s l)]],b'⟩):aw cT (pt 5 c5) N X R5 ⟨e,hP5 a b A B s S' l O E,bb⟩:=by
 obtain ⟨g0,g1,g2,g7⟩:=hE
 obtain ⟨g9,g10,g11⟩:=hF
 have h9:=Jb hf
 have o:=aeM old a b s l (by omega) ha hb (by omega) (fun x hx=>by have:=h9.2 x hx;omega)
 conv=>arg 2;whnf
 simp -implicitDefEqProofs only [rX,↓rY,↓reduceIte,Nat.reduceEqDiff,Nat.reduceAdd,cxN,d6,g0,g7,dW,fE,ha,hb]
 refine aE o ⟨⟨trivial,c8.1,trivial⟩,rfl,c8.2,trivial⟩ rfl trivial ?_
 simp -implicitDefEqProofs only [rX,↓rY,aA,cells?,splice,↓reduceIte,Nat.reduceEqDiff,Nat.reduceAdd,aD,isC]
 refine hN _ _ ⟨g0,g1,g2,g7⟩ ⟨g9,g10,g11⟩ ?_ ?_ ?_
 ·exact g12
 ·exact g13
 ·rfl
theorem Jt:nA A B S' O A B S' O=true:=by unfold nA;simp
theorem adP (S:S13) (ha:a.length=16) (hb:b.length=16) (hA:A.length=16) (hB:B.length=16) (hf:tO l=true) (hE:E5 old new n e) (hF:F5 old new n e) (g12:get e 12=sv (apR old a b s l)) (g13:get e 13=.i (apE old a b s l)) (g14:get e 14=.ptr 3 0 0) :
  aw cT (rt 6 c5) N X R5 ⟨e,hP5 a b A B s S' l O (dfE old new n)++[.var [sv (apR old a b s l),.i (apE old a b s l)]],bb⟩:=by
 obtain ⟨g0,g1,g2,g7⟩:=hE
 obtain ⟨g9,g10,g11⟩:=hF
 have h9:=Jb hf
 have q4:(pe A B S' (rO O)++[V.i (dfE old new n)])[34]?=some (.i (dfE old new n)):=by rw [yag (by rw [dW hA hB];exact yaa _),dW hA hB];rfl
 have o:=aeL A B S' O A B S' O hA hB hA hB
 rw [Jt] at o
 have hw:∀ x∈l,x.2.2.length≤1000000:=fun x hx=>by have:=h9.2 x hx;omega
 conv=>arg 2;whnf
 simp -implicitDefEqProofs only [rX,↓reduceIte,Nat.reduceAdd,cxN]
 refine aE S ⟨trivial,trivial⟩ rfl (by simp [aC,aB]) ?_
 simp -implicitDefEqProofs only [rX,↓rY,rdK,↓reduceIte,Nat.reduceEqDiff,Nat.reduceAdd,Nat.reduceLeDiff,g9,g11,q_t,dW,fE,hA,hB]
 refine aE o ⟨⟨c8.1,c8.1,trivial⟩,c8.2,c8.2,trivial⟩ rfl (by simp [aC,aB]) ?_
 simp -implicitDefEqProofs only [rX,↓rY,rdK,↓reduceIte,Nat.reduceEqDiff,g7,g10,g11,q4,dW,fE,ha,hb,beq_self_eq_true]
 refine aE (Zk a b s l ha hb (by omega) hw) ⟨⟨c8.1,trivial⟩,c8.2,trivial⟩ rfl (by simp [aC,aB]) ?_
 simp -implicitDefEqProofs only [rX,↓rY,↓reduceIte,Nat.reduceEqDiff]
 refine aE (aeK a b s l ha hb (by omega) hw) ⟨⟨c8.1,trivial⟩,c8.2,trivial⟩ rfl (by simp [aC,aB]) ?_
 simp -implicitDefEqProofs only [rX,↓rY,qt,rdK,↓reduceIte,Nat.reduceEqDiff,aT,aY,wfV,↓jk,cO,beq_self_eq_true,cO,g12,g13,g14]
end
theorem ok5 (S:S13) (old new:Bs) (n:Int) (a b:Bs) (s:Int) (l:List Op) (ha:a.length=16) (hb:b.length=16):Ok 5 [sv old,sv new,.i n,.agg (pe a b s (rO l))] (Is (.b true)):=by
 refine bO lw5 (by simp) ?_
 rw [c5_parts]
 simp -implicitDefEqProofs only [qK]
 conv=>arg 2;whnf
 simp -implicitDefEqProofs only [rX,↓rY,aA,cells?,↓reduceIte,Nat.reduceEqDiff,Nat.reduceAdd,reduceCtorEq,aD,cxN,aH]
 refine adU S ha hb (old:=old) (new:=new) (n:=n) ⟨rfl,rfl,rfl,rfl⟩ fun e _ h1 h2 hf hE=>?_
 obtain ⟨A,B,S',hA,hB,hP⟩:=Xc old new n
 simp -implicitDefEqProofs only [qK]
 refine adT h1 h2 hA hB hP hE fun e _ hE g9 g10=>?_
 simp -implicitDefEqProofs only [qK]
 refine adS h1 h2 hA hB hP hE g9 g10 fun e _ hE g9 g10 g11=>?_
 simp -implicitDefEqProofs only [qK]
 refine adR h1 ha hb hf hE ⟨g9,g10,g11⟩ fun e _ hE hF g12 g13=>?_
 simp -implicitDefEqProofs only [qK]
 refine adQ h1 ha hb hf hE hF g12 g13 fun e _ hE hF g12 g13 g14=>?_
 exact adP S ha hb hA hB hf hE hF g12 g13 g14
end Go.Fx.H
namespace Go.Fx.H
open Go Go.Fx Go.Proofs Go.Fx.R
set_option maxRecDepth 20000
section
end
theorem Xq {x:List V} (h:WfT (.st [tI,tI,.str]) x):∃ o:Op,x=enO o:=by
 rw [WfT] at h
 obtain ⟨_,_,rfl,q0,h⟩:=jL h
 obtain ⟨_,_,rfl,q1,h⟩:=jL h
 obtain ⟨_,_,rfl,q2,h⟩:=jL h
 rw [tP.eq_1] at h
 subst h
 obtain ⟨n0,rfl,_⟩:=uK q0
 obtain ⟨n1,rfl,_⟩:=uK q1
 rw [WfT] at q2
 obtain ⟨s,rfl,_⟩:=q2
 obtain ⟨l,rfl⟩:=Tm (b:=s)
 exact ⟨(n0,n1,l),rfl⟩
theorem Xp {x:V} (h:WfV tPt x):∃ (a b:Bs) (s:Int) (l:List Op),x=.agg (pe a b s (rO l))∧a.length=16∧b.length=16:=by
 obtain ⟨cs,h,rfl⟩:=h
 obtain ⟨_,_,rfl,q0,h⟩:=jL h
 obtain ⟨_,_,rfl,q1,h⟩:=jL h
 obtain ⟨_,_,rfl,q2,h⟩:=jL h
 obtain ⟨_,_,rfl,q3,h⟩:=jL h
 rw [tP.eq_1] at h
 subst h
 obtain ⟨a,rfl,ha⟩:=Tf q0
 obtain ⟨b,rfl,hb⟩:=Tf q1
 obtain ⟨s,rfl,_⟩:=uK q2
 rw [WfT] at q3
 obtain ⟨els,rfl,_,he⟩:=q3
 obtain ⟨l,rfl,_⟩:=exM (g:=enO) (p:=fun _=>True) fun x hx=>(Xq (he x hx)).imp fun a e=>⟨e,trivial⟩
 exact ⟨a,b,s,l,by simp [pe],ha,hb⟩
theorem fn5:∀ xs,WfA [.str,.str,tI,tPt] xs→Fn Tryz.prog 5 xs [] [] (fun r _=>r=.b true):=by
 intro xs h
 obtain ⟨x1,_,rfl,h1,x2,_,rfl,h2,x3,_,rfl,h3,x4,_,rfl,h4,h⟩:=h
 obtain rfl:_=[]:=h
 obtain ⟨t,rfl⟩:=La h1
 obtain ⟨u,rfl⟩:=La h2
 obtain ⟨n,rfl,_⟩:=Uu h3
 obtain ⟨a,b,s,l,rfl,ha,hb⟩:=Xp h4
 exact abL (ok5 aeS t u n a b s l ha hb)
end Go.Fx.H
