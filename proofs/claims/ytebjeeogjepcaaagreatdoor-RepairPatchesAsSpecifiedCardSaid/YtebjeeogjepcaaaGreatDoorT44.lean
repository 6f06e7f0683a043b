import Derived.Test.YtebjeeogjepcaaaGreatDoorTR14
import Derived.Test.YtebjeeogjepcaaaGreatDoorHLow0
import Derived.Test.YtebjeeogjepcaaaGreatDoorHLow
set_option linter.unusedVariables false
set_option linter.unusedSimpArgs false
set_option linter.unusedSectionVars false
open List renaming take_of_length_le → yaa, length_append → yab, getElem_map → yae, length_take → yag, take → yah, getElem?_eq_getElem → yai, drop → yaj, drop_of_length_le → yak, append_assoc → yal, getElem_mem → yam, take_append_drop → yan, getElem_append_right → yao, take_add_one → yap, map_append → yaq, append_nil → yar, length_drop → yat, pairwise_cons → yau, mem_append → yaw, drop_eq_getElem_cons → yay, pairwise_append → yaz, getElem_append_left → yaA, take_append_of_le_length → yaB, replicate_succ → yaD, take_length → yaE, nil_append → yaF, eq_nil_of_length_eq_zero → yaG, length_singleton → yaH, mem_cons → yaI, set_append_right → yaJ, take_sublist → yaK, drop_append_of_le_length → yaL, getElem?_append_right → yaN, map → yaO, length_cons → yaQ, cons_append → yaR, mem_cons_self → yaS, drop_sublist → yaU, pairwise_iff_getElem → yaV, length_map → yaW, replicate → yaX, range' → yba, all_append → ybb, mem_of_mem_take → ybe, getElem?_cons_succ → ybf, length_nil → ybg, mem_map → ybk, getD_eq_getElem?_getD → ybl, mem_cons_of_mem → ybo, eq_nil_or_concat → ybp, concat_eq_append → ybq, length_filter_le → ybr, take_succ_cons → ybs, getLastD_eq_getLast? → ybt, getLast?_eq_getElem? → ybu, dropLast_eq_take → ybv, perm_append_comm → ybw, getLast?_append → ybx, getLast?_singleton → yby, dropLast_concat → ybz
open Int renaming toNat_natCast → yac, natCast_zero → yax, toNat → yaC, le_refl → yaM
open Nat renaming le_refl → yad, zero_le → yaf, eq_zero_or_pos → yas, lt_or_ge → yav, mul_one → yaY, strongRecOn → yaZ, not_lt_zero → ybd, zero_add → ybh, succ_mul → ybi, le_mul_of_pos_right → ybj, sub_zero → ybn
open Bool renaming not_true → yaP, not_false → yaT, eq_iff_iff → ybc
open Option renaming getD_some → ybm
namespace Go.Fx.H
open Go Go.Fx Go.Proofs Go.Fx.R
set_option maxRecDepth 20000
abbrev hpM (A B o:List Sp):List Blk:=[.var [.sl 4 0 o.length],.var [aO A],.var [aO B],.rcd .ready [(5,.ptr 0 0 0)],.arr 2 (o.map enS)]
structure E94 (A B:List Sp) (i j n:Nat) (e:Env):Prop where
 e0:get e 0=.itr 3
 e1:get e 1=.ptr 1 0 0
 e2:get e 2=.ptr 2 0 0
 e4:get e 4=.ro 1 ((cV A B).map encI)
 e7:get e 7=.i i
 e8:get e 8=.i j
 e9:get e 9=.i n
structure Past (A:List Sp) (i:Nat) (x:Int):Prop where
 l:i≤A.length
 h:∀ j (hj:j<A.length),j<i→A[j].2≤x
theorem Past.mono {A:List Sp} {i:Nat} {x y:Int} (h:Past A i x) (hxy:x≤y):Past A i y:=⟨h.l,fun j hj hlt=>Int.le_trans (h.h j hj hlt) hxy⟩
section
variable {A B:List Sp} {fx:List Nat} {Y:Yt} {K:List Blk→Prop} {Inv:Nat→List Sp→Prop}
structure EN (E:List Int) (i j n:Nat) (e:Env):Prop where
 e0:get e 0=.itr 3
 e1:get e 1=.ptr 1 0 0
 e2:get e 2=.ptr 2 0 0
 e4:get e 4=.ro 1 (E.map encI)
 e7:get e 7=.i i
 e8:get e 8=.i j
 e9:get e 9=.i n
 e10:get e 10=.ptr 5 0 0
structure At (A:List Sp) (i:Nat) (x:Int):Prop extends Past A i x where
 s:∀ h:i<A.length,x<A[i].2
theorem At.has {A:List Sp} {i:Nat} {x:Int} (hA:Sep A) (h:At A i x):hasB A x=if h:i<A.length then decide (A[i].1≤x) else false:=by
 have hp:=yaV.1 hA.2
 rw [ybc,fT]
 constructor
 ·rintro ⟨s,hs,h1,h2⟩
  obtain ⟨k,hk,rfl⟩:=List.getElem_of_mem hs
  rcases Nat.lt_trichotomy k i with c|c|c
  ·have:=h.h k hk c;omega
  ·subst c;rw [dif_pos hk];simpa using h1
  ·have:=hp i k (by omega) hk c
   have:=h.s (by omega)
   omega
 ·intro hh
  split at hh
  ·rename_i hi
   exact ⟨A[i],yam hi,by simpa using hh,h.s hi⟩
  ·cases hh
theorem abA {X:Nat→St→Prop} {R:St→Prop} {E:List Int} {o:List Sp} {a b:Int} {n i j bb:Nat} {e:Env} (hm:A.length≤maxLen) (he:EN E i j n e) (hP:Past A i a)
  (hX:∀ i' e' b',At A i' a→EN E i' j n e'→X 4 ⟨e',hpM A B o++[.var [.i a,.i b]],b'⟩) :
  s6 [3] (fun N=>aw ⟨C0 Tryz.prog,[3],[],I0 Tryz.prog,fun k' xs s Z=>k'=3∧Y xs s Z,none⟩ c132l2 N X R) ⟨e,hpM A B o++[.var [.i a,.i b]],bb⟩:=by
 have e0:=he.e0;have e1:=he.e1;have e2:=he.e2;have e4:=he.e4;have e7:=he.e7;have e8:=he.e8;have e9:=he.e9;have e10:=he.e10
 refine aR (fun i:Nat=>⟨[(10,.ptr 5 0 0),(9,.i n),(8,.i j),(7,.i i),(4,.ro 1 (E.map encI)),(2,.ptr 2 0 0),(1,.ptr 1 0 0),(0,.itr 3)],hpM A B o++[.var [.i a,.i b]],0⟩) (fun i=>Past A i a) (fun i=>A.length-i) i hP ?_ ?_
 ·simp -implicitDefEqProofs only [rX,↓reduceIte,leE,leH,leB,leV,dH,aC,aB,wfE,wfB,wfV,wfL,e0,e1,e2,e4,e7,e8,e9,e10,or_true]
 intro i hP
 have hl:=hP.l
 unfold c132l2
 rcases yav i A.length with h1|h1
 ·have hd:decide ((i:Int)<(A.length:Int))=true:=decide_eq_true (by omega)
  cases h2:decide (A[i].2≤a) with
  | true =>
   simp -implicitDefEqProofs only [rX,↓rY,aA,↓reduceIte,Nat.reduceEqDiff,Nat.reduceAdd,reduceCtorEq,leE,leH,leB,leV,dH,aC,aB,wfE,wfB,wfV,wfL,yae,yac,mT,hd,h2]
   refine fun _=>⟨⟨by omega,by omega⟩,h1,by simp only [lo,hi,maxLen] at *;omega,i+1,⟨⟨by omega,fun k hk hlt=>?_⟩,by omega⟩,by simp⟩
   by_cases c:k=i
   ·subst c;simpa using h2
   ·exact hP.h k hk (by omega)
  | false =>
   simp -implicitDefEqProofs only [rX,↓rY,↓reduceIte,Nat.reduceEqDiff,Nat.reduceAdd,yae,yac,mT,hd,h2]
   refine fun _=>⟨⟨by omega,by omega⟩,h1,hX i _ _ ⟨hP,fun _=>by simpa using h2⟩ ⟨rfl,rfl,rfl,rfl,rfl,rfl,rfl,rfl⟩⟩
 ·have hd:decide ((i:Int)<(A.length:Int))=false:=decide_eq_false (by omega)
  simp -implicitDefEqProofs only [rX,↓rY,aA,↓reduceIte,Nat.reduceEqDiff,Nat.reduceAdd,hd]
  exact fun _=>hX i _ _ ⟨hP,fun h=>absurd h (by omega)⟩ ⟨rfl,rfl,rfl,rfl,rfl,rfl,rfl,rfl⟩
theorem aaZ {X:Nat→St→Prop} {R:St→Prop} {E:List Int} {o:List Sp} {a b:Int} {n i j bb:Nat} {e:Env} (hm:B.length≤maxLen) (he:EN E i j n e) (hP:Past B j a)
  (hX:∀ j' e' b',At B j' a→EN E i j' n e'→X 6 ⟨e',hpM A B o++[.var [.i a,.i b]],b'⟩) :
  s6 [3] (fun N=>aw ⟨C0 Tryz.prog,[3],[],I0 Tryz.prog,fun k' xs s Z=>k'=3∧Y xs s Z,none⟩ c132l3 N X R) ⟨e,hpM A B o++[.var [.i a,.i b]],bb⟩:=by
 have e0:=he.e0;have e1:=he.e1;have e2:=he.e2;have e4:=he.e4;have e7:=he.e7;have e8:=he.e8;have e9:=he.e9;have e10:=he.e10
 refine aR (fun j:Nat=>⟨[(10,.ptr 5 0 0),(9,.i n),(8,.i j),(7,.i i),(4,.ro 1 (E.map encI)),(2,.ptr 2 0 0),(1,.ptr 1 0 0),(0,.itr 3)],hpM A B o++[.var [.i a,.i b]],0⟩) (fun j=>Past B j a) (fun j=>B.length-j) j hP ?_ ?_
 ·simp -implicitDefEqProofs only [rX,↓reduceIte,leE,leH,leB,leV,dH,aC,aB,wfE,wfB,wfV,wfL,e0,e1,e2,e4,e7,e8,e9,e10,or_true]
 intro j hP
 have hl:=hP.l
 unfold c132l3
 rcases yav j B.length with h1|h1
 ·have hd:decide ((j:Int)<(B.length:Int))=true:=decide_eq_true (by omega)
  cases h2:decide (B[j].2≤a) with
  | true =>
   simp -implicitDefEqProofs only [rX,↓rY,aA,↓reduceIte,Nat.reduceEqDiff,Nat.reduceAdd,reduceCtorEq,leE,leH,leB,leV,dH,aC,aB,wfE,wfB,wfV,wfL,yae,yac,mT,hd,h2]
   refine fun _=>⟨⟨by omega,by omega⟩,h1,by simp only [lo,hi,maxLen] at *;omega,j+1,⟨⟨by omega,fun k hk hlt=>?_⟩,by omega⟩,by simp⟩
   by_cases c:k=j
   ·subst c;simpa using h2
   ·exact hP.h k hk (by omega)
  | false =>
   simp -implicitDefEqProofs only [rX,↓rY,↓reduceIte,Nat.reduceEqDiff,Nat.reduceAdd,yae,yac,mT,hd,h2]
   refine fun _=>⟨⟨by omega,by omega⟩,h1,hX j _ _ ⟨hP,fun _=>by simpa using h2⟩ ⟨rfl,rfl,rfl,rfl,rfl,rfl,rfl,rfl⟩⟩
 ·have hd:decide ((j:Int)<(B.length:Int))=false:=decide_eq_false (by omega)
  simp -implicitDefEqProofs only [rX,↓rY,aA,↓reduceIte,Nat.reduceEqDiff,Nat.reduceAdd,hd]
  exact fun _=>hX j _ _ ⟨hP,fun h=>absurd h (by omega)⟩ ⟨rfl,rfl,rfl,rfl,rfl,rfl,rfl,rfl⟩
theorem abG (hA:Vd A) (hB:Vd B) (hfx:fx=[3])
  (hY:∀ n o (hn:n<(pieces (cV A B)).length),Inv n o→∀ (e:Env) (bb:Nat) (Z:V→St→Prop) (i j:Nat),E94 A B i j (n+1) e →
   (∀ e' o' tl,E94 A B i j (n+1) e'→Inv (n+1) o'→Z (.b true) ⟨e',hpM A B o'++tl,bb⟩) →
   Y [.agg (enS (pieces (cV A B))[n]),.agg [.b (hasB A (pieces (cV A B))[n].1),.b (hasB B (pieces (cV A B))[n].1)]] ⟨e,hpM A B o++[.var (enS (pieces (cV A B))[n])],bb⟩ Z)
  (hK:∀ o,Inv (pieces (cV A B)).length o→K (hpM A B o)) (o:List Sp) (ho:Inv 0 o) :
  I0 Tryz.prog 132 [.itr 3,.ptr 1 0 0,.ptr 2 0 0] fx 3 Y (hpM A B o) K:=by
 refine Fy pol fx lw132 (by simp) ?_
 subst hfx
 have hal:=hA.len
 have hbl:=hB.len
 unfold c132
 simp -implicitDefEqProofs only [rX,↓rY,aA,cells?,↓reduceIte,Nat.reduceEqDiff,Nat.reduceAdd,reduceCtorEq,aD,bY,isD,Nat.reduceLT,aH]
 refine dV [.bro 1 ([A,B].map enL)] (.sl 0 0 (A++B).length) (.sl 6 0 (A++B).length) [.arr 2 ((A++B).map enS)] [.arr 2 ((A++B).map enS)] ?_ ?_ ?_ ?_ ?_ ?_
 ·have:=Zf [A,B] (by simp;omega)
  rw [show [A,B].flatten=A++B by simp] at this
  exact this
 ·simp [aG,bA,aS,cK,wkL,wk,wkB,blk,enL]
 ·simp [ren]
 ·simp [bV]
 ·simp [aC,aB]
 simp -implicitDefEqProofs only [rX,↓rY,aA,↓reduceIte]
 intro hm
 rw [←yab] at *
 have hcl:(A++B).length≤2199023255552:=by rw [yab];omega
 have hbd:∀ s∈A++B,(0≤s.1∧s.1≤1099511627776)∧0≤s.2∧s.2≤1099511627776:=fun s hs=>(yaw.1 hs).elim (hA.2 s) (hB.2 s)
 have hE:cV A B=Lib.compact (srt (dU (A++B))):=rfl
 generalize hC:A++B=C at *
 refine eT (.virt 1 1 (by decide) (.nilE 4 7 rfl (.refl _))) (fun k:Nat=>⟨[(16,.i k),(15,.i C.length),(14,.sl 6 0 C.length),(4,.sl 7 0 (dU (C.take k)).length),(2,.ptr 2 0 0),(1,.ptr 1 0 0),(0,.itr 3)],hpM A B o++[.dead,.arr 2 (C.map enS),.arr 1 ((dU (C.take k)).map encI)],0⟩) (fun k=>k≤C.length) (fun k=>C.length-k) 0 (by omega) ?_ ?_
 ·simp -implicitDefEqProofs only [rX,↓reduceIte,Nat.reduceEqDiff,reduceCtorEq,leE,leH,leB,leV,dH,aC,aB,wfE,wfB,wfV,wfL,yax,yaD,dU,List.flatMap_nil,or_true]
 intro k hk
 have hel:(dU (C.take k)).length=2*k:=by rw [rH,yag];omega
 unfold c132l0
 rcases yav k C.length with hk1|hk1
 ·have hd:decide ((k:Int)<(C.length:Int))=true:=decide_eq_true (by omega)
  have hst:dU (C.take (k+1))=dU (C.take k)++[C[k].1,C[k].2]:=by
   unfold dU
   rw [yap,yai hk1,List.flatMap_append];simp
  simp -implicitDefEqProofs only [rX,↓rY,aA,cells?,splice,↓reduceIte,Nat.reduceEqDiff,eQ,Nat.reduceAdd,reduceCtorEq,aD,bY,leE,leH,leB,leV,dH,aC,aB,wfE,wfB,wfV,wfL,aP,aZ,kill,bM,St.kill,isD,Nat.reduceLT,yae,yac,cG,cQ,tC,mT,lE,iY,hd]
  have htk:yah (dU (C.take k)).length ((dU (C.take k)).map encI)=(dU (C.take k)).map encI:=yaa (by rw [yaW];exact yad _)
  refine ⟨⟨by omega,by omega⟩,hk1,by omega,by simp only [lo,hi];omega,k+1,⟨by omega,by omega⟩,?_⟩
  rw [htk,hst,yab,yaq]
  exact ⟨⟨by simp,rfl⟩,.inl trivial,rfl⟩
 ·have hd:decide ((k:Int)<(C.length:Int))=false:=decide_eq_false (by omega)
  rw [yaa hk1]
  have hel2:(dU C).length=2*C.length:=rH
  simp -implicitDefEqProofs only [rX,↓rY,↓reduceIte,Nat.reduceEqDiff,Nat.reduceAdd,hd]
  refine eW [7] [.sl 0 0 (dU C).length] (.tup []) (.tup []) [.arr 1 ((dU C).map encI)] [.arr 1 ((srt (dU C)).map encI)] _ (aaG (dU C) (by omega)) (by simp) (by simp [blk,bV]) (by simp [aG,bA,aS,cK,wkL,wk,pos]) (by simp) rfl rfl (by simp [aC,aB,bZ,bV]) ?_
  simp -implicitDefEqProofs only [rX,↓reduceIte,Nat.reduceEqDiff,Nat.reduceAdd,bZ,bV]
  have hsl:(srt (dU C)).length=(dU C).length:=Ad
  have h97:=aaF (srt (dU C)) (by omega)
  rw [←hE] at h97
  have hEl:(cV A B).length≤(dU C).length:=by rw [←hsl,hE];exact uE
  generalize hZ:cV A B++yaX ((srt (dU C)).length-(cV A B).length) 0=Z at h97
  have hZt:yah (cV A B).length (Z.map encI)=(cV A B).map encI:=by
   rw [←hZ,yaq,List.take_left' (by simp)]
  have hZl:(cV A B).length≤Z.length:=by rw [←hZ];simp
  rw [←hsl]
  refine eW [7] [.sl 0 0 (srt (dU C)).length] (.sl 0 0 (cV A B).length) (.sl 7 0 (cV A B).length) [.arr 1 ((srt (dU C)).map encI)] [.arr 1 (Z.map encI)] _ h97 (by simp) (by simp [blk,bV]) (by simp [aG,bA,aS,cK,wkL,wk,pos]) (by simp) rfl (by simp [ren,back]) (by simp [aC,aB,bZ,bV]) ?_
  simp -implicitDefEqProofs only [rX,aA,↓reduceIte,Nat.reduceAdd,bZ,bV]
  refine eT (.give (fun k=>k==7) (by simp) (.refl _)) (fun g:(Nat × Nat × Nat) × List Sp=>⟨[(9,.i (g.1.1+1:Nat)),(8,.i g.1.2.2),(7,.i g.1.2.1),(4,.ro 1 ((cV A B).map encI)),(2,.ptr 2 0 0),(1,.ptr 1 0 0),(0,.itr 3)],hpM A B g.2,0⟩)
   (fun g=>g.1.1≤(pieces (cV A B)).length∧(∀ h:g.1.1<(pieces (cV A B)).length,Past A g.1.2.1 (pieces (cV A B))[g.1.1].1∧Past B g.1.2.2 (pieces (cV A B))[g.1.1].1)∧Inv g.1.1 g.2) (fun g=>(pieces (cV A B)).length-g.1.1) ((0,0,0),o) ⟨yaf _,fun h=>⟨⟨yaf _,fun j hj h=>absurd h (ybd _)⟩,⟨yaf _,fun j hj h=>absurd h (ybd _)⟩⟩,ho⟩ ?_ ?_
  ·simp -implicitDefEqProofs only [rX,↓reduceIte,Nat.reduceEqDiff,Nat.reduceAdd,reduceCtorEq,leE,leH,leB,leV,dH,aC,aB,wfE,wfB,wfV,wfL,St.give,gvE,gvV,gvH,gvB,gvL,Nat.reduceBEq]
   rw [if_pos hZl,hZt]
   exact ⟨⟨rfl,rfl,rfl,rfl⟩,.inl trivial⟩
  rintro ⟨⟨n,i,j⟩,o⟩ ⟨hn,hP,hI⟩
  simp only at hn hP hI
  have hpl:=f8 (E:=cV A B)
  have hasc:Asc (cV A B):=lH
  generalize hEE:cV A B=E at *
  unfold c132l1
  rcases yav n (pieces E).length with hn1|hn1
  ·have hd:decide (((n+1:Nat):Int)<(E.length:Int))=true:=decide_eq_true (by omega)
   obtain ⟨hPA,hPB⟩:=hP hn1
   have hg:=mC hn1
   have hlt:=sF hasc (yam hn1)
   have he1:n<E.length:=by omega
   have he2:n+1<E.length:=by omega
   have hm1:(((n+1:Nat):Int)-1).toNat=n:=by omega
   simp -implicitDefEqProofs only [rX,↓rY,rdK,aA,cells?,splice,↓reduceIte,Nat.reduceEqDiff,Nat.reduceAdd,aD,bG,isC,Nat.reduceLeDiff,yae,yac,Xb,hd,hm1]
   refine fun hmE=>⟨by simp only [lo,hi,maxLen] at *;omega,⟨by omega,by omega⟩,he1,⟨by omega,by omega⟩,he2,?_⟩
   have hp1:(pieces E)[n].1=E[n]:=by rw [hg]
   have hp2:enS (pieces E)[n]=[.i E[n],.i E[n+1]]:=by rw [hg];rfl
   have hYn:=hY n o hn1 hI
   rw [hp2,hp1] at hYn
   rw [hp1] at hPA hPB
   refine abA (by simp only [maxLen];omega) ⟨rfl,rfl,rfl,rfl,rfl,rfl,rfl,rfl⟩ hPA ?_
   intro i' e' b1 hAt he'
   simp -implicitDefEqProofs only [rX,↓reduceIte]
   refine aaZ (by simp only [maxLen];omega) he' hPB ?_
   clear he'
   intro j' e' b2 hBt he'
   have q0:=he'.e0;have q1:=he'.e1;have q2:=he'.e2;have q4:=he'.e4;have q7:=he'.e7;have q8:=he'.e8;have q9:=he'.e9;have q10:=he'.e10
   have hfa:=hAt.has hA.1
   have hfb:=hBt.has hB.1
   simp -implicitDefEqProofs only [rX,↓rY,rZ,↓rW,aA,cells?,splice,↓reduceIte,Nat.reduceEqDiff,Nat.reduceAdd,bG,Nat.reduceLeDiff,yae,yac,tC,Ep,Ut,Uo,Kv,q0,q1,q2,q7,q8,q10]
   have hmono:∀ h:n+1<(pieces E).length,E[n]≤(pieces E)[n+1].1:=fun h=>by
    rw [mC h]
    have:=(yaV.1 hasc) n (n+1) he1 he2 (by omega)
    simp only
    omega
   rcases Decidable.em (i'<A.length) with a1|a1<;>rcases Decidable.em (j'<B.length) with c1|c1
   ·
    rw [dif_pos a1] at hfa
    rw [dif_pos c1] at hfb
    rw [hfa,hfb] at hYn
    have hdA:decide ((i':Int)<(A.length:Int))=true:=decide_eq_true (by omega)
    have hdB:decide ((j':Int)<(B.length:Int))=true:=decide_eq_true (by omega)
    simp only [hdA,hdB,kc,ke]
    refine fun _=>⟨⟨by omega,by omega⟩,a1,fun _=>⟨⟨by omega,by omega⟩,c1,⟨rfl,?_⟩⟩⟩
    refine hYn _ _ _ i' j' ⟨by first|rfl|exact q0,by first|rfl|exact q1,by first|rfl|exact q2,by rw [hEE];exact q4,by first|rfl|exact q7,by first|rfl|exact q8,by first|rfl|exact q9⟩ ?_
    intro e3 o3 tl he3 hI3
    have r0:=he3.e0;have r1:=he3.e1;have r2:=he3.e2;have r4:=he3.e4;have r7:=he3.e7;have r8:=he3.e8;have r9:=he3.e9
    simp -implicitDefEqProofs only [rX,↓rY,rZ,aA,↓reduceIte,Nat.reduceEqDiff,reduceCtorEq,leE,leH,leB,leV,dH,aC,aB,wfE,wfB,wfV,wfL,rN,r9]
    refine ⟨by simp only [lo,hi,maxLen] at *;omega,((n+1,i',j'),o3),⟨⟨by simp only;omega,fun h=>⟨hAt.toPast.mono (hmono h),hBt.toPast.mono (hmono h)⟩,hI3⟩,by simp only;omega⟩,?_⟩
    simp -implicitDefEqProofs only [rX,r0,r1,r2,r4,r7,r8]
    exact ⟨⟨by simp,by rw [hEE]⟩,.inl trivial⟩
   ·
    rw [dif_pos a1] at hfa
    rw [dif_neg c1] at hfb
    rw [hfa,hfb] at hYn
    have hdA:decide ((i':Int)<(A.length:Int))=true:=decide_eq_true (by omega)
    have hdB:decide ((j':Int)<(B.length:Int))=false:=decide_eq_false (by omega)
    simp only [hdA,hdB,kc,ke]
    refine fun _=>⟨⟨by omega,by omega⟩,a1,fun _=>⟨rfl,?_⟩⟩
    refine hYn _ _ _ i' j' ⟨by first|rfl|exact q0,by first|rfl|exact q1,by first|rfl|exact q2,by rw [hEE];exact q4,by first|rfl|exact q7,by first|rfl|exact q8,by first|rfl|exact q9⟩ ?_
    intro e3 o3 tl he3 hI3
    have r0:=he3.e0;have r1:=he3.e1;have r2:=he3.e2;have r4:=he3.e4;have r7:=he3.e7;have r8:=he3.e8;have r9:=he3.e9
    simp -implicitDefEqProofs only [rX,↓rY,rZ,aA,↓reduceIte,Nat.reduceEqDiff,reduceCtorEq,leE,leH,leB,leV,dH,aC,aB,wfE,wfB,wfV,wfL,rN,r9]
    refine ⟨by simp only [lo,hi,maxLen] at *;omega,((n+1,i',j'),o3),⟨⟨by simp only;omega,fun h=>⟨hAt.toPast.mono (hmono h),hBt.toPast.mono (hmono h)⟩,hI3⟩,by simp only;omega⟩,?_⟩
    simp -implicitDefEqProofs only [rX,r0,r1,r2,r4,r7,r8]
    exact ⟨⟨by simp,by rw [hEE]⟩,.inl trivial⟩
   ·
    rw [dif_neg a1] at hfa
    rw [dif_pos c1] at hfb
    rw [hfa,hfb] at hYn
    have hdA:decide ((i':Int)<(A.length:Int))=false:=decide_eq_false (by omega)
    have hdB:decide ((j':Int)<(B.length:Int))=true:=decide_eq_true (by omega)
    simp only [hdA,hdB,kc,ke]
    refine fun _=>fun _=>⟨⟨by omega,by omega⟩,c1,⟨rfl,?_⟩⟩
    refine hYn _ _ _ i' j' ⟨by first|rfl|exact q0,by first|rfl|exact q1,by first|rfl|exact q2,by rw [hEE];exact q4,by first|rfl|exact q7,by first|rfl|exact q8,by first|rfl|exact q9⟩ ?_
    intro e3 o3 tl he3 hI3
    have r0:=he3.e0;have r1:=he3.e1;have r2:=he3.e2;have r4:=he3.e4;have r7:=he3.e7;have r8:=he3.e8;have r9:=he3.e9
    simp -implicitDefEqProofs only [rX,↓rY,rZ,aA,↓reduceIte,Nat.reduceEqDiff,reduceCtorEq,leE,leH,leB,leV,dH,aC,aB,wfE,wfB,wfV,wfL,rN,r9]
    refine ⟨by simp only [lo,hi,maxLen] at *;omega,((n+1,i',j'),o3),⟨⟨by simp only;omega,fun h=>⟨hAt.toPast.mono (hmono h),hBt.toPast.mono (hmono h)⟩,hI3⟩,by simp only;omega⟩,?_⟩
    simp -implicitDefEqProofs only [rX,r0,r1,r2,r4,r7,r8]
    exact ⟨⟨by simp,by rw [hEE]⟩,.inl trivial⟩
   ·
    rw [dif_neg a1] at hfa
    rw [dif_neg c1] at hfb
    rw [hfa,hfb] at hYn
    have hdA:decide ((i':Int)<(A.length:Int))=false:=decide_eq_false (by omega)
    have hdB:decide ((j':Int)<(B.length:Int))=false:=decide_eq_false (by omega)
    simp only [hdA,hdB,kc,ke]
    refine fun _=>fun _=>⟨rfl,?_⟩
    refine hYn _ _ _ i' j' ⟨by first|rfl|exact q0,by first|rfl|exact q1,by first|rfl|exact q2,by rw [hEE];exact q4,by first|rfl|exact q7,by first|rfl|exact q8,by first|rfl|exact q9⟩ ?_
    intro e3 o3 tl he3 hI3
    have r0:=he3.e0;have r1:=he3.e1;have r2:=he3.e2;have r4:=he3.e4;have r7:=he3.e7;have r8:=he3.e8;have r9:=he3.e9
    simp -implicitDefEqProofs only [rX,↓rY,rZ,aA,↓reduceIte,Nat.reduceEqDiff,reduceCtorEq,leE,leH,leB,leV,dH,aC,aB,wfE,wfB,wfV,wfL,rN,r9]
    refine ⟨by simp only [lo,hi,maxLen] at *;omega,((n+1,i',j'),o3),⟨⟨by simp only;omega,fun h=>⟨hAt.toPast.mono (hmono h),hBt.toPast.mono (hmono h)⟩,hI3⟩,by simp only;omega⟩,?_⟩
    simp -implicitDefEqProofs only [rX,r0,r1,r2,r4,r7,r8]
    exact ⟨⟨by simp,by rw [hEE]⟩,.inl trivial⟩
  ·have hd:decide (((n+1:Nat):Int)<(E.length:Int))=false:=decide_eq_false (by omega)
   have hne:n=(pieces E).length:=by omega
   subst hne
   have:=hK o hI
   simp -implicitDefEqProofs only [rX,↓rY,↓reduceIte,Nat.reduceEqDiff,Nat.reduceAdd,hd]
   exact fun _=>this
end
end Go.Fx.H
namespace Go.Fx.H
open Go Go.Fx Go.Proofs Go.Fx.R
set_option maxRecDepth 20000
theorem adY (A B:List Sp):Ok 86 [aO A,aO B] (IsA (.clo 132 [.ptr 0 0 0,.ptr 1 0 0]) [.var [aO A],.var [aO B]]):=by
 refine bO lw86 (by simp) ?_
 unfold c86
 simp -implicitDefEqProofs only [rX,↓rY,aA,cells?,↓reduceIte,Nat.reduceEqDiff,Nat.reduceAdd,reduceCtorEq,aD,aT,aY,leH,leB,leV,dH,aC,aB,wfB,wfV,wfL,Nat.reduceLeDiff,cxN,aH,bP]
theorem Jo {l:List Sp} {n:Nat} (h:n=l.length):yah n (l.map enS)=l.map enS:=yaa (by simp [h])
def oV (f:Bool→Bool→Bool) (A B:List Sp) (n:Nat):List Sp:=((pieces (cV A B)).take n).filter fun s=>f (hasB A s.1) (hasB B s.1)
theorem Js {f:Bool→Bool→Bool} {A B:List Sp} {n:Nat} (h:n<(pieces (cV A B)).length):oV f A B (n+1)=oV f A B n++if f (hasB A (pieces (cV A B))[n].1) (hasB B (pieces (cV A B))[n].1) then [(pieces (cV A B))[n]] else []:=by
 unfold oV
 rw [yap,yai h,List.filter_append,Option.toList_some]
 congr 1
 rw [List.filter_cons,List.filter_nil]
theorem Mb {f:Bool→Bool→Bool} {A B:List Sp}:ofS (oV f A B (pieces (cV A B)).length)=Qx f A B:=by
 unfold oV Qx
 rw [yaE]
theorem Ck {f:Bool→Bool→Bool} {A B:List Sp} {n:Nat} (hA:Vd A) (hB:Vd B):(oV f A B n).length≤4398046511104:=by
 have h1:(oV f A B n).length≤(pieces (cV A B)).length:=by
  unfold oV
  refine Nat.le_trans (ybr _ _) ?_
  rw [yag];omega
 have h2:=f8 (E:=cV A B)
 have h3:(cV A B).length≤(dU (A++B)).length:=Qq
 rw [rH,yab] at h3
 have:=hA.len
 have:=hB.len
 omega
theorem Ma {f:Bool→Bool→Bool} {A B:List Sp} {n:Nat} (hA:Vd A) (hB:Vd B):Mid (oV f A B n):=by
 intro s hs
 unfold oV at hs
 rw [List.mem_filter] at hs
 obtain ⟨_,h1,_,_⟩:=sF lH (ybe hs.1)
 unfold cV at h1
 rw [jY.2,nF] at h1
 obtain ⟨t,ht,h2⟩:=h1
 have:(0≤t.1∧t.1≤1099511627776)∧0≤t.2∧t.2≤1099511627776:=(yaw.1 ht).elim (hA.2 t) (hB.2 t)
 omega
end Go.Fx.H
namespace Go.Fx.H
open Go Go.Fx Go.Proofs Go.Fx.R
set_option maxRecDepth 20000
theorem aeH (A B:List Sp) (hA:Vd A) (hB:Vd B):Ok 46 [aO A,aO B] (Is (aO (nE A B))):=by
 rw [←Jr hA.1,←Mb]
 refine bO lw46 (by simp) ?_
 unfold c46
 simp -implicitDefEqProofs only [rX,↓rY,aA,cells?,↓reduceIte,Nat.reduceEqDiff,reduceCtorEq,aD,cxN,aH]
 refine dV [aO A,aO B] (.clo 132 [.ptr 0 0 0,.ptr 1 0 0]) (.clo 132 [.ptr 1 0 0,.ptr 2 0 0]) [.var [aO A],.var [aO B]] [.var [aO A],.var [aO B]] (adY A B) ⟨⟨trivial,trivial,trivial⟩,⟨rfl,rfl⟩,⟨rfl,rfl⟩,trivial⟩ (by simp [ren,cH]) (by simp [bV,cH,ren]) trivial ?_
 simp -implicitDefEqProofs only [rX]
 refine uY 3 rfl rfl trivial ?_
 refine rM (as':=[.itr 3,.ptr 1 0 0,.ptr 2 0 0]) (h':=hpM A B []) rfl ⟨_,.virt 1 2 (by decide) (.nilB 0 [.nil] [.sl 4 0 0] rfl ⟨rfl,fun i a b h1 h2=>?_⟩ (.refl _)),?_⟩ (abG hA hB rfl (Inv:=fun n o=>o=oV (fun x y=>x&&!y) A B n) ?_ ?_ _ ?_)
 ·match i with
  | 0=>simp at h1 h2;subst h1 h2;exact .inr ⟨rfl,_,rfl⟩
  | i+1=>simp at h1
 ·simp -implicitDefEqProofs only [rX,↓reduceIte,Nat.reduceEqDiff,Nat.reduceAdd,reduceCtorEq,leE,leH,leB,leV,dH,aC,aB,wfE,wfB,wfV,wfL,aH,yaD,or_true]
 ·rintro n o hn rfl e bb Z i j he hZ
  have hst:=Js (f:=fun x y=>x&&!y) (A:=A) (B:=B) hn
  have hlen:=Ck (f:=fun x y=>x&&!y) (n:=n) hA hB
  have hnext:∀ (e':Env) o',E94 A B i j (n+1) e'→o'=oV (fun x y=>x&&!y) A B (n+1)→∀ tl,Z (.b true) ⟨e',hpM A B o'++tl,bb⟩:=fun e' o' h1 h2 tl=>hZ e' o' tl h1 h2
  have hkill:E94 A B i j (n+1) (aP [4] e):=by
   refine ⟨?_,?_,?_,?_,?_,?_,?_⟩<;>rw [aQ]
   ·rw [he.e0];simp [kill]
   ·rw [he.e1];simp [kill]
   ·rw [he.e2];simp [kill]
   ·rw [he.e4];rfl
   ·rw [he.e7];rfl
   ·rw [he.e8];rfl
   ·rw [he.e9];rfl
  generalize oV (fun x y=>x&&!y) A B n=o at *
  have htk:yah o.length (o.map enS)=o.map enS:=Jo rfl
  refine By 6 rfl rfl rfl ?_
  unfold c46a0
  cases hfa:hasB A (pieces (cV A B))[n].1 with
  | false =>
   rw [hfa] at hst
   simp -implicitDefEqProofs only [rX,↓rY,rZ,↓rW,aA,cells?,splice,↓reduceIte,Nat.reduceEqDiff,Nat.reduceAdd,aD,isC,cG,lE,gW]
   unfold c46r0
   simp -implicitDefEqProofs only [rX,↓rY,rZ,↓rW,aA,cells?,splice,↓reduceIte,Nat.reduceEqDiff,Nat.reduceAdd,reduceCtorEq,aD,bY,aP,aZ,kill,bM,St.kill,isC,Nat.reduceLT,yaY,cG,cQ,oP,iY,show yaC 0=0 from rfl,show yaC 1=1 from rfl,ybf]
   refine ⟨by omega,?_⟩
   exact hnext e o he (by rw [hst];simp) [_,_,_,_]
  | true =>
   cases hfb:hasB B (pieces (cV A B))[n].1 with
   | false =>
    rw [hfa,hfb] at hst
    simp -implicitDefEqProofs only [rX,↓rY,rZ,↓rW,aA,cells?,splice,↓reduceIte,Nat.reduceEqDiff,Nat.reduceAdd,aD,isC,cG,lE,gW]
    unfold c46r0
    simp -implicitDefEqProofs only [rX,↓rY,rZ,↓rW,aA,cells?,splice,↓reduceIte,Nat.reduceEqDiff,Nat.reduceAdd,reduceCtorEq,aD,bY,aP,aZ,kill,bM,St.kill,isC,Nat.reduceLT,yaY,cG,cQ,oP,iY,show yaC 0=0 from rfl,show yaC 1=1 from rfl,ybf]
    refine ⟨by omega,by omega,by omega,?_⟩
    have:=hnext _ (o++[(pieces (cV A B))[n]]) hkill (by rw [hst];simp) [.var (enS (pieces (cV A B))[n]),.dead,.var (enS (pieces (cV A B))[n]),.var [.b true,.b false],.arr 2 [enS (pieces (cV A B))[n]],.dead]
    simp only [hpM,yab,yaQ,ybg,yaq,List.map_cons,List.map_nil,yaR,yaF,ybh] at this
    rw [htk]
    exact this
   | true =>
    rw [hfa,hfb] at hst
    simp -implicitDefEqProofs only [rX,↓rY,rZ,↓rW,aA,cells?,splice,↓reduceIte,Nat.reduceEqDiff,Nat.reduceAdd,aD,isC,cG,lE,gW]
    unfold c46r0
    simp -implicitDefEqProofs only [rX,↓rY,rZ,↓rW,aA,cells?,splice,↓reduceIte,Nat.reduceEqDiff,Nat.reduceAdd,reduceCtorEq,aD,bY,aP,aZ,kill,bM,St.kill,isC,Nat.reduceLT,yaY,cG,cQ,oP,iY,show yaC 0=0 from rfl,show yaC 1=1 from rfl,ybf]
    refine ⟨by omega,by omega,?_⟩
    exact hnext e o he (by rw [hst];simp) [_,_,_,_]
 ·rintro o rfl
  have hlen:=Ck (f:=fun x y=>x&&!y) (n:=(pieces (cV A B)).length) hA hB
  have hmid:=Ma (f:=fun x y=>x&&!y) (n:=(pieces (cV A B)).length) hA hB
  simp -implicitDefEqProofs only [rX,↓rY,rZ,↓rW,↓reduceIte,Nat.reduceAdd,aB,wfE,wfB,wfV,wfL]
  generalize oV (fun x y=>x&&!y) A B (pieces (cV A B)).length=o at *
  refine xG o rfl hlen hmid rfl rfl (by simp) trivial ?_
  simp -implicitDefEqProofs only [rX,↓reduceIte,reduceCtorEq,aT,aY,wfV,aP,aZ,kill,bM,St.kill]
 ·simp [oV]
theorem d7 {cx:Cx} {f:FuncId} {args:List V} {e:Env} {h:List Blk} {b:Nat} {K:V→St→Prop} (ι mv M:List Nat) (xs:List V) (x x':V) (h0 h1 h':List Blk) (e':Env) (hC:cx.C f xs h0 mv (IsA x h1))
  (hι:ι.Nodup∧∀ k∈ι,k<h.length∧k∉cx.bn) (hM:mv.filterMap (ι[·]?)=M∧∀ j∈mv,∀ k,ι[j]?=some k→k∉cx.fx) (r0:ι.map (fun k=>bV (pos ι) (blk h k))=h0) (ha:aG h (pos ι) args∧wkL xs (aS h (pos ι) args))
  (hh:bZ ι (h1.map (bV (back ι h.length))) (h.map (aZ M))=h') (hx:ren (back ι h.length) x=x') (he:aP M e=e') (keep:aC cx.fx h') (h3:K x' ⟨e',h',b⟩):eX cx f args ⟨e,h,b⟩ K:=by
 refine ⟨ι,xs,mv,IsA x h1,⟨hι,hM.2⟩,ha.1,ha.2,by rw [r0];exact hC,?_⟩
 rintro r h2 ⟨rfl,rfl⟩ _
 rw [hM.1,hh,hx,he]
 exact ⟨keep,h3⟩
end Go.Fx.H
namespace Go.Fx.H
open Go Go.Fx Go.Proofs Go.Fx.R
set_option maxRecDepth 20000
def nb (n b:Nat):Nat:=(n+b-1)/b
theorem vH {n b j:Nat} (hb:1≤b):j*b<n↔j<nb n b:=by
 unfold nb
 have h:=Nat.le_div_iff_mul_le (x:=j+1) (y:=n+b-1) (k:=b) (by omega)
 rw [ybi] at h
 omega
theorem Ni {n b:Nat} (hb:1≤b):nb n b≤n:=by
 rcases yas (nb n b) with h|h
 ·omega
 ·have:=(vH (n:=n) (j:=nb n b-1) hb).2 (by omega)
  have h2:nb n b-1≤(nb n b-1)*b:=ybj _ hb
  omega
theorem Wj {n b:Nat} (hb:1≤b):oH n b=nb n b:=by
 rw [Bi (by omega) (by omega)]
 unfold nb
 have:((n:Int)+b-1)=((n+b-1:Nat):Int):=by omega
 rw [this,Int.natCast_ediv]
def bk (t:Bs) (b j:Nat):Bs:=(t.drop (j*b)).take b
theorem Pk {t:Bs} {b j:Nat}:(t.take (min t.length (j*b+b))).drop (j*b)=bk t b j:=by
 unfold bk
 rw [List.drop_take]
 rcases Nat.le_total (j*b+b) t.length with h|h
 ·rw [Nat.min_eq_right h];congr 1;omega
 ·rw [Nat.min_eq_left h,yaa (by simp),yaa (by simp;omega)]
theorem Bq {t:Bs} {b j:Nat}:(bk t b j).length=min b (t.length-j*b):=by simp [bk]
def Pj (t:Bs) (b:Nat):List Bs:=(List.range (nb t.length b)).map (bk t b)
def lvs (t:Bs) (b:Nat):List Bs:=(Pj t b).map lf
theorem Pi {t:Bs} {b:Nat}:(Pj t b).length=nb t.length b:=by simp [Pj]
theorem t7 {t:Bs} {b:Nat}:(lvs t b).length=nb t.length b:=by simp [lvs,Pi]
theorem Ik {t:Bs} {b:Nat}:D16 (lvs t b):=by
 intro d hd
 obtain ⟨x,_,rfl⟩:=ybk.1 hd
 exact o8
structure EB (k a c b i:Nat) (e:Env):Prop where
 e0:get e 0=.itr k
 e1:get e 1=.ptr a 0 0
 e2:get e 2=.ptr c 0 0
 e4:get e 4=.i ((i*b:Nat):Int)
structure ItB {G:Type} (hp:G→List Blk) (L:Nat) (t:Bs) (b:Nat) (k a c:Nat) (fx:List Nat):Prop where
 hb:1≤b∧b≤1000000000
 hm:t.length≤1000000000
 len:∀ g,(hp g).length=L
 ha:∀ g tl,(hp g++tl)[a]?=some (.var [sv t])
 hc:∀ g tl,(hp g++tl)[c]?=some (.var [.i b])
 kp:∀ g,aC fx (hp g)
 wf:∀ g,wfB (hp g) (hp g)
 lk:∀ g,∃ t e,(hp g)[k]?=some (.rcd t e)
section
variable {G:Type} {hp:G→List Blk} {L:Nat} {t:Bs} {b k a c:Nat} {fx:List Nat} {Y:Yt} {K:List Blk→Prop} {Inv:Nat→G→Prop}
abbrev Zb {G:Type} (hp:G→List Blk) (b k a c:Nat) (g:Nat × G):St:=⟨[(4,.i ((g.1*b:Nat):Int)),(0,.itr k),(1,.ptr a 0 0),(2,.ptr c 0 0)],hp g.2,0⟩
theorem Nx (H:ItB hp L t b k a c fx)
  (hY:∀ i g,i<nb t.length b→Inv i g→∀ (e:Env) (bb:Nat) (Z:V→St→Prop),EB k a c b i e →
   (∀ e' g' tl,EB k a c b i e'→Inv (i+1) g'→Z (.b true) ⟨e',hp g'++tl,bb⟩)→Y [.i ((i*b:Nat):Int),sv (bk t b i)] ⟨e,hp g,bb⟩ Z)
  (hK:∀ g,Inv (nb t.length b) g→K (hp g)) (g:G) (hg:Inv 0 g) :
  I0 Tryz.prog 111 [.itr k,.ptr a 0 0,.ptr c 0 0] fx k Y (hp g) K:=by
 refine Fy pol fx lw111 (by simp) ?_
 have hlen:=H.len g
 have a0:=H.ha g []
 have c0:=H.hc g []
 rw [yar] at a0 c0
 obtain ⟨tk,ek,lk⟩:=H.lk g
 unfold c111
 simp -implicitDefEqProofs only [rX,aA,Nat.reduceAdd,aH]
 refine aR (Zb hp b k a c) (fun g=>g.1≤nb t.length b∧Inv g.1 g.2) (fun g=>nb t.length b-g.1) (0,g) ⟨yaf _,hg⟩ ?_ ?_
 ·simp -implicitDefEqProofs only [rX,↓reduceIte,Nat.reduceEqDiff,reduceCtorEq,leE,aB,wfE,wfV,lk,a0,c0,eq_true (H.kp g),eq_true (H.wf g),Nat.zero_mul,yax]
  exact aV _
 rintro ⟨i,g⟩ ⟨hi,hI⟩
 simp only at hi hI
 have hlen:=H.len g
 have go:∀ j tl,(hp g++tl)[L+j]?=tl[j]?:=fun j tl=>by
  rw [yaN (by omega),hlen];congr 1;omega
 have a0:=H.ha g []
 have c0:=H.hc g []
 rw [yar] at a0 c0
 unfold c111l0 Zb
 have hbl:=H.hb
 have hml:=H.hm
 rcases yav i (nb t.length b) with hi1|hi1
 ·have hlt:=(vH hbl.1).2 hi1
  have hd:decide (((i*b:Nat):Int)<(t.length:Int))=true:=decide_eq_true (by omega)
  simp -implicitDefEqProofs only [rX,↓rY,rZ,↓rW,zD,↓reduceIte,Nat.reduceEqDiff,reduceCtorEq,cC,yac,aU,Ep,Qc,Jl,Pz,hd,hlen,a0,c0]
  have e1:(min (t.length:Int) (((i*b:Nat):Int)+(b:Int))).toNat=min t.length (i*b+b):=by omega
  have e2:(sb t).extract (i*b) (min (t.length:Int) (((i*b:Nat):Int)+(b:Int))).toNat=sb (bk t b i):=by
   rw [e1,eD,Pk]
  rw [e2]
  refine ⟨by simp only [lo,Fx.hi];omega,by omega,?_⟩
  refine ⟨rfl,?_⟩
  refine hY i g hi1 hI _ _ _ ⟨rfl,rfl,rfl,rfl⟩ ?_
  intro e' g' tl he' hI'
  have c1:=H.hc g' tl
  have f1:=he'.e0;have f2:=he'.e1;have f3:=he'.e2;have f4:=he'.e4
  simp -implicitDefEqProofs only [rX,↓rY,rZ,↓reduceIte,Nat.reduceEqDiff,reduceCtorEq,leE,aB,wfE,wfV,rN,f1,f2,f3,f4,c1]
  refine ⟨by simp only [lo,Fx.hi];omega,(i+1,g'),⟨⟨by show i+1≤_;omega,hI'⟩,by show nb t.length b-(i+1)<nb t.length b-i;omega⟩,?_⟩
  have e5:((i*b:Nat):Int)+(b:Int)=(((i+1)*b:Nat):Int):=by rw [ybi];omega
  obtain ⟨tk,ek,lk⟩:=H.lk g'
  have a1:=H.ha g' []
  have c2:=H.hc g' []
  rw [yar] at a1 c2
  rw [e5]
  simp -implicitDefEqProofs only [rX,a1,c2,eq_true (Aq (hp g') tl),eq_true (H.kp g'),eq_true (H.wf g'),lk]
 ·have hlt:¬i*b<t.length:=fun h=>by have:=(vH hbl.1).1 h;omega
  have hd:decide (((i*b:Nat):Int)<(t.length:Int))=false:=decide_eq_false (by omega)
  have hie:i=nb t.length b:=by omega
  subst hie
  have:=hK g hI
  simp -implicitDefEqProofs only [rX,↓rY,↓reduceIte,Nat.reduceEqDiff,reduceCtorEq,aU,hd,a0]
  exact this
end
theorem We (t:Bs) (b:Nat):Ok 60 [sv t,.i b] (IsA (.clo 111 [.ptr 0 0 0,.ptr 1 0 0]) [.var [sv t],.var [.i b]]):=by
 refine bO lw60 (by simp) ?_
 unfold c60
 simp -implicitDefEqProofs only [rX,↓rY,aA,cells?,↓reduceIte,Nat.reduceEqDiff,Nat.reduceAdd,reduceCtorEq,aD,aT,aY,leH,leB,leV,dH,aC,aB,wfB,wfV,wfL,Nat.reduceLeDiff,cxN,aH,bP]
abbrev hpL (t:Bs) (b:Nat) (i:Nat):List Blk:=[.var [.sl 4 0 i],.var [sv t],.var [.i b],.rcd .ready [(10,.clo 111 [.ptr 1 0 0,.ptr 2 0 0]),(5,.ptr 0 0 0),(0,sv t),(1,.i b)],.arr 16 (((lvs t b).take i).map us)]
theorem itL (t:Bs) (b:Nat) (hb:1≤b∧b≤1000000000) (ht:t.length≤1000000000):ItB (hpL t b) 5 t b 3 1 2 [3]:=by
 refine ⟨hb,ht,fun g=>rfl,fun g tl=>rfl,fun g tl=>rfl,fun g=>⟨trivial,trivial⟩,fun g=>?_,fun g=>⟨_,_,rfl⟩⟩
 simp -implicitDefEqProofs only [rX,aB,wfE,wfB,wfV,wfL]
theorem Wg (t:Bs) (b:Nat) (hb:1≤b∧b≤1000000000) (ht:t.length≤1000000000):Ok 33 [sv t,.i b] (Is (.ro 16 ((lvs t b).map us))):=by
 refine iT (R:=fun q hs=>wk (.ro 16 ((lvs t b).map us)) (gvV (fun _=>true) hs q)) ?_ fun _ _ h=>h
 refine bO lw33 (by simp) ?_
 unfold c33
 simp -implicitDefEqProofs only [rX,↓rY,aA,cells?,↓reduceIte,Nat.reduceEqDiff,reduceCtorEq,aD,cxN,aH]
 refine dV [sv t,.i b] (.clo 111 [.ptr 0 0 0,.ptr 1 0 0]) (.clo 111 [.ptr 1 0 0,.ptr 2 0 0]) [.var [sv t],.var [.i b]] [.var [sv t],.var [.i b]] (We t b) ⟨⟨trivial,trivial,trivial⟩,rfl,rfl,trivial⟩ (by simp [ren,cH]) (by simp [bV,cH,ren]) trivial ?_
 simp -implicitDefEqProofs only [rX]
 refine uY 3 rfl rfl trivial ?_
 refine rM (as':=[.itr 3,.ptr 1 0 0,.ptr 2 0 0]) (h':=hpL t b 0) rfl ⟨_,.virt 1 16 (by decide) (.nilB 0 [.nil] [.sl 4 0 0] rfl ⟨rfl,fun i a b h1 h2=>?_⟩ (.refl _)),?_⟩ (Nx (Inv:=fun i g=>g=i) (itL t b hb ht) ?_ ?_ _ rfl)
 ·match i with
  | 0=>simp at h1 h2;subst h1 h2;exact .inr ⟨rfl,_,rfl⟩
  | i+1=>simp at h1
 ·simp -implicitDefEqProofs only [rX,↓reduceIte,Nat.reduceEqDiff,Nat.reduceAdd,reduceCtorEq,leE,leH,leB,leV,dH,aC,aB,wfE,wfB,wfV,wfL,aH,yaD,or_true]
 ·rintro i g hi rfl e bb Z he hZ
  refine By 5 rfl rfl rfl ?_
  unfold c33a0
  simp -implicitDefEqProofs only [rX,rZ,↓rW,↓reduceIte,Nat.reduceAdd,gW]
  unfold c33r0
  simp -implicitDefEqProofs only [rX,↓rY,rdK,↓reduceIte,Nat.reduceEqDiff,Nat.reduceAdd]
  have hbl:(bk t b g).length≤1000000000:=by rw [Bq];omega
  refine aE (Wf (bk t b g) (by omega)) ⟨⟨trivial,trivial⟩,rfl,trivial⟩ (by simp [ren,a6]) ⟨trivial,trivial,trivial⟩ ?_
  obtain ⟨u1,u2,u3⟩:=fP (o8 (t:=bk t b g))
  have hl:(lvs t b).length=nb t.length b:=t7
  have hlg:(yah g (lvs t b)).length=g:=by rw [yag];omega
  simp -implicitDefEqProofs only [rX,↓rY,rZ,↓rW,cells?,splice,↓reduceIte,Nat.reduceEqDiff,reduceCtorEq,aD,bY,aP,aZ,kill,bM,St.kill,isC,Nat.reduceLT,u1,Qp,hlg]
  have hlt:=(vH hb.1).2 hi
  have h1:g≤g*b:=ybj _ hb.1
  refine ⟨by omega,?_⟩
  have h2:yah g (yaO us (yah g (lvs t b)))++[us (lf (bk t b g))]=((lvs t b).take (g+1)).map us:=by
   rw [yaa (by simp;omega),yap,yai (by omega),yaq]
   congr 1
   simp [lvs,Pj]
  rw [h2]
  refine hZ (aP [4] e) (g+1) [Blk.dead,Blk.arr 16 [us (lf (bk t b g))],Blk.dead] ?_ rfl
  refine ⟨?_,?_,?_,?_⟩<;>rw [aQ]
  ·rw [he.e0];simp [kill]
  ·rw [he.e1];simp [kill]
  ·rw [he.e2];simp [kill]
  ·rw [he.e4];rfl
 ·rintro g rfl
  have hl:(lvs t b).length=nb t.length b:=t7
  simp -implicitDefEqProofs only [rX,↓rY,rZ,↓rW,↓reduceIte,Nat.reduceEqDiff,Nat.reduceAdd,aT,aY,aC,aB,wfE,wfB,wfV,wfL,eE]
  refine ⟨[.dead,.dead,.dead,.dead,.arr 16 ((lvs t b).map us)],⟨?_,yaf _,trivial,trivial⟩,?_⟩
  ·rw [yaa (by omega)]
   exact ⟨trivial,trivial,trivial,trivial,aN _,trivial⟩
  ·rw [←hl]
   simp [gvV,gvB,wk,wkR,blk]
   exact yaa (by simp)
end Go.Fx.H
namespace Go.Fx.H
open Go Go.Fx Go.Proofs Go.Fx.R
set_option maxRecDepth 20000
def mkE (t:Bs) (b:Int):Int:=if b<1∨4096<b then 1 else if 65536<(t.length:Int)∨4096<oH t.length b then 2 else 0
def mkM (t:Bs) (b:Int):Man:=if mkE t b=0 then ⟨t.length,b,root (lvs t b.toNat)⟩ else ⟨0,0,yaX 16 0⟩
def Bw:Man:=⟨0,0,yaX 16 0⟩
theorem zM:[V.v (Value.int IntKind.i64 0),V.v (Value.int IntKind.i64 0),V.v (Value.int IntKind.u8 0),V.v (Value.int IntKind.u8 0),V.v (Value.int IntKind.u8 0),V.v (Value.int IntKind.u8 0),V.v (Value.int IntKind.u8 0),V.v (Value.int IntKind.u8 0),V.v (Value.int IntKind.u8 0),V.v (Value.int IntKind.u8 0),V.v (Value.int IntKind.u8 0),V.v (Value.int IntKind.u8 0),V.v (Value.int IntKind.u8 0),V.v (Value.int IntKind.u8 0),V.v (Value.int IntKind.u8 0),V.v (Value.int IntKind.u8 0),V.v (Value.int IntKind.u8 0),V.v (Value.int IntKind.u8 0)]=Bw.enc:=by unfold Man.enc us;rfl
theorem oO {m:Man} (h:m.rt.length=16):m.enc.length=18∧m.enc.take 18=m.enc∧m.enc.drop 18=[]:=by
 have hl:m.enc.length=18:=by simp [Man.enc,cJ,h]
 exact ⟨hl,yaa (by omega),yak (by omega)⟩
theorem Ij {m:Man}:m.enc.all isC=true:=by simp [Man.enc,f7,isC,isD]
theorem sH {m:Man} {q:List Blk}:wfL q m.enc:=by simp [Man.enc,wfL,wfV,b6]
theorem Zj (t:Bs) (b:Int) (ht:t.length≤1000000000):Ok 27 [sv t,.i b] (Is (.tup [.agg (mkM t b).enc,.i (mkE t b)])):=by
 refine bO lw27 (by simp) ?_
 unfold c27
 obtain ⟨q1,q2,q3⟩:=oO (m:=Bw) rfl
 simp -implicitDefEqProofs only [rX,↓rY,aA,cells?,splice,↓reduceIte,Nat.reduceEqDiff,reduceCtorEq,aD,bG,aT,aY,wfV,wfL,cxN,aU,aH,zM,q1,q2,q3,Ij,sH]
 simp only [br,decide_eq_true_eq,decide_eq_false_iff_not]
 have er:∀ e:Int,mkE t b=e→e≠0→mkM t b=Bw:=fun e h1 h2=>by unfold mkM;rw [if_neg (by rw [h1];exact h2)];rfl
 refine ⟨fun h1=>?_,fun h1=>⟨fun h2=>?_,fun h2=>⟨fun h3=>?_,fun h3=>?_⟩⟩⟩
 ·have h:mkE t b=1:=by unfold mkE;rw [if_pos (.inl h1)]
  rw [er 1 h (by decide),h]
 ·have h:mkE t b=1:=by unfold mkE;rw [if_pos (.inr h2)]
  rw [er 1 h (by decide),h]
 ·have h:mkE t b=2:=by unfold mkE;rw [if_neg (by omega),if_pos (.inl h3)]
  rw [er 2 h (by decide),h]
 ·refine aE (Zd t.length b ⟨by omega,by omega⟩ ⟨by omega,by omega⟩) ⟨⟨trivial,trivial,trivial⟩,rfl,rfl,trivial⟩ rfl trivial ?_
  simp -implicitDefEqProofs only [rX,↓rY,aA,cells?,splice,↓reduceIte,Nat.reduceEqDiff,reduceCtorEq,bG,aT,aY,wfV,wfL,aU,zM,q1,q2,q3,Ij,sH]
  simp only [br,decide_eq_true_eq,decide_eq_false_iff_not]
  refine ⟨fun h4=>?_,fun h4=>?_⟩
  ·have h:mkE t b=2:=by unfold mkE;rw [if_neg (by omega),if_pos (.inr h4)]
   rw [er 2 h (by decide),h]
  ·have h:mkE t b=0:=by unfold mkE;rw [if_neg (by omega),if_neg (by omega)]
   obtain ⟨n,rfl⟩:∃ n:Nat,b=n:=⟨b.toNat,by omega⟩
   refine aE (Wg t n ⟨by omega,by omega⟩ ht) ⟨⟨trivial,trivial,trivial⟩,rfl,rfl,trivial⟩ (by simp [ren]) trivial ?_
   simp -implicitDefEqProofs only [rX,↓reduceIte]
   have hn:nb t.length n≤t.length:=Ni (by omega)
   refine aE (Mx _ (lvs t n) rfl Ik (by rw [t7];omega)) ⟨⟨trivial,trivial⟩,⟨rfl,rfl⟩,trivial⟩ (by simp [ren,a6]) trivial ?_
   have hr:=gT _ (lvs t n) rfl Ik
   obtain ⟨u1,u2,u3⟩:=fP hr
   have hm:mkM t n=⟨t.length,n,root (lvs t n)⟩:=by unfold mkM;rw [if_pos h,yac]
   simp -implicitDefEqProofs only [rX,↓rY,aA,cells?,splice,↓reduceIte,Nat.reduceEqDiff,Nat.reduceAdd,bG,aT,aY,wfV,wfL,isC,Nat.reduceLeDiff,zM,q1,u1]
   rw [hm,h]
   have d1:(yaj 1 Bw.enc).length=17:=by rw [yat,q1]
   have d2:(yaj 1 (yaj 1 Bw.enc)).length=16:=by rw [yat,d1]
   have d18:∀ x y:V,yaj 18 (x::y::yaj 1 (yaj 1 Bw.enc))=[]:=fun x y=>yak (by simp only [yaQ,d2];omega)
   have tk:=Db (m:=⟨t.length,n,root (lvs t n)⟩) hr
   simp only [d1,d2,d18,ybg,yar,Nat.add_zero,q3,f7,Bool.and_self,tk,sH,true_and,Nat.reduceAdd,yad,Nat.reduceLeDiff]
end Go.Fx.H
namespace Go.Fx.H
open Go Go.Fx Go.Proofs Go.Fx.R
set_option maxRecDepth 20000
abbrev rD (l:List Bs):V:=.ro 16 (l.map us)
theorem Xd:∀ (n i:Nat),dep i n≤n:=by
 intro n
 induction n using yaZ with
 | ind n ih =>
  intro i
  by_cases h2:2≤n
  ·have hs:=fR h2
   by_cases hi:i<spl n
   ·rw [Gf h2 hi];have:=ih (spl n) (by omega) i;omega
   ·rw [Gg h2 hi];have:=ih (n-spl n) (by omega) (i-spl n);omega
  ·rw [Bf h2];omega
theorem Iu {l:List Bs} {i:Nat} (h:i<l.length):(fB l i).length≤l.length:=by
 rw [(Ir _ l i rfl h).1];exact Xd _ _
theorem eC {l:Bs} {h:List Blk} {g:Nat→Option Nat}:aG h g (us l)∧wkL (us l) (aS h g (us l)):=dG _ nU
def inE (l:List Bs) (i:Int):Int:=if i<0∨(l.length:Int)≤i then 1 else 0
def inL (l:List Bs) (i:Int):List Bs:=if i<0∨(l.length:Int)≤i then [] else fB l i.toNat
theorem Oq {a b:UInt8} {K:Bool→Prop}:eqC (.int .u8) (some (u8 a)) (some (u8 b)) K=K (a==b):=by
 have e:eqK (.int .u8 a.toNat) (.int .u8 b.toNat)=(a==b):=by
  show ((a.toNat:Int)==(b.toNat:Int))=(a==b)
  by_cases h:a=b
  ·subst h;simp
  ·have h2:a.toNat≠b.toNat:=fun h3=>h (UInt8.toNat_inj.1 h3)
   have h3:(a==b)=false:=by simpa using h
   rw [h3];simp;omega
 show ((_∧_)∧K (eqK _ _))=_
 rw [e]
 exact propext ⟨fun h=>h.2,fun h=>⟨⟨rfl,rfl⟩,h⟩⟩
theorem v8 {l1 l2:Bs} {xs ys:List V} (hx:∀ i (h:i<l1.length),xs[i]?=some (u8 l1[i])) (hy:∀ i (h:i<l2.length),ys[i]?=some (u8 l2[i])):∀ {m a:Nat} {K:Bool→Prop},a+m≤l1.length→a+m≤l2.length →
  fH xs ys ((yba a m).map fun i=>(i,.int .u8)) K=K ((l1.drop a).take m==(l2.drop a).take m)
 | 0,a,K,_,_=>by simp [fH]
 | m+1,a,K,h1,h2=>by
  rw [List.range'_succ,List.map_cons,fH,hx a (by omega),hy a (by omega),Oq,v8 hx hy (by omega) (by omega),yay (show a<l1.length by omega),yay (show a<l2.length by omega),ybs,ybs]
  rfl
theorem Tj {l:Bs} {i:Nat} (h:i<l.length):(us l)[i]?=some (u8 l[i]):=by
 rw [Ll h];unfold bn;rw [ybl,yai h];rfl
theorem mL {a b:Bs} (ha:a.length=16) (hb:b.length=16) {K:Bool→Prop}:(c6 (lK (.agg (us a))) fun xs=>c6 (lK (.agg (us b))) fun ys=>fH xs ys ((yba 0 16).map fun i=>(i,.int .u8)) K)=K (a==b):=by
 show fH (us a) (us b) _ K=_
 rw [v8 (fun i h=>Tj h) (fun i h=>Tj h) (by omega) (by omega)]
 simp only [List.drop_zero]
 rw [yaa (by omega),yaa (by omega)]
end Go.Fx.H
namespace Go.Fx.H
open Go Go.Fx Go.Proofs Go.Fx.R
set_option maxRecDepth 20000
theorem Fk {P:Program} {f:FuncId} {args args':List V} {h0 h0':List Blk} {mv:List Nat} {R:V→List Blk→Prop} (fx:List Nat) (hlen:args'.length=args.length) (hl:h0'.length=h0.length) (hkp:aC fx h0) (hfx:∀ k,k<h0.length→k∉mv→k∈fx)
  (hg:leG fx ⟨aH 0 args,h0,0⟩ ⟨aH 0 args',h0',0⟩) (h:OkN P f args' h0' mv R):OkN P f args h0 mv R:=by
 refine ⟨h.1,?_⟩
 intro ρ X w vals h1 h2
 have hvl:=cB h2
 have hgd:Good ρ X w fx vals.length ⟨aH 0 args,h0,0⟩ { tmps:=vals.toArray,defers:=[] } w :=
  ⟨ρ,⟨⟨Fr.refl _ _,fun _ _=>rfl⟩,hkp⟩,⟨h1,by have:=gE h2 0;simpa using this⟩,by simp,Marks.nil⟩
 obtain ⟨ρ2,⟨⟨p1,p2⟩,p3⟩,⟨p4,p5⟩,_⟩:=hgd.leG hg
 have hv':bJ ρ2 X w args' vals:=by
  refine Ah (by omega) fun i h1 h2=>?_
  have:=p5 i
  have hget:=jU args' 0 i
  rw [ybh,dif_pos h1] at hget
  rw [hget] at this
  simpa [h2] using this
 refine Calls.mono (h.2 ρ2 X w vals p4 hv') ?_
 rintro e w' ⟨val,r,h',ρ',q1,⟨q2,q2l⟩,q3,q4,q5,q6⟩
 exact ⟨val,r,h',ρ',q1,⟨q2,by omega⟩,p1.trans q3,q4,q5,fun k hk hm=>(q6 k (by omega) hm).trans (p2 k (hfx k hk hm))⟩
abbrev hI (L:List Bs):List Blk:=[.var [.clo 122 [.ptr 0 0 0,.ptr 1 0 0]],.var [.sl 2 0 L.length],.arr 16 (L.map us)]
theorem aaN:∀ (n:Nat) (l:List Bs) (i:Nat) (L:List Bs),l.length=n→i<n→D16 l→n≤1000000000→L.length+n≤1000000000→OkN Tryz.prog 122 [bD l,.i i,.ptr 0 0 0,.ptr 1 0 0] (hI L) [2] (IsA (.tup []) (hI (L++fB l i))):=by
 intro n
 induction n using yaZ with
 | ind n ih =>
  intro l i L hn hi hD hle hL
  refine f9 pol [0,1] lw122 (by simp) ⟨trivial,trivial,trivial⟩ (fun k hk hm=>by simp at hk hm ⊢;omega) ?_
  unfold c122 hI
  simp -implicitDefEqProofs only [rX,↓rY,aA,↓reduceIte,Nat.reduceAdd,reduceCtorEq,cxN,aH]
  intro hm
  simp only [br,beq_iff_eq,beq_eq_false_iff_ne]
  refine ⟨fun h1=>?_,fun h1 hm2=>?_⟩
  ·rw [Dl (by omega),yar]
   simp -implicitDefEqProofs only [rX,Nat.reduceAdd,aT,aY,leH,leB,leV,dH,aC,aB,wfB,wfV,wfL,bP]
  ·have h2:2≤l.length:=by omega
   have hs:=fR h2
   refine aE (Nb l.length h2 (by omega)) ⟨⟨trivial,trivial⟩,rfl,trivial⟩ rfl ⟨trivial,trivial,trivial⟩ ?_
   simp -implicitDefEqProofs only [rX,↓rY,↓reduceIte,Nat.reduceEqDiff,Nat.reduceAdd,reduceCtorEq,cC,yac]
   simp only [br,decide_eq_true_eq,decide_eq_false_iff_not]
   have hlt:(l.take (spl l.length)).length=spl l.length:=by simp;omega
   have hld:(l.drop (spl l.length)).length=l.length-spl l.length:=by simp
   have r1:=gT _ (l.take (spl l.length)) rfl (hD.take _)
   have r2:=gT _ (l.drop (spl l.length)) rfl (hD.drop _)
   have e2:yah (l.length-spl l.length) (yaj (spl l.length) (yaO us l))=(l.drop (spl l.length)).map us:=by
    rw [yaa (by simp),List.map_drop]
   refine ⟨fun hi2=>Vh hs.1.2 ?_,fun hi2=>?_⟩
   ·have hle2:=Iu (l:=l.take (spl l.length)) (i:=i) (by omega)
    refine d7 [0,1,2] [2] [2] _ (.tup []) (.tup []) (hI L) _ (hI (L++fB (l.take (spl l.length)) i)) _ (ih _ (by omega) (l.take (spl l.length)) i L hlt (by omega) (hD.take _) (by omega) (by omega)) (by simp) (by simp) rfl (by simp [aG,bA,aS,cK,wkL,wk,wkR,wkB,pos]) rfl rfl rfl ⟨trivial,trivial,trivial⟩ ?_
    simp -implicitDefEqProofs only [rX,↓rY,rdK,↓reduceIte,Nat.reduceEqDiff,Nat.reduceAdd,reduceCtorEq,cC,aP,kill,bM,St.kill,yac,hI,aP,kill]
    rw [e2]
    refine ⟨by omega,aE (Mx _ (l.drop (spl l.length)) hld (hD.drop _) (by omega)) ⟨⟨trivial,trivial⟩,⟨rfl,rfl⟩,trivial⟩ (by simp [ren,a6]) ⟨trivial,trivial,trivial⟩ ?_⟩
    obtain ⟨u1,u2,u3⟩:=fP r2
    simp -implicitDefEqProofs only [rX,↓rY,cells?,splice,↓reduceIte,Nat.reduceEqDiff,Nat.reduceAdd,reduceCtorEq,aD,bY,aT,aY,leH,leB,leV,dH,aC,aB,wfB,wfV,wfL,aP,aZ,kill,bM,St.kill,isC,Nat.reduceLT,u1,Qp,bP]
    rw [It h2 (by omega)]
    have tk:yah (L.length+(fB (l.take (spl l.length)) i).length) (yaO us (L++fB (l.take (spl l.length)) i))=yaO us (L++fB (l.take (spl l.length)) i):=yaa (by simp)
    rw [tk]
    simp -implicitDefEqProofs only [rX,yaq,yal]
    exact ⟨by omega,by rw [Nat.add_assoc]⟩
   ·have e3:(i:Int)-(spl l.length:Int)=((i-spl l.length:Nat):Int):=by omega
    rw [e2,e3]
    have hle2:=Iu (l:=l.drop (spl l.length)) (i:=i-spl l.length) (by omega)
    refine ⟨by omega,by simp only [lo,Fx.hi];omega,?_⟩
    refine d7 [0,1,2] [2] [2] [bD (l.drop (spl l.length)),.i ((i-spl l.length:Nat):Int),.ptr 0 0 0,.ptr 1 0 0] (.tup []) (.tup []) (hI L) _ (hI (L++fB (l.drop (spl l.length)) (i-spl l.length))) _ (ih _ (by omega) (l.drop (spl l.length)) (i-spl l.length) L hld (by omega) (hD.drop _) (by omega) (by omega)) (by simp) (by simp) rfl (by simp [aG,bA,aS,cK,wkL,wk,wkR,wkB,pos]) rfl rfl rfl ⟨trivial,trivial,trivial⟩ ?_
    simp -implicitDefEqProofs only [rX,↓rY,rdK,↓reduceIte,Nat.reduceEqDiff,Nat.reduceAdd,reduceCtorEq,aP,kill,bM,St.kill,hI,aP,kill]
    refine Vh hs.1.2 ?_
    refine aE (Mx _ (l.take (spl l.length)) hlt (hD.take _) (by omega)) ⟨⟨trivial,trivial⟩,⟨rfl,rfl⟩,trivial⟩ (by simp [ren,a6]) ⟨trivial,trivial,trivial⟩ ?_
    obtain ⟨u1,u2,u3⟩:=fP r1
    simp -implicitDefEqProofs only [rX,↓rY,cells?,splice,↓reduceIte,Nat.reduceEqDiff,Nat.reduceAdd,reduceCtorEq,aD,bY,aT,aY,leH,leB,leV,dH,aC,aB,wfB,wfV,wfL,aP,aZ,kill,bM,St.kill,isC,Nat.reduceLT,u1,Qp,bP]
    rw [Iv h2 (by omega)]
    have tk:yah (L.length+(fB (l.drop (spl l.length)) (i-spl l.length)).length) (yaO us (L++fB (l.drop (spl l.length)) (i-spl l.length)))=yaO us (L++fB (l.drop (spl l.length)) (i-spl l.length)):=yaa (by simp)
    rw [tk]
    simp -implicitDefEqProofs only [rX,yaq,yal]
    exact ⟨by omega,by rw [Nat.add_assoc]⟩
theorem Wh (l:List Bs) (i:Nat) (hi:i<l.length) (hD:D16 l) (hle:l.length≤1000000000):OkN Tryz.prog 122 [bD l,.i i,.ptr 0 0 0,.ptr 1 0 0] [.var [.clo 122 [.ptr 0 0 0,.ptr 1 0 0]],.var [.nil],.arr 16 []] [2] (IsA (.tup []) (hI (fB l i))):=by
 have h:=aaN _ l i [] rfl hi hD hle (by simp;omega)
 rw [yaF] at h
 refine Fk (args':=[bD l,.i i,.ptr 0 0 0,.ptr 1 0 0]) (h0':=hI []) [0,1] rfl rfl ⟨trivial,trivial,trivial⟩ (fun k hk hm=>by simp at hk hm ⊢;omega) ⟨_,.nilB 1 [.nil] [.sl 2 0 0] rfl ⟨rfl,fun i a b h1 h2=>?_⟩ (.refl _),?_⟩ h
 ·match i with
  | 0=>simp at h1 h2;subst h1 h2;exact .inr ⟨rfl,_,rfl⟩
  | i+1=>simp at h1
 ·simp -implicitDefEqProofs only [rX,↓reduceIte,Nat.reduceEqDiff,Nat.reduceAdd,reduceCtorEq,leE,leH,leB,leV,dH,aC,aB,wfE,wfB,wfV,wfL,aH,hI]
theorem aeC (l:List Bs) (i:Int) (hD:D16 l) (hl:l.length≤1000000000):Ok 78 [bD l,.i i] (Is (.tup [rD (inL l i),.i (inE l i)])):=by
 refine iT (R:=fun q hs=>wk (.tup [rD (inL l i),.i (inE l i)]) (gvV (fun _=>true) hs q)) ?_ fun _ _ h=>h
 refine Hw pol [] lw78 (by simp) trivial (by simp) (s0:=⟨aH 0 [bD l,.i i],[.arr 16 []],0⟩) ⟨_,.virt 1 16 (by decide) (.refl _),?_⟩ ?_
 ·simp -implicitDefEqProofs only [rX,↓reduceIte,reduceCtorEq,leE,leH,leB,aC,wfE,wfB,wfV,aH,yaD]
 unfold c78
 simp -implicitDefEqProofs only [rX,↓rY,aA,cells?,splice,↓reduceIte,Nat.reduceEqDiff,Nat.reduceAdd,reduceCtorEq,aD,aT,aY,aC,wfV,wfL,isC,cxN,aH,eE]
 simp only [br,decide_eq_true_eq,decide_eq_false_iff_not]
 refine ⟨fun h1=>⟨[],⟨trivial,yaf _,trivial⟩,?_⟩,fun h1 hm=>⟨fun h2=>⟨[],⟨trivial,yaf _,trivial⟩,?_⟩,fun h2=>?_⟩⟩
 ·rw [inL,inE,if_pos (.inl h1),if_pos (.inl h1)];simp [gvV,gvL,wk,wkL,wkR]
 ·rw [inL,inE,if_pos (.inr h2),if_pos (.inr h2)];simp [gvV,gvL,wk,wkL,wkR]
 ·obtain ⟨n,rfl⟩:∃ n:Nat,i=n:=⟨i.toNat,by omega⟩
  refine d7 [2,1,0] [2] [0] _ (.tup []) (.tup []) [.var [.clo 122 [.ptr 0 0 0,.ptr 1 0 0]],.var [.nil],.arr 16 []] _ [.arr 16 ((fB l n).map us),.var [.sl 0 0 (fB l n).length],.var [.clo 122 [.ptr 2 0 0,.ptr 1 0 0]]] _ (Wh l n (by omega) hD hl) (by simp) (by simp) rfl (by simp [aG,bA,aS,cK,wkL,wk,wkR,wkB,pos]) rfl rfl rfl trivial ?_
  simp -implicitDefEqProofs only [rX,↓rY,aA,↓reduceIte,Nat.reduceEqDiff,Nat.reduceAdd,reduceCtorEq,aT,aY,aC,aB,wfV,wfL,aP,kill,bM,St.kill,aP,kill,eE]
  refine ⟨[.arr 16 ((fB l n).map us)],⟨⟨aN _,trivial⟩,yaf _,trivial,trivial⟩,?_⟩
  rw [inL,inE,if_neg (by omega),if_neg (by omega),yac]
  simp [gvV,gvL,gvB,wk,wkL,wkR,blk]
  try (rw [yaa (by simp)])
def c81a:LCode :=
 (.seq
 (.reg 0 [
 ⟨(some 13),.mov (.tmp 2),none⟩,
 ⟨(some 14),.bin .lss false (.tmp 13) (.const (.int .i64 1)),none⟩,
 ⟨(some 15),.mov (.tmp 14),none⟩,
 ⟨(some 16),.mov (.tmp 2),(some (15,false))⟩,
 ⟨(some 17),.bin .gtr false (.tmp 16) (.const (.int .i64 1099511627776)),(some (15,false))⟩,
 ⟨(some 18),.pick (.tmp 15) (.const (.bool true)) (.tmp 17),none⟩,
 ⟨(some 19),.mov (.tmp 18),none⟩,
 ⟨(some 20),.mov (.tmp 1),(some (19,false))⟩,
 ⟨(some 21),.bin .lss false (.tmp 20) (.const (.int .i64 0)),(some (19,false))⟩,
 ⟨(some 22),.pick (.tmp 19) (.const (.bool true)) (.tmp 21),none⟩,
 ⟨(some 23),.mov (.tmp 22),none⟩,
 ⟨(some 24),.mov (.tmp 1),(some (23,false))⟩,
 ⟨(some 25),.mov (.tmp 2),(some (23,false))⟩,
 ⟨(some 26),.bin .geq false (.tmp 24) (.tmp 25),(some (23,false))⟩,
 ⟨(some 27),.pick (.tmp 23) (.const (.bool true)) (.tmp 26),none⟩])
 (.cond (.tmp 27)
 (.seq
 (.reg 0 [
 ⟨none,.store 1 (.tmp 10) (.const (.bool false)),none⟩])
 .ret)
 .skip))
def c81b:LCode :=
 (.seq
 (.reg 1 [
 ⟨(some 12),.alloc 0 (.nilFunc),none⟩])
 (.seq
 (.reg 0 [
 ⟨(some 32),.fn 125 [(.tmp 5),(.tmp 11),(.tmp 12)],none⟩,
 ⟨none,.store 1 (.tmp 12) (.tmp 32),none⟩])
 (.seq
 (.tree 0
 (.take 0 [3,5,6] ⟨(some 33),.load none (.tmp 12),none⟩
 (.take 1 [3,5,6] ⟨(some 34),.mov (.tmp 1),none⟩
 (.take 2 [3,5,6] ⟨(some 35),.mov (.tmp 2),none⟩
 (.alt 3 ⟨(some 36),.callv (.tmp 33) [(.tmp 34),(.tmp 35)],none⟩ false
 (.take 4 [5,6] ⟨(some 37),.load (some 16) (.tmp 9),none⟩
 (.take 5 [6] ⟨(some 38),.prim (.aeq false ((yba 0 16).map fun i=>(i,(.int .u8)))) [(.tmp 36),(.tmp 37)],none⟩
 (.alt 6 ⟨none,.store 1 (.tmp 10) (.tmp 38),none⟩ false
 .done
 .none)))
 (.alt 4 ⟨(some 37),.load (some 16) (.tmp 9),none⟩ true
 (.alt 3 ⟨(some 36),.callv (.tmp 33) [(.tmp 34),(.tmp 35)],none⟩ false
 (.take 5 [6] ⟨(some 38),.prim (.aeq false ((yba 0 16).map fun i=>(i,(.int .u8)))) [(.tmp 36),(.tmp 37)],none⟩
 (.alt 6 ⟨none,.store 1 (.tmp 10) (.tmp 38),none⟩ false
 .done
 .none))
 .none)
 .none))))))
 .ret)))
def c81:LDf:=.seq ((.reg 3 [ ⟨(some 5),.box 0 (.tmp 0),none⟩,⟨(some 9),.box 1 (.tmp 4),none⟩,⟨(some 10),.alloc 2 (.bool false),none⟩])) (.seq c81a (.seq ((.reg 2 [ ⟨(some 28),.mov (.tmp 3),none⟩,⟨(some 29),.build [.slice none 0 0,.bool false] [(0,1,(.tmp 28))],none⟩,⟨(some 30),.box 0 (.tmp 29),none⟩,⟨(some 11),.alloc 1 (.pointer none),none⟩,⟨none,.store 1 (.tmp 11) (.tmp 30),none⟩])) (.dfr 0 [⟨(some 31),.load none (.tmp 11),none⟩] 124 [(.tmp 31),(.tmp 10)] c81b)))
def c124:List aX:=[ ⟨(some 4),.mov (.tmp 1),none⟩,⟨(some 5),.mov (.tmp 1),none⟩,⟨(some 6),.nilc (.tmp 5),none⟩,⟨(some 7),.load none (.tmp 6),none⟩,⟨(some 8),.mov (.tmp 7),none⟩,⟨(some 9),.mov (.tmp 0),(some (8,true))⟩,⟨(some 10),.nilc (.tmp 9),(some (8,true))⟩,⟨(some 11),.fld 1 (.tmp 10),(some (8,true))⟩,⟨(some 12),.load none (.tmp 11),(some (8,true))⟩,⟨(some 13),.not (.tmp 12),(some (8,true))⟩,⟨(some 14),.pick (.tmp 8) (.tmp 13) (.const (.bool false)),none⟩,⟨(some 15),.mov (.tmp 14),none⟩,⟨(some 16),.mov (.tmp 0),(some (15,true))⟩,⟨(some 17),.nilc (.tmp 16),(some (15,true))⟩,⟨(some 18),.fld 0 (.tmp 17),(some (15,true))⟩,⟨(some 19),.load none (.tmp 18),(some (15,true))⟩,⟨(some 20),.len (.tmp 19),(some (15,true))⟩,⟨(some 21),.bin .eql false (.tmp 20) (.const (.int .i64 0)),(some (15,true))⟩,⟨(some 22),.pick (.tmp 15) (.tmp 21) (.const (.bool false)),none⟩,⟨(some 23),.nilc (.tmp 4),none⟩,⟨none,.store 1 (.tmp 23) (.tmp 22),none⟩]
theorem lw81:Vv Tryz.prog 81 c81=some (c81,[.cell 10 none],39):=by kernel_rfl
theorem lw124:Vu Tryz.prog 124 c124=some (c124,[],24):=by kernel_rfl
end Go.Fx.H
namespace Go.Fx.H
open Go Go.Fx Go.Proofs Go.Fx.R
set_option maxRecDepth 20000
theorem Vg {h:List Blk} {K:V→Prop} {z:Nat} {sz:Nat} {els:List (List V)} {a u m:Option Int}:rV h z (.ro sz els) a u m K=(sz=z∧cC els.length a u m∧K (roF sz u m els.length ((els.drop (a.getD 0).toNat).take ((u.getD els.length).toNat-(a.getD 0).toNat)))):=rfl
theorem adM {h:List Blk} {l:List Bs} {K:V→Prop} {k:Nat} (hk:k<l.length) (hK:K (rD (l.take k))):rV h 16 (rD l) none (some (k:Int)) (some (k:Int)) K:=by
 rw [Vg]
 refine ⟨rfl,?_,?_⟩
 ·simp only [cC,ybm,Option.getD_none,yaW];omega
 ·have hne:¬((k:Int)=((l.map us).length:Int)):=by rw [yaW];omega
  simp only [roF,hne,and_false,if_false,ybm,Option.getD_none]
  rw [show yaC 0=0 from rfl,List.drop_zero,yac,ybn,←List.map_take]
  exact hK
theorem adD:[V.v (Value.int IntKind.u8 0),V.v (Value.int IntKind.u8 0),V.v (Value.int IntKind.u8 0),V.v (Value.int IntKind.u8 0),V.v (Value.int IntKind.u8 0),V.v (Value.int IntKind.u8 0),V.v (Value.int IntKind.u8 0),V.v (Value.int IntKind.u8 0),V.v (Value.int IntKind.u8 0),V.v (Value.int IntKind.u8 0),V.v (Value.int IntKind.u8 0),V.v (Value.int IntKind.u8 0),V.v (Value.int IntKind.u8 0),V.v (Value.int IntKind.u8 0),V.v (Value.int IntKind.u8 0),V.v (Value.int IntKind.u8 0)]=us z16:=w16
theorem Px:lV=z16:=by unfold lV z16;rfl
theorem aaK (l:List Bs) (s:Bool) (hD:D16 l) (hl:l.length≤1000000000):OkN Tryz.prog 126 [.ptr 0 0 0] [.var [rD l,.b s]] [] (IsA (.agg (us (l.getLastD lV))) [.var [rD l.dropLast,.b (s||l.isEmpty)]]):=by
 refine f9 pol [0] lw126 (by simp) ⟨trivial,trivial⟩ (fun k hk hm=>by simp at hk ⊢;omega) ?_
 unfold c126
 obtain ⟨z1,z2,z3⟩:=fP bQ
 simp -implicitDefEqProofs only [rX,↓rY,aA,cells?,splice,↓reduceIte,Nat.reduceEqDiff,Nat.reduceAdd,reduceCtorEq,aD,bG,aT,aY,leH,leB,leV,dH,aC,aB,wfB,wfV,wfL,isC,Nat.reduceLeDiff,yae,cxN,aH,w16,adD,z1,z2,z3,f7,b6,bP]
 intro hm
 simp only [br,beq_iff_eq,beq_eq_false_iff_ne]
 refine ⟨fun h1=>?_,fun h1=>?_⟩
 ·have:l=[]:=yaG (by omega)
  subst this
  exact ⟨⟨rfl,by simp⟩,by rw [←Px];rfl⟩
 ·have hl1:0<l.length:=by omega
  have e1:(l.length:Int)-1=((l.length-1:Nat):Int):=by omega
  have hk:((l.length:Int)-1).toNat<l.length:=by omega
  have hx:l[((l.length:Int)-1).toNat]'hk=l.getLastD lV:=by
   rw [ybt,ybu,yai (by omega)]
   simp only [ybm]
   congr 1
   omega
  have hd:(l.getLastD lV).length=16:=by rw [←hx];exact hD _ (yam hk)
  obtain ⟨u1,u2,u3⟩:=fP hd
  refine ⟨by simp only [lo,Fx.hi];omega,by omega,hk,?_⟩
  simp only [hx,u1,u2,f7,z3,yar]
  rw [e1]
  refine ⟨yad _,trivial,trivial,by simp only [lo,Fx.hi];omega,by simp only [lo,Fx.hi];omega,adM (by omega) ?_⟩
  simp -implicitDefEqProofs only [rX,↓rY,leV,dH,isC,b6]
  rw [ybv]
  have:l.isEmpty=false:=by cases l with|nil=>simp at hl1|cons _ _=>rfl
  simp [this]
theorem aaM (l:List Bs) (s ok:Bool) (hl:l.length≤1000000000):CD0 Tryz.prog 124 [.ptr 0 0 0,.ptr 1 0 0] [.var [rD l,.b s],.var [.b ok]] [] (IsA (.tup []) [.var [rD l,.b s],.var [.b (ok&&!s&&l.isEmpty)]]):=by
 refine Xi [0,1] lw124 (by simp) ⟨trivial,trivial,trivial⟩ (fun k hk hm=>by simp at hk ⊢;omega) ?_
 unfold c124
 simp -implicitDefEqProofs only [rX,↓rY,aA,cells?,splice,↓reduceIte,Nat.reduceEqDiff,Nat.reduceAdd,reduceCtorEq,aT,aY,leH,leB,leV,dH,aC,aB,wfB,wfV,wfL,isC,cxN,aH,bP]
 cases ok<;>cases s<;>simp [br]
 intro _
 cases l<;>simp
 omega
abbrev hC (x:Bs) (l:List Bs) (s:Bool):List Blk:=[.var (us x),.var [.ptr 3 0 0],.var [.clo 125 [.ptr 0 0 0,.ptr 1 0 0,.ptr 2 0 0]],.var [rD l,.b s]]
def oF (l:List Bs) (d:Nat):List Bs:=l.take (l.length-d)
def o0 (l:List Bs) (s:Bool) (d:Nat):Bool:=s||decide (l.length<d)
theorem Mp {l:List Bs} {d:Nat}:oF l.dropLast d=oF l (d+1):=by
 unfold oF
 rw [ybv,List.take_take];congr 1;simp;omega
theorem Mo {l:List Bs} {s:Bool} {d:Nat}:o0 l.dropLast (s||l.isEmpty) d=o0 l s (d+1):=by
 unfold o0
 cases s with
 | true=>simp
 | false =>
  cases l with
  | nil=>simp
  | cons x r=>simp [List.length_dropLast]
theorem D16.dropLast {l:List Bs} (h:D16 l):D16 l.dropLast:=fun d hd=>h d (List.dropLast_subset l hd)
theorem aaX {l:List Bs} (h:D16 l):(l.getLastD lV).length=16:=by
 rw [ybt]
 cases hl:l.getLast? with
 | none=>rfl
 | some x=>exact h x (List.mem_of_getLast? hl)
theorem Gl:∀ (n:Nat) (x:Bs) (i:Nat) (l:List Bs),x.length=16→(cl x i n l).length=16:=by
 intro n x i l hx
 by_cases h2:2≤n
 ·by_cases hi:i<spl n
  ·rw [Pf h2 hi];exact mF
  ·rw [Jd h2 hi];exact mF
 ·rw [Bk h2];exact hx
def c125r:LCode:=sqR (sqR (sqR c125))
theorem c125_eq:c125=.seq (sqL c125) (.seq (sqL (sqR c125)) (.seq (sqL (sqR (sqR c125))) c125r)):=rfl
theorem aaL:∀ (n:Nat) (x:Bs) (i:Nat) (l:List Bs) (s:Bool),1≤n→i<n→x.length=16→D16 l→l.length≤1000000000→n≤1152921504606846976 →
  OkN Tryz.prog 125 [.i i,.i n,.ptr 0 0 0,.ptr 1 0 0,.ptr 2 0 0] (hC x l s) [] (IsA (.agg (us (cl x i n l))) (hC x (oF l (dep i n)) (o0 l s (dep i n)))):=by
 intro n
 induction n using yaZ with
 | ind n ih =>
  intro x i l s h1 hi hx hD hl hn
  refine f9 pol [0,1,2,3] lw125 (by simp) ⟨trivial,trivial,trivial,trivial,trivial⟩ (fun k hk hm=>by simp at hk ⊢;omega) ?_
  obtain ⟨z1,z2,z3⟩:=fP bQ
  obtain ⟨x1,x2,x3⟩:=fP hx
  by_cases h2:2≤n
  ·have hs:=fR h2
   have hd:=aaX hD
   obtain ⟨d1,d2,d3⟩:=fP hd
   have rest:∀ (e:Env) (b:Nat),get e 0=.i i→get e 1=.i n→get e 4=.ptr 2 0 0→get e 7=.ptr 4 0 0→get e 8=.i (spl n)→get e 9=.ptr 5 0 0 →
     aw (cxN Tryz.prog [0,1,2,3]) c125r (eZ [0,1,2,3] 4 [fJ.cell 7 (some 16)] (IsA (.agg (us (cl x i n l))) (hC x (oF l (dep i n)) (o0 l s (dep i n))))) (fun _ _=>False) (eZ [0,1,2,3] 4 [fJ.cell 7 (some 16)] (IsA (.agg (us (cl x i n l))) (hC x (oF l (dep i n)) (o0 l s (dep i n))))) ⟨e,hC x l.dropLast (s||l.isEmpty)++[.var (us z16),.var (us (l.getLastD lV))],b⟩:=by
    intro e b g0 g1 g4 g7 g8 g9
    unfold c125r
    simp -implicitDefEqProofs only [rX,↓rY,c125,sqR,rdK,↓reduceIte,Nat.reduceEqDiff,Nat.reduceAdd,reduceCtorEq,cxN,hC,g0,g1,g4,g8,g9,d1,d2]
    simp only [br,decide_eq_true_eq,decide_eq_false_iff_not]
    refine ⟨fun hi2=>?_,fun hi2=>?_⟩
    ·have hc:=ih (spl n) (by omega) x i l.dropLast (s||l.isEmpty) (by omega) (by omega) hx hD.dropLast (by simp;omega) (by omega)
     rw [Mp,Mo,←Gf h2 (by omega)] at hc
     have hcl:=Gl (spl n) x i l.dropLast hx
     obtain ⟨w1,w2,w3⟩:=fP (mF (a:=cl x i (spl n) l.dropLast) (b:=l.getLastD lV))
     rw [Pf h2 (by omega)]
     refine ⟨?_,?_⟩
     all_goals
      refine eW [0,1,2,3] _ (.agg (us (cl x i (spl n) l.dropLast))) (.agg (us (cl x i (spl n) l.dropLast))) (hC x l.dropLast (s||l.isEmpty)) _ (hC x (oF l (dep i n)) (o0 l s (dep i n))++[.var (us z16),.var (us (l.getLastD lV))]) hc (by simp) (by simp [blk,bV,cH,ren,a6,pos]) (by simp [aG,bA,aS,cK,wkL,wk,wkR,wkB,pos]) (by simp) (by simp [bV,cH,ren,a6,back,bZ]) (by simp [ren,a6]) (by simp [aC,aB,hC]) ?_
      simp -implicitDefEqProofs only [rX,↓rY,rdK,↓reduceIte,Nat.reduceEqDiff,hC,g9,d1,d2]
      refine aE (Na _ _ hcl hd) ⟨⟨eC.1,eC.1,trivial⟩,eC.2,eC.2,trivial⟩ (by simp [ren,a6]) ⟨trivial,trivial,trivial,trivial,trivial⟩ ?_
      simp -implicitDefEqProofs only [rX,↓rY,cells?,splice,↓reduceIte,Nat.reduceEqDiff,Nat.reduceAdd,aT,aY,leH,leB,leV,dH,aC,aB,wfB,wfV,wfL,g7,z3,w1,w2,f7,b6,bP]
     all_goals exact ⟨by omega,Lk⟩
    ·have e1:(i:Int)-(spl n:Int)=((i-spl n:Nat):Int):=by omega
     have e2:(n:Int)-(spl n:Int)=((n-spl n:Nat):Int):=by omega
     rw [e1,e2]
     have hc:=ih (n-spl n) (by omega) x (i-spl n) l.dropLast (s||l.isEmpty) (by omega) (by omega) hx hD.dropLast (by simp;omega) (by omega)
     rw [Mp,Mo,←Gg h2 (by omega)] at hc
     have hcl:=Gl (n-spl n) x (i-spl n) l.dropLast hx
     obtain ⟨w1,w2,w3⟩:=fP (mF (a:=l.getLastD lV) (b:=cl x (i-spl n) (n-spl n) l.dropLast))
     rw [Jd h2 (by omega)]
     refine ⟨by simp only [lo,Fx.hi];omega,by simp only [lo,Fx.hi];omega,?_,?_⟩
     all_goals
      refine eW [0,1,2,3] [.i ((i-spl n:Nat):Int),.i ((n-spl n:Nat):Int),.ptr 0 0 0,.ptr 1 0 0,.ptr 2 0 0] (.agg (us (cl x (i-spl n) (n-spl n) l.dropLast))) (.agg (us (cl x (i-spl n) (n-spl n) l.dropLast))) (hC x l.dropLast (s||l.isEmpty)) _ (hC x (oF l (dep i n)) (o0 l s (dep i n))++[.var (us z16),.var (us (l.getLastD lV))]) hc (by simp) (by simp [blk,bV,cH,ren,a6,pos]) (by simp [aG,bA,aS,cK,wkL,wk,wkR,wkB,pos]) (by simp) (by simp [bV,cH,ren,a6,back,bZ]) (by simp [ren,a6]) (by simp [aC,aB,hC]) ?_
      simp -implicitDefEqProofs only [rX,↓rY,rdK,↓reduceIte,Nat.reduceEqDiff,hC,g9,d1,d2]
      refine aE (Na _ _ hd hcl) ⟨⟨eC.1,eC.1,trivial⟩,eC.2,eC.2,trivial⟩ (by simp [ren,a6]) ⟨trivial,trivial,trivial,trivial,trivial⟩ ?_
      simp -implicitDefEqProofs only [rX,↓rY,cells?,splice,↓reduceIte,Nat.reduceEqDiff,Nat.reduceAdd,aT,aY,leH,leB,leV,dH,aC,aB,wfB,wfV,wfL,g7,z3,w1,w2,f7,b6,bP]
     all_goals exact ⟨by omega,Lk⟩
   have hb:((n:Int)==1)=false:=by rw [beq_eq_false_iff_ne];omega
   have c126:=aaK l s hD hl
   have e16:16≤(us z16).length:=by omega
   rw [c125_eq]
   simp -implicitDefEqProofs only [rX,↓rY,c125,sqL,sqR,aA,cells?,splice,↓reduceIte,Nat.reduceEqDiff,Nat.reduceAdd,reduceCtorEq,aD,cxN,aH,w16,hC,x1,x2,f7,hb]
   repeat' first
    | exact rest _ _ rfl rfl rfl rfl rfl rfl
    | refine And.intro ?_ ?_
    | (refine aE (Nb n h2 hn) ⟨⟨trivial,trivial⟩,rfl,trivial⟩ rfl (by simp [aC,aB]) ?_
       simp -implicitDefEqProofs only [rX,↓rY,rdK,aA,cells?,↓reduceIte,Nat.reduceEqDiff,reduceCtorEq,aD,w16])
    | (refine eW [3] [.ptr 0 0 0] (.agg (us (l.getLastD lV))) (.agg (us (l.getLastD lV))) [.var [rD l,.b s]] _ (hC x l.dropLast (s||l.isEmpty)++[.var (us z16),.dead]) c126 (by simp) rfl (by simp [aG,bA,aS,cK,wkL,wk,wkR,wkB,pos]) (by simp) rfl (by simp [ren,a6]) (by simp [aC,aB,hC]) ?_
       simp -implicitDefEqProofs only [rX,↓rY,aA,cells?,splice,↓reduceIte,Nat.reduceEqDiff,aD,w16,hC,d1,z1,z3,f7])
    | (refine eW [3] [.ptr 0 0 0] (.agg (us (l.getLastD lV))) (.agg (us (l.getLastD lV))) [.var [rD l,.b s]] _ (hC x l.dropLast (s||l.isEmpty)++[.var (us z16),.var (us z16)]) c126 (by simp) rfl (by simp [aG,bA,aS,cK,wkL,wk,wkR,wkB,pos]) (by simp) rfl (by simp [ren,a6]) (by simp [aC,aB,hC]) ?_
       simp -implicitDefEqProofs only [rX,↓rY,cells?,splice,↓reduceIte,Nat.reduceEqDiff,hC,d1,z1,z3,f7])
  ·have hn1:n=1:=by omega
   subst hn1
   unfold c125
   have hb:(((1:Nat):Int)==1)=true:=rfl
   simp -implicitDefEqProofs only [rX,↓rY,aA,cells?,splice,↓reduceIte,Nat.reduceEqDiff,Nat.reduceAdd,reduceCtorEq,aD,aT,aY,leH,leB,leV,dH,aC,aB,wfB,wfV,wfL,cxN,aH,w16,hC,z1,z3,x1,x2,f7,b6,bP,hb]
   rw [Bk (by omega),Bf (by omega)]
   refine ⟨⟨Lk,?_,?_⟩,rfl⟩
   ·unfold oF;rw [ybn,yaE]
   ·unfold o0;simp
def ckI (x:Bs) (i n:Int) (l:List Bs) (r:Bs):Bool:=if n<1∨1099511627776<n∨i<0∨n≤i then false else nI x i.toNat n.toNat l r
theorem aeB (x:Bs) (i n:Int) (l:List Bs) (r:Bs) (hx:x.length=16) (hr:r.length=16) (hD:D16 l) (hl:l.length≤1000000000):Ok 81 [.agg (us x),.i i,.i n,rD l,.agg (us r)] (Is (.b (ckI x i n l r))):=by
 refine Rg pol [] lw81 (by simp) trivial (by simp) ?_
 obtain ⟨x1,x2,x3⟩:=fP hx
 obtain ⟨r1,r2,r3⟩:=fP hr
 unfold c81 c81a c81b
 simp -implicitDefEqProofs only [rX,↓rY,rdK,aA,cells?,splice,↓reduceIte,Nat.reduceEqDiff,Nat.reduceAdd,reduceCtorEq,aD,bG,aT,aY,wfV,isC,Nat.reduceLeDiff,cxN,Pm,aH]
 simp only [br,decide_eq_true_eq,decide_eq_false_iff_not]
 refine ⟨fun h1=>?_,fun h1=>⟨fun h2=>?_,fun h2=>⟨fun h3=>?_,fun h3=>⟨fun h4=>?_,fun h4=>?_⟩⟩⟩⟩
 ·rw [ckI,if_pos (.inl h1)]
 ·rw [ckI,if_pos (.inr (.inl h2))]
 ·rw [ckI,if_pos (.inr (.inr (.inl h3)))]
 ·rw [ckI,if_pos (.inr (.inr (.inr h4)))]
 obtain ⟨i,rfl⟩:∃ a:Nat,i=a:=⟨i.toNat,by omega⟩
 obtain ⟨n,rfl⟩:∃ a:Nat,n=a:=⟨n.toNat,by omega⟩
 have hck:ckI x i n l r=nI x i n l r:=by rw [ckI,if_neg (by omega),yac,yac]
 have hcl:=Gl n x i l hx
 have hc:=aaL n x i l false (by omega) (by omega) hx hD hl (by omega)
 refine ⟨[3,2],_,⟨rfl,rfl⟩,⟨trivial,trivial,trivial⟩,?_⟩
 have fin:((cl x i n l==r)&&!(o0 l false (dep i n))&&(oF l (dep i n)).isEmpty)=nI x i n l r:=by
  unfold nI o0 oF
  rw [Bool.and_comm (decide _),Bool.and_assoc]
  congr 1
  rw [ybc]
  simp only [Bool.false_or,Bool.and_eq_true,Bool.not_eq_true',decide_eq_false_iff_not,List.isEmpty_iff,decide_eq_true_eq,List.take_eq_nil_iff]
  constructor
  ·rintro ⟨h5,h6|h6⟩
   ·omega
   ·subst h6;simp at h5 ⊢;omega
  ·intro h5;exact ⟨by omega,.inl (by omega)⟩
 have h124:=aaM (oF l (dep i n)) (o0 l false (dep i n)) (cl x i n l==r) (by unfold oF;simp;omega)
 rw [fin,←hck] at h124
 refine ⟨?_,by omega,?_⟩
 all_goals
  refine eW [0,4,5,3] [.i i,.i n,.ptr 0 0 0,.ptr 1 0 0,.ptr 2 0 0] (.agg (us (cl x i n l))) (.agg (us (cl x i n l))) (hC x l false) _ [.var (us x),.var (us r),.var [.b false],.var [rD (oF l (dep i n)),.b (o0 l false (dep i n))],.var [.ptr 3 0 0],.var [.clo 125 [.ptr 0 0 0,.ptr 4 0 0,.ptr 5 0 0]]] hc (by simp) (by simp [blk,bV,cH,ren,a6,pos]) (by simp [aG,bA,aS,cK,wkL,wk,wkR,wkB,pos]) (by simp) (by simp [bV,cH,ren,a6,back,bZ]) (by simp [ren,a6]) (by simp [aC,aB]) ?_
  simp -implicitDefEqProofs only [rX,↓rY,rdK,cells?,splice,↓reduceIte,Nat.reduceEqDiff,isC,r1,r2]
 all_goals
  rw [mL hcl hr]
  refine eW [3,2] [.ptr 0 0 0,.ptr 1 0 0] (.tup []) (.tup []) [.var [rD (oF l (dep i n)),.b (o0 l false (dep i n))],.var [.b (cl x i n l==r)]] _ [.var (us x),.var (us r),.var [.b (ckI x i n l r)],.var [rD (oF l (dep i n)),.b (o0 l false (dep i n))],.var [.ptr 3 0 0],.var [.clo 125 [.ptr 0 0 0,.ptr 4 0 0,.ptr 5 0 0]]] h124 (by simp) rfl (by simp [aG,bA,aS,cK,wkL,wk,wkR,wkB,pos]) (by simp) rfl rfl trivial ?_
  simp -implicitDefEqProofs only [rX,↓rY,↓reduceIte,Nat.reduceEqDiff,aT,aY,wfV]
end Go.Fx.H
namespace Go.Fx.H
open Go Go.Fx Go.Proofs Go.Fx.R
set_option maxRecDepth 20000
section
variable {d:Bs} {tl:List V} {v:V}
theorem p_l (h:d.length=16):(us d).length=16:=by rw [cJ,h]
end
end Go.Fx.H
namespace Go.Fx.H
open Go Go.Fx Go.Proofs Go.Fx.R
set_option maxRecDepth 20000
def chE (m:Man) (k:Int) (t:Bs) (p:List Bs):Int:=if k<0∨m.n≤k then 1 else if (t.length:Int)≠(m.span k).2-(m.span k).1∨ckI (lf t) k m.n p m.rt=false then 8 else 0
theorem Hn {m:Man} {k:Int} (h:m.okP) (h0:0≤k) (hk:k<m.n):0≤(m.span k).1∧(m.span k).1<(m.span k).2∧(m.span k).2≤m.size∧(m.span k).2≤65536:=by
 obtain ⟨p1,p2,p3⟩:=id h
 have hn:=Tq h
 have e:m.span k=(k*m.block,min m.size ((k+1)*m.block)):=by unfold Man.span;rw [if_neg (by omega)]
 rw [e]
 have h1:k+1≤(m.size+m.block-1)/m.block:=by
  have:=Bi (s:=m.size) (b:=m.block) p1.1 p2.1
  unfold Man.n at hk
  omega
 have h2:(k+1)*m.block≤m.size+m.block-1:=(Int.le_ediv_iff_mul_le (by omega)).1 h1
 have h3:(k+1)*m.block=k*m.block+m.block:=by rw [Int.add_mul,Int.one_mul]
 have h4:0≤k*m.block:=Int.mul_nonneg h0 (by omega)
 simp only
 omega
theorem Cj {m:Man} {k:Int} (hk:k<0∨m.n≤k):m.span k=(0,0):=by unfold Man.span;rw [if_pos hk]
theorem Ve {m:Man} {k:Int} (h:m.okP):(0≤(m.span k).1∧(m.span k).1≤65536)∧0≤(m.span k).2∧(m.span k).2≤65536:=by
 by_cases hk:k<0∨m.n≤k
 ·rw [Cj hk];simp
 ·have:=Hn h (by omega) (k:=k) (by omega);omega
theorem Zh (m:Man) (k:Int) (t:Bs) (p:List Bs) (h:m.okP) (hr:m.rt.length=16) (ht:t.length≤100000000000) (hD:D16 p) (hp:p.length≤1000000000):Ok 39 [.agg m.enc,.i k,sv t,rD p] (Is (.i (chE m k t p))):=by
 refine bO lw39 (by simp) ?_
 unfold c39
 obtain ⟨q1,q2,q3⟩:=oO hr
 have sb:=Ve (k:=k) h
 simp -implicitDefEqProofs only [rX,↓rY,aA,cells?,↓reduceIte,Nat.reduceEqDiff,Nat.reduceAdd,reduceCtorEq,aD,cxN,aH,q1,q2]
 refine aE (Zi m k h hr) ⟨⟨dR.1,trivial,trivial⟩,dR.2,rfl,trivial⟩ (by simp [ren,cH,enS]) trivial ?_
 simp -implicitDefEqProofs only [rX,↓rY,qg,rdK,aA,cells?,splice,↓reduceIte,Nat.reduceEqDiff,Nat.reduceAdd,reduceCtorEq,aD,aT,aY,wfV,aU,cG,tC,mT,lE,q1,q2]
 simp only [br,beq_iff_eq,beq_eq_false_iff_ne]
 refine ⟨fun h1=>?_,fun h1=>?_⟩
 ·unfold chE
  have:k<0∨m.n≤k:=by
   rcases Int.lt_or_le k 0 with h2|h2
   ·exact .inl h2
   ·rcases Int.lt_or_le k m.n with h3|h3
    ·have:=Hn h h2 h3;omega
    ·exact .inr h3
  rw [if_pos this]
 ·have hin:¬(k<0∨m.n≤k):=fun h2=>h1 (by rw [Cj h2])
  have tk2:yah 16 (yaj 2 m.enc)=us m.rt:=by
   show yah 16 (us m.rt)=_
   exact yaa (by rw [cJ,hr];exact yad _)
  refine ⟨by simp only [lo,Fx.hi];omega,fun h2=>?_,fun h2=>?_⟩
  ·unfold chE
   rw [if_neg hin,if_pos (.inl (by simpa using h2))]
  ·have h2':(t.length:Int)=(m.span k).2-(m.span k).1:=by simpa using h2
   refine aE (Wf t ht) ⟨⟨trivial,trivial⟩,rfl,trivial⟩ (by simp [ren,a6]) trivial ?_
   simp -implicitDefEqProofs only [rX,↓rY,↓reduceIte,Nat.reduceEqDiff,tk2]
   refine aE (Rk m h) t6 rfl trivial ?_
   simp -implicitDefEqProofs only [rX,↓rY,↓reduceIte,Nat.reduceEqDiff]
   refine aE (aeB (lf t) k m.n p m.rt o8 hr hD hp) ⟨⟨eC.1,trivial,trivial,trivial,eC.1,trivial⟩,eC.2,rfl,rfl,⟨rfl,rfl⟩,eC.2,trivial⟩ rfl trivial ?_
   simp -implicitDefEqProofs only [rX,↓rY,aA,↓reduceIte,Nat.reduceEqDiff,Nat.reduceAdd,aT,aY,wfV]
   unfold chE
   rw [if_neg hin]
   cases hc:ckI (lf t) k m.n p m.rt with
   | true=>simp [br,h2']
   | false=>simp [br,h2']
def prE (t:Bs) (b k:Int):Int:=if mkE t b≠0 then mkE t b else inE (lvs t b.toNat) k
def prL (t:Bs) (b k:Int):List Bs:=if mkE t b≠0 then [] else inL (lvs t b.toNat) k
theorem aaV {t:Bs} {b:Int} (h:mkE t b=0):1≤b∧b≤4096∧t.length≤65536∧oH t.length b≤4096:=by
 unfold mkE at h
 split at h
 ·omega
 ·split at h
  ·omega
  ·omega
theorem Ro {t:Bs} {b:Int}:(mkM t b).rt.length=16:=by
 unfold mkM
 split
 ·exact gT _ _ rfl Ik
 ·rfl
theorem x5 {f:Nat→Option Nat}:∀ l:List V,(∀ x∈l,∃ u,x=.v u)→cH f l=l
 | [],_=>rfl
 | x::r,h=>by
  obtain ⟨u,rfl⟩:=h x yaS
  show V.v u::cH f r=_
  rw [x5 r fun y hy=>h y (ybo _ hy)]
theorem Dc {m:Man} {f:Nat→Option Nat}:cH f m.enc=m.enc:=x5 _ p6
theorem aeJ (t:Bs) (b k:Int) (ht:t.length≤1000000000):Ok 29 [sv t,.i b,.i k] (Is (.tup [rD (prL t b k),.i (prE t b k)])):=by
 refine iT (R:=fun q hs=>wk (.tup [rD (prL t b k),.i (prE t b k)]) (gvV (fun _=>true) hs q)) ?_ fun _ _ h=>h
 refine bO lw29 (by simp) ?_
 unfold c29
 obtain ⟨q1,q2,q3⟩:=oO (m:=mkM t b) Ro
 obtain ⟨s1,s2,s3⟩:=oO (m:=Bw) rfl
 simp -implicitDefEqProofs only [rX,aA,↓reduceIte,Nat.reduceEqDiff,Nat.reduceAdd,reduceCtorEq,cxN,aH]
 refine aE (Zj t b ht) ⟨⟨trivial,trivial,trivial⟩,rfl,rfl,trivial⟩ (by simp [ren,cH,Dc]) trivial ?_
 simp -implicitDefEqProofs only [rX,↓rY,aA,cells?,splice,↓reduceIte,Nat.reduceEqDiff,reduceCtorEq,aD,aT,aY,aC,wfV,wfL,q1,s1,s3,Ij,eE,zM]
 simp only [br,bne_iff_ne,bne_eq_false_iff_eq]
 refine ⟨fun h1=>⟨([]:List Blk),⟨trivial,yaf _,trivial⟩,?_⟩,fun h1=>?_⟩
 ·rw [prL,prE,if_pos h1,if_pos h1];simp [gvV,gvL,wk,wkL,wkR]
 ·obtain ⟨b1,b2,b3,b4⟩:=aaV h1
  obtain ⟨n,rfl⟩:∃ n:Nat,b=n:=⟨b.toNat,by omega⟩
  refine aE (Wg t n ⟨by omega,by omega⟩ ht) ⟨⟨trivial,trivial,trivial⟩,rfl,rfl,trivial⟩ (by simp [ren]) trivial ?_
  simp -implicitDefEqProofs only [rX,↓reduceIte,Nat.reduceEqDiff,reduceCtorEq]
  have hn:nb t.length n≤t.length:=Ni (by omega)
  refine aE (aeC (lvs t n) k Ik (by rw [t7];omega)) ⟨⟨trivial,trivial,trivial⟩,⟨rfl,rfl⟩,rfl,trivial⟩ (by simp [ren,cH]) trivial ?_
  simp -implicitDefEqProofs only [rX,↓rY,↓reduceIte,Nat.reduceEqDiff,aT,aY,aC,wfV,wfL,eE]
  refine ⟨([]:List Blk),⟨trivial,yaf _,trivial⟩,?_⟩
  rw [prL,prE,if_neg (by simpa using h1),if_neg (by simpa using h1),yac]
  simp [gvV,gvL,wk,wkL,wkR]
end Go.Fx.H
namespace Go.Fx.H
open Go Go.Fx Go.Proofs Go.Fx.R
set_option maxRecDepth 20000
theorem aeF (l m:List Sp):Ok 66 [aO l,aO m] (Is (.b (l==m))):=by
 refine bO lw66 (by simp) ?_
 unfold c66 aO
 simp -implicitDefEqProofs only [rX,↓rY,aA,↓reduceIte,Nat.reduceEqDiff,reduceCtorEq,aT,aY,wfV,cxN,aH]
 intro hm1 hm2
 have hne:∀ j (h1:j<l.length) (h2:j<m.length),l[j]≠m[j]→(l==m)=false:=by
  intro j h1 h2 hne
  rw [beq_eq_false_iff_ne]
  intro e
  subst e
  exact hne rfl
 cases hb:(decide ((l.length:Int)=m.length)) with
 | false =>
  have hb':((l.length:Int) != (m.length:Int))=true:=by simpa using hb
  simp -implicitDefEqProofs only [↓rY,hb']
  rw [eq_comm,beq_eq_false_iff_ne]
  rintro rfl
  simp at hb
 | true =>
  have hb':((l.length:Int) != (m.length:Int))=false:=by simpa using hb
  have hlm:l.length=m.length:=by rw [decide_eq_true_eq] at hb;omega
  simp -implicitDefEqProofs only [↓rY,hb']
  refine aR (fun k:Nat=>⟨[(5,.i k),(1,.ro 2 (m.map enS)),(0,.ro 2 (l.map enS))],[],0⟩) (fun k=>k≤l.length∧l.take k=m.take k) (fun k=>l.length-k) 0 ⟨by omega,by simp⟩ ?_ ?_
  ·simp -implicitDefEqProofs only [rX,↓reduceIte,Nat.reduceEqDiff,reduceCtorEq,leE,leH,aC,wfE,wfB,wfV,yax]
  rintro k ⟨hk,hv⟩
  unfold c66l0
  simp -implicitDefEqProofs only [rX,↓rY,aA,↓reduceIte,Nat.reduceEqDiff,reduceCtorEq,aT,aY,leE,leH,aC,wfE,wfB,wfV,yae,yac,cG,cQ,abN]
  simp only [br,decide_eq_true_eq,decide_eq_false_iff_not]
  refine fun hm'=>⟨fun h=>?_,fun h=>?_⟩
  ·have hk':k<l.length:=by omega
   have hk2:k<m.length:=by omega
   refine ⟨⟨by omega,h⟩,hk',⟨by omega,by omega⟩,hk2,?_⟩
   cases he:(l[k]==m[k]) with
   | true =>
    have he':l[k]=m[k]:=by simpa using he
    refine ⟨by simp,fun _=>⟨by simp only [lo,hi,maxLen] at *;omega,k+1,⟨⟨by omega,?_⟩,by omega⟩,by simp⟩⟩
    rw [yap,yap,hv,yai hk',yai hk2,he']
   | false=>exact ⟨fun _=>(hne k hk' hk2 (by simpa using he)).symm,by simp⟩
  ·have h1:l.take k=l:=yaa (by omega)
   have h2:m.take k=m:=yaa (by omega)
   rw [h1,h2] at hv
   simp [hv]
end Go.Fx.H
namespace Go.Fx.H
open Go Go.Fx Go.Proofs Go.Fx.R
set_option maxRecDepth 20000
end Go.Fx.H
namespace Go.Fx.H
open Go Go.Fx Go.Proofs Go.Fx.R
set_option maxRecDepth 20000
end Go.Fx.H
namespace Go.Fx.H
open Go Go.Fx Go.Proofs Go.Fx.R
set_option maxRecDepth 20000
def cov (l:List Sp) (s:Sp):Bool:=(nE (ofS [s]) l).isEmpty
theorem Rq {s:Sp} (h:BdS s):Mid [s]:=by
 intro t ht
 simp at ht;subst ht
 unfold BdS at h;omega
theorem Uw {s:Sp} (h:BdS s):Vd (ofS [s]):=Vd.of (by
 intro t ht;simp at ht;subst ht;exact h)
theorem aeA (l:List Sp) (s:Sp) (hl:Vd l) (hs:BdS s):Ok 83 [aO l,.agg (enS s)] (Is (aO (nE (ofS [s]) l))):=by
 refine bO lw83 (by simp) ?_
 unfold c83
 simp -implicitDefEqProofs only [rX,↓rY,aA,cells?,↓reduceIte,Nat.reduceEqDiff,reduceCtorEq,aD,bY,Nat.reduceLT,cxN,cG,cQ,oP,aH]
 refine d7 [1] [0] [1] [.sl 0 0 1] (aO (ofS [s])) (aO (ofS [s])) [.arr 2 [enS s]] [.dead] _ _ (Ts [s] (by simp) (Rq hs)) (by simp) (by simp) (by simp [blk,bV]) (by simp [aG,bA,aS,cK,wkL,wk,wkR,pos]) rfl rfl rfl trivial ?_
 simp -implicitDefEqProofs only [rX,↓reduceIte,Nat.reduceEqDiff,Nat.reduceAdd,reduceCtorEq,aP,aZ,kill,St.kill,iY]
 refine aE (aeH (ofS [s]) l (Uw hs) hl) ⟨⟨trivial,trivial,trivial⟩,⟨rfl,rfl⟩,⟨rfl,rfl⟩,trivial⟩ rfl trivial ?_
 simp -implicitDefEqProofs only [rX,↓reduceIte,aT,aY,wfV]
theorem Sg {l:List Sp}:((l.length:Int)==0)=l.isEmpty:=by
 cases l with
 | nil=>rfl
 | cons a r=>simp;omega
theorem aeI (l:List Sp) (s:Sp) (hl:Vd l) (hs:BdS s):Ok 42 [aO l,.agg (enS s)] (Is (.b (cov l s))):=by
 refine bO lw42 (by simp) ?_
 unfold c42
 simp -implicitDefEqProofs only [rX,↓rY,aA,cells?,↓reduceIte,Nat.reduceEqDiff,reduceCtorEq,aD,cxN,cG,cQ,aH]
 refine aE (aeA l s hl hs) ⟨⟨trivial,⟨trivial,trivial,trivial⟩,trivial⟩,⟨rfl,rfl⟩,⟨rfl,rfl,trivial⟩,trivial⟩ rfl trivial ?_
 simp -implicitDefEqProofs only [rX,↓rY,aA,↓reduceIte,aT,aY,wfV]
 intro hm
 rw [Sg];rfl
end Go.Fx.H
namespace Go.Fx.H
open Go Go.Fx Go.Proofs Go.Fx.R
set_option maxRecDepth 20000
def spn (t:Bs) (b i:Nat):Sp:=(((i*b:Nat):Int),((i*b:Nat):Int)+((bk t b i).length:Int))
def iW (hv:List Sp):Int:=(hv.getLast?.map (·.2)).getD 0
def dmE (m:Man) (ls:List Bs) (t:Bs) (hv:List Sp):Int :=
 if (ls.length:Int)≠m.n∨(t.length:Int)≠m.size∨vd hv=false∨(hv≠[]∧m.size<iW hv) then 1 else if root ls≠m.rt then 8 else 0
def dmg (ls:List Bs) (t:Bs) (b:Nat) (hv:List Sp) (i:Nat):Bool:=(lf (bk t b i) != ls.getD i [])&&cov hv (spn t b i)
def dmO (ls:List Bs) (t:Bs) (b:Nat) (hv:List Sp) (n:Nat):List Sp:=((List.range n).filter (dmg ls t b hv)).map (spn t b)
def dmL (m:Man) (ls:List Bs) (t:Bs) (hv:List Sp):List Sp:=if dmE m ls t hv≠0 then [] else ofS (dmO ls t m.block.toNat hv (nb t.length m.block.toNat))
theorem dm1 {m:Man} {ls:List Bs} {t:Bs} {hv:List Sp} (h:(ls.length:Int)≠m.n∨(t.length:Int)≠m.size∨vd hv=false∨(hv≠[]∧m.size<iW hv)):dmE m ls t hv=1:=if_pos h
theorem dm8 {m:Man} {ls:List Bs} {t:Bs} {hv:List Sp} (h:¬((ls.length:Int)≠m.n∨(t.length:Int)≠m.size∨vd hv=false∨(hv≠[]∧m.size<iW hv))) (h2:root ls≠m.rt):dmE m ls t hv=8:=by
 unfold dmE;rw [if_neg h,if_pos h2]
theorem dm0 {m:Man} {ls:List Bs} {t:Bs} {hv:List Sp} (h:¬((ls.length:Int)≠m.n∨(t.length:Int)≠m.size∨vd hv=false∨(hv≠[]∧m.size<iW hv))) (h2:root ls=m.rt):dmE m ls t hv=0:=by
 unfold dmE;rw [if_neg h,if_neg (by simpa using h2)]
theorem Fv {hv:List Sp} (h:hv≠[]) {hh:((hv.length:Int)-1).toNat<hv.length}:(hv[((hv.length:Int)-1).toNat]'hh).2=iW hv:=by
 unfold iW
 rw [ybu]
 have e:((hv.length:Int)-1).toNat=hv.length-1:=by omega
 rw [←e,yai hh];rfl
def pt:Nat→LCode→LCode
 | 0,.seq a _=>a
 | n+1,.seq _ b=>pt n b
 | _,c=>c
def rt:Nat→LCode→LCode
 | 0,c=>c
 | n+1,.seq _ b=>rt n b
 | _,c=>c
abbrev cT:Cx:=cxN Tryz.prog []
structure E14 (m:Man) (ls:List Bs) (t:Bs) (e:Env):Prop where
 g2:get e 2=sv t
 g4:get e 4=.ptr 0 0 0
 g5:get e 5=.ptr 1 0 0
 g7:get e 7=.ptr 2 0 0
abbrev h14 (m:Man) (ls:List Bs) (hv:List Sp):List Blk:=[.var m.enc,.var [bD ls],.var [aO hv]]
theorem c14_parts:c14=.seq (pt 0 c14) (.seq (pt 1 c14) (rt 2 c14)):=by rfl
section
variable {m:Man} {ls:List Bs} {t:Bs} {hv:List Sp} {N R:St→Prop} {X:Nat→St→Prop} {e:Env}
theorem Yi (hm:m.okP) (hr:m.rt.length=16) (hD:D16 ls) (hl:ls.length≤1000000000) (hh:hv.length≤1000000000) (hE:E14 m ls t e)
  (hN:∀ e',E14 m ls t e'→dmE m ls t hv=0→N ⟨e',h14 m ls hv,3⟩)
  (hR:∀ e' k,get e' 8=.v (.slice none 0 0)→get e' 9=.v (.int .i64 k)→dmE m ls t hv=k→k≠0→R ⟨e',h14 m ls hv,3⟩) :
  aw cT (pt 1 c14) N X R ⟨e,h14 m ls hv,3⟩:=by
 obtain ⟨g2,g4,g5,g7⟩:=hE
 obtain ⟨q1,q2,q3⟩:=oO (m:=m) hr
 have m0:m.enc[0]?=some (.i m.size):=rfl
 have tk2:yah 16 (yaj 2 m.enc)=us m.rt:=by
  show yah 16 (us m.rt)=_
  exact yaa (by rw [cJ,hr];exact yad _)
 conv=>arg 2;whnf
 simp -implicitDefEqProofs only [rX,↓rY,rdK,↓reduceIte,Nat.reduceEqDiff,Nat.reduceAdd,cxN,q1,q2,g4,g5]
 intro _
 refine aE (Rk m hm) t6 rfl trivial ?_
 cases h1:((ls.length:Int) != m.n) with
 | true =>
  simp -implicitDefEqProofs only [rX,↓rY,qg,rdK,aA,↓reduceIte,Nat.reduceEqDiff,Nat.reduceAdd,h1]
  exact hR _ 1 rfl rfl (dm1 (.inl (by simpa using h1))) (by decide)
 | false =>
 simp -implicitDefEqProofs only [rX,↓rY,qg,rdK,aA,↓reduceIte,Nat.reduceEqDiff,Nat.reduceAdd,aU,h1,m0,g2,g4,g7]
 cases h2:((t.length:Int) != m.size) with
 | true =>
  simp -implicitDefEqProofs only [↓rY,kc]
  exact hR _ 1 rfl rfl (dm1 (.inr (.inl (by simpa using h2)))) (by decide)
 | false =>
 simp -implicitDefEqProofs only [↓rY,ke]
 refine aE (Zg hv) ⟨⟨trivial,trivial⟩,⟨rfl,rfl⟩,trivial⟩ rfl trivial ?_
 cases h3:vd hv with
 | false =>
  simp -implicitDefEqProofs only [rX,↓rY,rdK,aA,↓reduceIte,Nat.reduceEqDiff,Nat.reduceAdd]
  exact hR _ 1 rfl rfl (dm1 (.inr (.inr (.inl h3)))) (by decide)
 | true =>
 have hx1:(ls.length:Int)=m.n:=by simpa using h1
 have hx2:(t.length:Int)=m.size:=by simpa using h2
 simp -implicitDefEqProofs only [rX,↓rY,rdK,aA,↓reduceIte,Nat.reduceEqDiff,Nat.reduceAdd,yae,mT,g4,g5,g7]
 intro _
 have hor:hv=[]∨hv≠[]:=by cases hv<;>simp
 rcases hor with rfl|hne
 ·have hz:¬((ls.length:Int)≠m.n∨(t.length:Int)≠m.size∨vd []=false∨(([]:List Sp)≠[]∧m.size<iW [])):=by simp [hx1,hx2,h3]
  simp -implicitDefEqProofs only [rX,↓rY,yax,Int.lt_irrefl,decide_false,ke,tk2,q1]
  refine aE (Mx _ ls rfl hD (by omega)) ⟨⟨trivial,trivial⟩,⟨rfl,rfl⟩,trivial⟩ (by simp [ren,a6]) trivial ?_
  simp -implicitDefEqProofs only [rX,aA,↓reduceIte,Nat.reduceEqDiff,Nat.reduceAdd,mL (gT _ ls rfl hD) hr]
  cases h5:(root ls==m.rt) with
  | false =>
   simp only [yaT,kc]
   exact hR _ 8 rfl rfl (dm8 hz (by simpa using h5)) (by decide)
  | true =>
   simp only [yaP,ke]
   exact hN _ ⟨g2,g4,g5,g7⟩ (dm0 hz (by simpa using h5))
 ·have hp:0<hv.length:=List.length_pos_iff.2 hne
  have hlt:=fun hh=>Fv hne (hh:=hh)
  simp -implicitDefEqProofs only [rX,↓rY,decide_eq_true (show (0:Int)<(hv.length:Int) by omega),kc,m0,tk2,q1]
  intro _
  refine ⟨by simp only [lo,Fx.hi];omega,by omega,by omega,?_⟩
  rw [hlt]
  cases h4:decide (m.size<iW hv) with
  | true =>
   simp -implicitDefEqProofs only [↓rY,kc]
   exact hR _ 1 rfl rfl (dm1 (.inr (.inr (.inr ⟨hne,by simpa using h4⟩)))) (by decide)
  | false =>
  have hz:¬((ls.length:Int)≠m.n∨(t.length:Int)≠m.size∨vd hv=false∨(hv≠[]∧m.size<iW hv)):=by
   have:¬m.size<iW hv:=by simpa using h4
   simp [hx1,hx2,h3,this]
  simp -implicitDefEqProofs only [↓rY,ke]
  refine aE (Mx _ ls rfl hD (by omega)) ⟨⟨trivial,trivial⟩,⟨rfl,rfl⟩,trivial⟩ (by simp [ren,a6]) trivial ?_
  simp -implicitDefEqProofs only [rX,aA,↓reduceIte,Nat.reduceEqDiff,Nat.reduceAdd,mL (gT _ ls rfl hD) hr]
  cases h5:(root ls==m.rt) with
  | false =>
   simp only [yaT,kc]
   exact hR _ 8 rfl rfl (dm8 hz (by simpa using h5)) (by decide)
  | true =>
   simp only [yaP,ke]
   exact hN _ ⟨g2,g4,g5,g7⟩ (dm0 hz (by simpa using h5))
end
abbrev hpD (m:Man) (ls:List Bs) (t:Bs) (hv:List Sp) (b:Nat) (i:Nat):List Blk:=[.var m.enc,.var [bD ls],.var [aO hv],.var [.sl 7 0 (dmO ls t b hv i).length],.var [sv t],.var [.i b],.rcd .ready [(58,.clo 111 [.ptr 4 0 0,.ptr 5 0 0]),(10,.ptr 3 0 0),(2,sv t),(4,.ptr 0 0 0),(5,.ptr 1 0 0),(7,.ptr 2 0 0)],.arr 2 ((dmO ls t b hv i).map enS)]
theorem itD (m:Man) (ls:List Bs) (t:Bs) (hv:List Sp) (b:Nat) (hb:1≤b∧b≤1000000000) (ht:t.length≤1000000000):ItB (hpD m ls t hv b) 8 t b 6 4 5 [6]:=by
 refine ⟨hb,ht,fun g=>rfl,fun g tl=>rfl,fun g tl=>rfl,fun g=>⟨trivial,trivial⟩,fun g=>?_,fun g=>⟨_,_,rfl⟩⟩
 simp -implicitDefEqProofs only [rX,aB,wfE,wfB,wfV,wfL,sH]
theorem Lv {t:Bs} {b g:Nat} (hb:1≤b∧b≤1000000000) (ht:t.length≤1000000000) (h:g<nb t.length b):BdS (spn t b g)∧(spn t b g).1<(spn t b g).2:=by
 have hlt:=(vH hb.1).2 h
 have hl:=Bq (t:=t) (b:=b) (j:=g)
 unfold BdS spn
 simp only
 omega
theorem lF {ls:List Bs} {t:Bs} {b:Nat} {hv:List Sp} {n:Nat}:dmO ls t b hv (n+1)=dmO ls t b hv n++if dmg ls t b hv n=true then [spn t b n] else []:=by
 unfold dmO
 rw [List.range_succ,List.filter_append,yaq]
 congr 1
 cases h:dmg ls t b hv n<;>simp [h]
theorem Sh {ls:List Bs} {t:Bs} {b:Nat} {hv:List Sp} {n:Nat} (hb:1≤b∧b≤1000000000) (ht:t.length≤1000000000) (h:n≤nb t.length b):Mid (dmO ls t b hv n):=by
 intro s hs
 obtain ⟨g,hg,rfl⟩:=ybk.1 hs
 have hg2:=List.mem_range.1 (List.mem_filter.1 hg).1
 have:=Lv hb ht (show g<nb t.length b by omega)
 unfold BdS at this
 omega
theorem Ow {ls:List Bs} {t:Bs} {b:Nat} {hv:List Sp} {n:Nat}:(dmO ls t b hv n).length≤n:=by
 unfold dmO
 rw [yaW]
 exact Nat.le_trans (ybr _ _) (by simp)
theorem iG {m:Man} {M:List Nat}:bM M m.enc=m.enc:=l7 _ p6
theorem abO {m:Man} {ls:List Bs} {t:Bs} {hv:List Sp} {b:Nat} (hm:m.okP) (hb1:1≤b) (hb:m.block=b) (h:dmE m ls t hv=0):ls.length=nb t.length b∧Vd hv:=by
 unfold dmE at h
 split at h
 ·omega
 ·rename_i h1
  have h2:(ls.length:Int)=m.n:=Decidable.byContradiction fun c=>h1 (.inl c)
  have h3:(t.length:Int)=m.size:=Decidable.byContradiction fun c=>h1 (.inr (.inl c))
  have h4:vd hv=true:=by
   cases hv':vd hv with
   | true=>rfl
   | false=>exact absurd (.inr (.inr (.inl hv'))) h1
  refine ⟨?_,Lh.1 h4⟩
  unfold Man.n at h2
  rw [←h3,hb,Wj hb1] at h2
  omega
theorem aeR (m:Man) (ls:List Bs) (t:Bs) (hv:List Sp) (hm:m.okP) (hr:m.rt.length=16) (hD:D16 ls) (hl:ls.length≤1000000000) (ht:t.length≤1000000000) (hh:hv.length≤1000000000) :
  Ok 14 [.agg m.enc,bD ls,sv t,aO hv] (Is (.tup [aO (dmL m ls t hv),.i (dmE m ls t hv)])):=by
 refine iT (R:=fun q hs=>wk (.tup [aO (dmL m ls t hv),.i (dmE m ls t hv)]) (gvV (fun _=>true) hs q)) ?_ fun _ _ h=>h
 refine bO lw14 (by simp) ?_
 rw [c14_parts]
 obtain ⟨q1,q2,q3⟩:=oO (m:=m) hr
 obtain ⟨b,hb,hb2⟩:∃ b:Nat,m.block=b∧(1≤b∧b≤4096):=⟨m.block.toNat,by have:=hm.2.1;omega,by have:=hm.2.1;omega⟩
 have m1:m.enc[1]?=some (.i b):=by rw [←hb];rfl
 simp -implicitDefEqProofs only [qK]
 conv=>arg 2;whnf
 simp -implicitDefEqProofs only [rX,↓rY,aA,cells?,↓reduceIte,Nat.reduceEqDiff,Nat.reduceAdd,reduceCtorEq,aD,cxN,aH]
 refine Yi hm hr hD hl hh ⟨rfl,rfl,rfl,rfl⟩ ?_ ?_
 ·rintro e ⟨g2,g4,g5,g7⟩ he0
  obtain ⟨hln,hvv⟩:=abO hm hb2.1 hb he0
  conv=>arg 2;whnf
  simp -implicitDefEqProofs only [rX,↓rY,aA,cells?,↓reduceIte,Nat.reduceEqDiff,Nat.reduceAdd,aD,g2,g4,m1]
  refine dV [sv t,.i b] (.clo 111 [.ptr 0 0 0,.ptr 1 0 0]) (.clo 111 [.ptr 4 0 0,.ptr 5 0 0]) [.var [sv t],.var [.i b]] [.var [sv t],.var [.i b]] (We t b) ⟨⟨trivial,trivial,trivial⟩,rfl,rfl,trivial⟩ (by simp [ren,cH]) (by simp [bV,cH,ren]) trivial ?_
  simp -implicitDefEqProofs only [rX]
  refine uY 6 rfl rfl trivial ?_
  refine rM (as':=[.itr 6,.ptr 4 0 0,.ptr 5 0 0]) (h':=hpD m ls t hv b 0) rfl ⟨_,.virt 1 2 (by decide) (.nilB 3 [.nil] [.sl 7 0 0] rfl ⟨rfl,fun i a b h1 h2=>?_⟩ (.refl _)),?_⟩ (Nx (Inv:=fun i g=>g=i) (itD m ls t hv b (by omega) ht) ?_ ?_ _ rfl)
  ·match i with
   | 0=>simp at h1 h2;subst h1 h2;exact .inr ⟨rfl,_,rfl⟩
   | i+1=>simp at h1
  ·simp -implicitDefEqProofs only [rX,↓reduceIte,Nat.reduceEqDiff,Nat.reduceAdd,reduceCtorEq,leE,leH,leB,leV,dH,aC,aB,wfE,wfB,wfV,wfL,aH,yaD,or_true,g2,g4,g5,g7,sH]
   refine ⟨bB _,?_,?_⟩<;>rfl
  ·rintro i g hi rfl e2 bb Z he hZ
   refine By 8 rfl rfl rfl ?_
   unfold c14a0
   simp -implicitDefEqProofs only [rX,rZ,↓rW,↓reduceIte,Nat.reduceEqDiff,Nat.reduceAdd,gW]
   unfold c14r0
   simp -implicitDefEqProofs only [rX,↓rY,rdK,aA,cells?,splice,↓reduceIte,Nat.reduceEqDiff,Nat.reduceAdd,aD,bG,isC,Nat.reduceLeDiff,yae,aU,m1]
   have hbl:(bk t b g).length≤1000000000:=by rw [Bq];omega
   have hlt:=(vH hb2.1).2 hi
   have hq:(((g*b:Nat):Int).tdiv (b:Int))=(g:Int):=by
    rw [Int.natCast_mul,Int.mul_tdiv_cancel _ (by omega)]
   have hgl:g<ls.length:=by rw [hln];exact hi
   simp only [hq,yac]
   obtain ⟨hbd,hss⟩:=Lv (t:=t) (by omega) ht hi
   obtain ⟨u1,u2,u3⟩:=fP (hD _ (yam hgl))
   have h1:g≤g*b:=ybj _ hb2.1
   refine ⟨by simp only [lo,Fx.hi];omega,by omega,by simp only [lo,Fx.hi];omega,by omega,hgl,by omega,?_⟩
   refine aE (Wf (bk t b g) (by omega)) ⟨⟨trivial,trivial⟩,rfl,trivial⟩ (by simp [ren,a6]) ⟨trivial,trivial,trivial⟩ ?_
   have hisd:dmg ls t b hv g=((lf (bk t b g) != ls[g])&&cov hv (spn t b g)):=by simp [dmg,List.getD,yai hgl]
   cases h6:(lf (bk t b g)==ls[g]) with
   | true =>
    simp -implicitDefEqProofs only [rX,↓rY,rZ,↓rW,rdK,aA,↓reduceIte,Nat.reduceEqDiff,Nat.reduceAdd,mL o8 (hD _ (yam hgl)),h6,u2]
    have e1:dmO ls t b hv (g+1)=dmO ls t b hv g:=by rw [lF,hisd];simp [bne,h6]
    have hs:=hZ e2 (g+1) [.dead,.var (enS (spn t b g))] ⟨he.e0,he.e1,he.e2,he.e4⟩ rfl
    unfold hpD at hs
    rw [e1] at hs
    exact hs
   | false =>
    simp -implicitDefEqProofs only [rX,↓rY,rZ,↓rW,rdK,aA,↓reduceIte,Nat.reduceEqDiff,Nat.reduceAdd,mL o8 (hD _ (yam hgl)),h6,u2]
    have es:spn t b g=(((g*b:Nat):Int),((g*b:Nat):Int)+((bk t b g).length:Int)):=rfl
    have o:=aeI hv (spn t b g) hvv hbd
    rw [es] at o
    refine aE o ⟨⟨trivial,⟨trivial,trivial,trivial⟩,trivial⟩,⟨rfl,rfl⟩,⟨rfl,rfl,trivial⟩,trivial⟩ rfl ⟨trivial,trivial,trivial⟩ ?_
    rw [←es]
    cases h7:cov hv (spn t b g) with
    | false =>
     simp -implicitDefEqProofs only [rX,↓rY,rZ,↓rW,↓reduceIte,Nat.reduceEqDiff]
     have e1:dmO ls t b hv (g+1)=dmO ls t b hv g:=by rw [lF,hisd];simp [h7]
     have hs:=hZ e2 (g+1) [.dead,.var (enS (spn t b g))] ⟨he.e0,he.e1,he.e2,he.e4⟩ rfl
     unfold hpD at hs
     rw [e1] at hs
     exact hs
    | true =>
     simp -implicitDefEqProofs only [rX,↓rY,rZ,↓rW,cells?,splice,↓reduceIte,Nat.reduceEqDiff,Nat.reduceAdd,reduceCtorEq,aD,bY,aP,aZ,kill,bM,St.kill,isD,isC,Nat.reduceLT]
     have hml:=Ow (ls:=ls) (t:=t) (b:=b) (hv:=hv) (n:=g)
     refine ⟨by omega,?_⟩
     have e1:dmO ls t b hv (g+1)=dmO ls t b hv g++[spn t b g]:=by rw [lF,hisd];simp [bne,h6,h7]
     have hs:=hZ (aP [7] e2) (g+1) [.dead,.var (enS (spn t b g)),.arr 2 [enS (spn t b g)],.dead] ?_ rfl
     ·unfold hpD at hs
      rw [e1,yab,yaq,yaH] at hs
      rw [iG,yaa (by simp)]
      exact hs
     ·refine ⟨?_,?_,?_,?_⟩<;>rw [aQ]
      ·rw [he.e0];simp [kill]
      ·rw [he.e1];simp [kill]
      ·rw [he.e2];simp [kill]
      ·rw [he.e4];rfl
  ·rintro g rfl
   simp -implicitDefEqProofs only [rX,↓rY,rZ,↓rW,↓reduceIte,Nat.reduceEqDiff,Nat.reduceAdd,aB,wfE,wfB,wfV,wfL]
   refine ⟨sH,?_⟩
   have hml:=Ow (ls:=ls) (t:=t) (b:=b) (hv:=hv) (n:=nb t.length b)
   have hnb:=Ni (n:=t.length) hb2.1
   refine xG (dmO ls t b hv (nb t.length b)) rfl (by omega) (Sh (by omega) ht (yad _)) rfl rfl (by simp) trivial ?_
   simp -implicitDefEqProofs only [rX,aA,↓reduceIte,Nat.reduceEqDiff,reduceCtorEq,aT,aY,aC,wfV,wfL,aP,aZ,kill,bM,St.kill,eE]
   have e1:dmL m ls t hv=ofS (dmO ls t b hv (nb t.length b)):=by
    unfold dmL;rw [if_neg (by rw [he0];decide),hb,yac]
   rw [e1,he0]
   refine ⟨([]:List Blk),⟨trivial,yaf _,trivial⟩,?_⟩
   simp [gvV,gvL,wk,wkL,wkR]
 ·intro e k g8 g9 hk hk0
  have e1:dmL m ls t hv=[]:=by unfold dmL;rw [if_pos (by rw [hk];exact hk0)]
  rw [eE,e1,hk]
  simp -implicitDefEqProofs only [rX,aT,aY,aC,wfV,wfL,g8,g9]
  refine ⟨([]:List Blk),⟨trivial,yaf _,trivial⟩,?_⟩
  simp [gvV,gvL,wk,wkL,wkR]
end Go.Fx.H
namespace Go.Fx.H
open Go Go.Fx Go.Proofs Go.Fx.R
set_option maxRecDepth 20000
abbrev h15 (m:Man):List Blk:=[.var m.enc,.var [.v (.slice none 0 0),.v (.int .i64 0)]]
section
end
theorem y8 {M:Nat→Bool} {h:List Blk}:∀ l:List V,(∀ x∈l,∃ u,x=.v u)→gvL M h l=l
 | [],_=>rfl
 | x::r,hx=>by
  obtain ⟨u,rfl⟩:=hx x yaS
  show V.v u::gvL M h r=_
  rw [y8 r fun y hy=>hx y (ybo _ hy)]
theorem Wm {m:Man} {M:Nat→Bool} {h:List Blk}:gvL M h m.enc=m.enc:=y8 _ p6
end Go.Fx.H
namespace Go.Fx.H
open Go Go.Fx Go.Proofs Go.Fx.R
set_option maxRecDepth 20000
def len (s:Sp):Int:=s.2-s.1
def Bj (s t:Sp):Int:=len s-len t
theorem Rj (s t:Sp) (hs:BdS s) (ht:BdS t):Ok 68 [.agg (enS s),.agg (enS t)] (Is (.i (Bj s t))):=by
 refine bO lw68 (by simp) ?_
 unfold c68
 unfold BdS at hs ht
 simp -implicitDefEqProofs only [rX,↓rY,aA,cells?,↓reduceIte,Nat.reduceEqDiff,Nat.reduceAdd,reduceCtorEq,aD,aT,aY,wfV,cxN,tC,mT,aH]
 refine ⟨by simp only [lo,Fx.hi];omega,by simp only [lo,Fx.hi];omega,by simp only [lo,Fx.hi];omega,?_⟩
 rfl
def lt (s t:Sp):Prop:=len s<len t∨(len s=len t∧s.1<t.1)
instance:DecidableRel lt:=fun s t=>inferInstanceAs (Decidable (_∨_))
theorem nG {s t u:Sp} (h:lt s t) (h2:lt t u):lt s u:=by unfold lt at *;omega
theorem Wn {s:Sp}:¬lt s s:=by unfold lt;omega
theorem vN {s t:Sp} (h:s.1<t.1∨t.1<s.1):lt s t∨lt t s:=by unfold lt;omega
def SrL (l:List Sp):Prop:=l.Pairwise lt
def Fz (x:Sp):List Sp→List Sp
 | []=>[x]
 | y::r=>if lt x y then x::y::r else y::Fz x r
def bU:List Sp→List Sp
 | []=>[]
 | x::r=>Fz x (bU r)
theorem sK {x:Sp}:∀ {l:List Sp},(Fz x l).Perm (x::l)
 | []=>.refl _
 | y::r=>by
  unfold Fz
  split
  ·exact .refl _
  ·exact (sK.cons y).trans (.swap x y r)
theorem bW:∀ {l:List Sp},(bU l).Perm l
 | []=>.refl _
 | x::r=>sK.trans (bW.cons x)
theorem Ch:∀ {l m:List Sp},SrL l→SrL m→l.Perm m→l=m
 | [],m,_,_,h=>by have:=h.length_eq;cases m with
  | nil=>rfl
  | cons=>simp at this
 | x::r,[],_,_,h=>by have:=h.length_eq;simp at this
 | x::r,y::t,hl,hm,h=>by
  have hl':=yau.1 hl
  have hm':=yau.1 hm
  have exy:x=y:=by
   have h1:x∈y::t:=h.mem_iff.1 (by simp)
   have h2:y∈x::r:=h.mem_iff.2 (by simp)
   rcases yaI.1 h1 with h1|h1
   ·exact h1
   ·rcases yaI.1 h2 with h2|h2
    ·exact h2.symm
    ·exact absurd (nG (hl'.1 y h2) (hm'.1 x h1)) Wn
  subst exy
  rw [Ch hl'.2 hm'.2 (List.Perm.cons_inv h)]
def Asc (l:List Sp):Prop:=l.Pairwise fun s t=>s.1<t.1
def Dst (l:List Sp):Prop:=l.Pairwise fun s t=>s.1≠t.1
theorem nM {l m:List Sp} (h:Dst l) (hp:l.Perm m):Dst m:=hp.pairwise h (fun h=>Ne.symm h)
theorem Dk {x:Sp}:∀ {l:List Sp},SrL l→Dst (x::l)→SrL (Fz x l)
 | [],_,_=>by simp [Fz,SrL]
 | y::r,h,hd=>by
  have h':=yau.1 h
  have hd':=yau.1 hd
  unfold Fz
  split
  ·rename_i hxy
   refine yau.2 ⟨fun z hz=>?_,h⟩
   rcases yaI.1 hz with rfl|hz
   ·exact hxy
   ·exact nG hxy (h'.1 z hz)
  ·rename_i hxy
   refine yau.2 ⟨fun z hz=>?_,Dk h'.2 (yau.2 ⟨fun z hz=>hd'.1 z (by simp [hz]),(yau.1 hd'.2).2⟩)⟩
   have hz':=sK.mem_iff.1 hz
   rcases yaI.1 hz' with rfl|hz'
   ·have:=hd'.1 y (by simp)
    rcases vN (s:=z) (t:=y) (by omega) with h|h
    ·exact absurd h hxy
    ·exact h
   ·exact h'.1 z hz'
theorem gS:∀ {l:List Sp},Dst l→SrL (bU l)
 | [],_=>by simp [bU,SrL]
 | x::r,h=>by
  have h':=yau.1 h
  refine Dk (gS h'.2) (yau.2 ⟨fun z hz=>h'.1 z (bW.mem_iff.1 hz),nM h'.2 bW.symm⟩)
theorem tV {l m:List Sp} (h:SrL m) (hp:m.Perm l) (hd:Dst l):bU l=m:=Ch (gS hd) h (bW.trans hp.symm)
theorem Ji {l:List Sp} (h:Asc l):Dst l:=h.imp fun h=>by omega
theorem Lx {α:Type} {A B:List α} {x y:α}:((A++y::x::B).set A.length x).set (A.length+1) y=A++x::y::B:=by
 rw [yaJ _ _ (yad _),Nat.sub_self,List.set_cons_zero,yaJ _ _ (by omega)]
 simp
theorem Jq {α:Type} {A B:List α} {x y:α}:((A++y::x::B).set (A.length+1) y).set A.length x=A++x::y::B:=by
 rw [yaJ _ _ (by omega),yaJ _ _ (yad _)]
 simp
theorem vW {S M:List Sp} {x:Sp} {g:Nat} (hS:SrL S) (hp:S.Perm M) (hd:Dst (M++[x])) (hgt:∀ y∈S.drop g,lt x y) (hle:∀ y∈S.take g,lt y x):bU (M++[x])=S.take g++x::S.drop g:=by
 refine tV ?_ ?_ hd
 ·have h0:=hS
  rw [←yan g S] at h0
  obtain ⟨h1,h2,h3⟩:=yaz.1 h0
  refine yaz.2 ⟨h1,yau.2 ⟨hgt,h2⟩,fun y hy z hz=>?_⟩
  rcases yaI.1 hz with rfl|hz
  ·exact hle y hy
  ·exact h3 y hy z hz
 ·refine List.perm_middle.trans ?_
  rw [yan]
  exact (hp.cons x).trans (List.perm_append_singleton x M).symm
abbrev rw2 (l:List Sp):Blk:=.arr 2 (l.map enS)
def mid (P S:List Sp) (x:Sp) (T:List Sp) (g:Nat):List Sp:=P++(S.take g++x::S.drop g)++T
theorem Nm {P S T:List Sp} {x:Sp} {g:Nat} (hg:g≤S.length) (hh:((P.length:Int)+g).toNat<(mid P S x T g).length):(mid P S x T g)[((P.length:Int)+g).toNat]'hh=x:=by
 have e:((P.length:Int)+g).toNat=P.length+g:=by omega
 have hl:(S.take g).length=g:=by rw [yag];omega
 simp only [e,mid]
 rw [yaA (by simp;omega),yao (by omega),yao (by omega)]
 simp [hl]
theorem Tz {P S T:List Sp} {x:Sp} {g:Nat} (hg:1≤g) (hS:g-1<S.length) (hh:((P.length:Int)+g-1).toNat<(mid P S x T g).length):(mid P S x T g)[((P.length:Int)+g-1).toNat]'hh=S[g-1]:=by
 have e:((P.length:Int)+g-1).toNat=P.length+(g-1):=by omega
 have hl:(S.take g).length=g:=by rw [yag];omega
 simp only [e,mid]
 rw [yaA (by simp;omega),yao (by omega),yaA (by omega)]
 simp
theorem No {P S T:List Sp} {x:Sp} {g:Nat} (hg:1≤g) (hS:g-1<S.length):((mid P S x T g).set ((P.length:Int)+g).toNat S[g-1]).set ((P.length:Int)+g-1).toNat x=mid P S x T (g-1):=by
 have e1:((P.length:Int)+g).toNat=(P++S.take (g-1)).length+1:=by rw [yab,yag];omega
 have e2:((P.length:Int)+g-1).toNat=(P++S.take (g-1)).length:=by rw [yab,yag];omega
 have e3:S.take g=S.take (g-1)++[S[g-1]]:=by
  have:=yap (l:=S) (i:=g-1)
  rw [yai hS,show g-1+1=g by omega] at this
  exact this
 have e4:mid P S x T g=(P++S.take (g-1))++S[g-1]::x::(S.drop g++T):=by unfold mid;rw [e3];simp only [yal,yaR,yaF]
 have e5:mid P S x T (g-1)=(P++S.take (g-1))++x::S[g-1]::(S.drop g++T):=by
  unfold mid;rw [yay hS,show g-1+1=g by omega];simp
 rw [e1,e2,e4,e5]
 exact Jq
theorem Hm {L L':List Sp} {i j:Nat} {x y:Sp} {hh:j<((L.map enS).set i (enS y)).length} (h:(L.set i y).set j x=L'):Blk.arr 2 (((L.map enS).set i (enS y)).set j (enS x++yaj 2 (((L.map enS).set i (enS y))[j]'hh)))=rw2 L':=by
 have e1:(L.map enS).set i (enS y)=(L.set i y).map enS:=List.map_set.symm
 have e2:yaj 2 (((L.map enS).set i (enS y))[j]'hh)=[]:=by
  simp only [e1,yae];rfl
 rw [e2,yar,e1,←List.map_set,h]
theorem Tv (P M Q:List Sp) (a b:Int) (n:Nat) (hn:n=(P++M++Q).length) (h:n≤100000) (ha:a=P.length) (hb:b=P.length+M.length) (hasc:Asc M) (hbd:Bd M) :
  OkN Tryz.prog 155 [.sl 0 0 n,.i a,.i b,.clo 68 []] [rw2 (P++M++Q)] [] (IsA (.tup []) [rw2 (P++bU M++Q)]):=by
 subst ha hb
 have hlen:n=P.length+M.length+Q.length:=by rw [hn];simp;omega
 refine f9 pol [0] lw155 (by simp) ⟨trivial,trivial⟩ (fun k hk hm=>by simp at hk ⊢;omega) ?_
 unfold c155
 simp -implicitDefEqProofs only [rX,↓rY,aA,↓reduceIte,Nat.reduceAdd,reduceCtorEq,cxN,aH]
 refine ⟨by simp only [lo,Fx.hi];omega,?_⟩
 refine aR (fun k:Nat=>⟨[(8,.i (P.length+k)),(0,.sl 0 0 n),(1,.i P.length),(2,.i (P.length+M.length)),(3,.clo 68 [])],[rw2 (P++(bU (M.take k)++M.drop k)++Q)],0⟩) (fun k=>1≤k∧k≤max 1 M.length) (fun k=>1+M.length-k) 1 (by omega) ?_ ?_
 ·have e1:bU (M.take 1)++M.drop 1=M:=by cases M with
   | nil=>rfl
   | cons x r=>rfl
  rw [e1]
  simp -implicitDefEqProofs only [rX,↓reduceIte,Nat.reduceEqDiff,reduceCtorEq,leE,leH,leB,aC,aB,wfE,wfB,wfV,wfL,Int.natCast_one]
 rintro k ⟨hk1,hk⟩
 unfold c155l0
 simp -implicitDefEqProofs only [rX,↓rY,↓reduceIte,Nat.reduceEqDiff,reduceCtorEq]
 cases hd:decide ((P.length:Int)+k<P.length+M.length) with
 | false =>
  have hkm:k=max 1 M.length:=by have:=of_decide_eq_false hd;omega
  simp only [ke]
  rw [yaa (by omega),yak (by omega),bP]
  simp -implicitDefEqProofs only [rX,aT,aY,leH,leB,aC,aB,wfB,wfV,wfL]
 | true =>
 have hkm:k<M.length:=by have:=of_decide_eq_true hd;omega
 have hPb:Bd M:=hbd
 have hsl:(bU (M.take k)).length=k:=by rw [bW.length_eq,yag];omega
 have hin:rw2 (P++(bU (M.take k)++M.drop k)++Q)=rw2 (mid P (bU (M.take k)) M[k] (M.drop (k+1)++Q) k):=by
  unfold mid
  rw [yay hkm,yaa (show (bU (M.take k)).length≤k by omega),yak (show (bU (M.take k)).length≤k by omega)]
  simp only [yal,yaR,yaF]
 rw [hin,kc]
 have hdst:Dst M:=Ji hasc
 have hS:SrL (bU (M.take k)):=gS (hdst.sublist (yaK k M))
 have hSM:(bU (M.take k)).Perm (M.take k):=bW
 have hSx:∀ y∈bU (M.take k),y.1<M[k].1:=by
  intro y hy
  have hy':=hSM.mem_iff.1 hy
  have h0:=hasc
  rw [←yan k M] at h0
  refine (yaz.1 h0).2.2 y hy' _ ?_
  rw [yay hkm];exact yaS
 have hSb:Bd (bU (M.take k)):=fun y hy=>hbd y (ybe (hSM.mem_iff.1 hy))
 have hxb:BdS M[k]:=hbd _ (yam hkm)
 have hfin:∀ g,g≤k→(∀ y∈(bU (M.take k)).drop g,lt M[k] y)→(∀ y∈(bU (M.take k)).take g,lt y M[k])→rw2 (mid P (bU (M.take k)) M[k] (M.drop (k+1)++Q) g)=rw2 (P++(bU (M.take (k+1))++M.drop (k+1))++Q):=by
  intro g hg h1 h2
  have e1:M.take (k+1)=M.take k++[M[k]]:=by rw [yap,yai hkm];rfl
  have h0:Dst (M.take k++[M[k]]):=by rw [←e1];exact hdst.sublist (yaK _ M)
  rw [e1,vW hS hSM h0 h1 h2,mid]
  simp
 generalize bU (M.take k)=S at *
 generalize hx:M[k]=x at *
 refine aR (fun g:Nat=>⟨[(9,.i (P.length+g)),(8,.i (P.length+k)),(0,.sl 0 0 n),(1,.i P.length),(2,.i (P.length+M.length)),(3,.clo 68 [])],[rw2 (mid P S x (M.drop (k+1)++Q) g)],0⟩) (fun g=>g≤k∧∀ y∈S.drop g,lt x y) (fun g=>g) k ⟨yad _,by rw [yak (by omega)];simp⟩ ?_ ?_
 ·simp -implicitDefEqProofs only [rX,↓reduceIte,Nat.reduceEqDiff,reduceCtorEq,leE,leH,leB,aC,aB,wfE,wfB,wfV,wfL]
 rintro g ⟨hg,hgt⟩
 have hml:(mid P S x (M.drop (k+1)++Q) g).length=n:=by simp [mid,hlen];omega
 unfold c155l1
 simp -implicitDefEqProofs only [rX,↓rY,aA,↓reduceIte,Nat.reduceEqDiff,eQ,reduceCtorEq,leE,leH,leB,aC,aB,wfE,wfB,wfV,wfL,yae,cG,cQ]
 cases hd2:decide ((P.length:Int)<P.length+g) with
 | false =>
  have hg0:g=0:=by have:=of_decide_eq_false hd2;omega
  subst hg0
  simp -implicitDefEqProofs only [↓rY]
  refine ⟨by simp only [lo,Fx.hi];omega,k+1,⟨by omega,by omega⟩,by omega,hfin 0 (by omega) (by simpa using hgt) (by simp)⟩
 | true =>
 have hg1:1≤g:=by have:=of_decide_eq_true hd2;omega
 simp -implicitDefEqProofs only [↓rY,hml]
 have hgS:g-1<S.length:=by omega
 have h1:∀ hh,(mid P S x (M.drop (k+1)++Q) g)[((P.length:Int)+g).toNat]'hh=x:=Nm (by omega)
 have h2:∀ hh,(mid P S x (M.drop (k+1)++Q) g)[((P.length:Int)+g-1).toNat]'hh=S[g-1]:=Tz (by omega) hgS
 refine ⟨by omega,by omega,by simp only [lo,Fx.hi];omega,by omega,by omega,?_⟩
 rw [h1,h2]
 have hyb:=hSb _ (yam hgS)
 have hyx:=hSx _ (yam hgS)
 refine aE (Rj x S[g-1] hxb hyb) ⟨⟨⟨trivial,trivial,trivial⟩,⟨trivial,trivial,trivial⟩,trivial⟩,⟨rfl,rfl,trivial⟩,⟨rfl,rfl,trivial⟩,trivial⟩ rfl ⟨trivial,trivial⟩ ?_
 have hc:decide (Bj x S[g-1]<0)=decide (lt x S[g-1]):=by
  unfold Bj lt
  exact decide_eq_decide.2 (by omega)
 simp -implicitDefEqProofs only [rX,↓rY,rdK,aA,cells?,splice,↓reduceIte,Nat.reduceEqDiff,eQ,reduceCtorEq,leE,leH,leB,aC,aB,wfE,wfB,wfV,wfL,yae,cG,cQ,lE,oP,nL,hc]
 cases hd3:decide (lt x S[g-1]) with
 | false =>
  have hn3:¬lt x S[g-1]:=of_decide_eq_false hd3
  have hl3:lt S[g-1] x:=(vN (.inl hyx)).resolve_right hn3
  simp -implicitDefEqProofs only [↓rY,ke]
  refine ⟨by simp only [lo,Fx.hi];omega,k+1,⟨by omega,by omega⟩,by omega,hfin g hg hgt fun y hy=>?_⟩
  rw [show g=g-1+1 by omega,yap,yai hgS] at hy
  rcases yaw.1 hy with hy|hy
  ·refine nG ?_ hl3
   have h0:=hS
   rw [←yan (g-1) S] at h0
   refine (yaz.1 h0).2.2 y hy _ ?_
   rw [yay hgS];exact yaS
  ·simp at hy;subst hy;exact hl3
 | true =>
  have hl3:lt x S[g-1]:=of_decide_eq_true hd3
  simp -implicitDefEqProofs only [↓rY,kc,hml,h1,h2]
  refine ⟨by simp only [lo,Fx.hi];omega,by simp only [lo,Fx.hi];omega,by omega,by omega,by omega,by omega,by omega,by omega,by omega,by simp;omega,by simp only [lo,Fx.hi];omega,g-1,⟨⟨by omega,fun y hy=>?_⟩,by omega⟩,by omega,?_⟩
  ·rw [yay hgS] at hy
   rcases yaI.1 hy with rfl|hy
   ·exact hl3
   ·rw [show g-1+1=g by omega] at hy;exact hgt y hy
  ·exact Hm (No (by omega) hgS)
end Go.Fx.H
namespace Go.Fx.H
open Go Go.Fx Go.Proofs Go.Fx.R
set_option maxRecDepth 20000
def swr (P A C B Q:List Sp) (i:Nat):List Sp:=P++((B.take i++A.drop i)++(C++((A.take i++B.drop i)++Q)))
theorem Qv {P A C B Q:List Sp} {i:Nat} (h:A.length=B.length):(swr P A C B Q i).length=P.length+A.length+C.length+B.length+Q.length:=by
 unfold swr
 simp only [yab,yag,yat]
 omega
theorem Xt {P A C B Q:List Sp} {i:Nat} (h:A.length=B.length) (hi:i<A.length) (hh:((P.length:Int)+i).toNat<(swr P A C B Q i).length):(swr P A C B Q i)[((P.length:Int)+i).toNat]'hh=A[i]:=by
 have e:((P.length:Int)+i).toNat=P.length+i:=by omega
 have hl:(B.take i).length=i:=by rw [yag];omega
 simp only [e,swr]
 rw [yao (by omega),yaA (by simp;omega),yao (by omega)]
 simp [hl]
theorem Xs {P A C B Q:List Sp} {i:Nat} {b:Int} (h:A.length=B.length) (hi:i<A.length) (hb:b=P.length+A.length+C.length) (hh:(b+i).toNat<(swr P A C B Q i).length):(swr P A C B Q i)[(b+i).toNat]'hh=B[i]:=by
 subst hb
 have e:((P.length:Int)+A.length+C.length+i).toNat=P.length+(A.length+(C.length+i)):=by omega
 have hl:(A.take i).length=i:=by rw [yag];omega
 have hl2:(B.take i++A.drop i).length=A.length:=by rw [yab,yag,yat];omega
 simp only [e,swr]
 rw [yao (by omega),yao (by omega),yao (by omega),yaA (by simp;omega),yao (by omega)]
 simp [hl,hl2]
theorem Ci {α:Type} {A:List α} {i:Nat} (h:i<A.length):∃ A1 A2,A=A1++A[i]::A2∧A1.length=i :=
 ⟨A.take i,A.drop (i+1),by rw [←yay h,yan],by rw [yag];omega⟩
theorem Tl {P A1 A2 C B1 B2 Q:List Sp} {x y:Sp} {i:Nat} (h1:A1.length=i) (h2:B1.length=i):swr P (A1++x::A2) C (B1++y::B2) Q i=P++((B1++x::A2)++(C++((A1++y::B2)++Q))):=by
 subst h1
 unfold swr
 rw [yaB (by omega),yaa (show B1.length≤A1.length by omega),yaL (yad _),List.drop_length,yaB (yad _),yaE,yaL (by omega),yak (show B1.length≤A1.length by omega)]
 rfl
theorem Vb {P A1 A2 C B1 B2 Q:List Sp} {x y:Sp} {i:Nat} (h1:A1.length=i) (h2:B1.length=i):swr P (A1++x::A2) C (B1++y::B2) Q (i+1)=P++((B1++y::A2)++(C++((A1++x::B2)++Q))):=by
 have:=Tl (P:=P) (A1:=A1++[x]) (A2:=A2) (C:=C) (B1:=B1++[y]) (B2:=B2) (Q:=Q) (x:=x) (y:=y) (i:=i+1) (by simp [h1]) (by simp [h2])
 unfold swr
 rw [show A1++x::A2=(A1++[x])++A2 by simp,show B1++y::B2=(B1++[y])++B2 by simp]
 rw [yaB (by simp;omega),yaa (show (B1++[y]).length≤i+1 by simp;omega),yaL (by simp;omega),yak (show (A1++[x]).length≤i+1 by simp;omega),yaB (by simp;omega),yaa (show (A1++[x]).length≤i+1 by simp;omega),yaL (by simp;omega),yak (show (B1++[y]).length≤i+1 by simp;omega)]
 simp
theorem Ly {X Y Z:List Sp} {u v:Sp} {i:Nat} (hX:X.length=i):((X++u::Y)++Z).set i v=(X++v::Y)++Z:=by
 rw [List.set_append_left _ _ (by simp;omega),yaJ _ _ (by omega),hX,Nat.sub_self];rfl
theorem pO {X Z:List Sp} {k:Nat} {v:Sp}:(X++Z).set (X.length+k) v=X++Z.set k v:=by
 rw [yaJ _ _ (by omega),Nat.add_sub_cancel_left]
theorem Va {P A C B Q:List Sp} {i:Nat} {b:Int} (h:A.length=B.length) (hi:i<A.length) (hb:b=P.length+A.length+C.length) :
  ((swr P A C B Q i).set ((P.length:Int)+i).toNat (B[i]'(by omega))).set (b+i).toNat A[i]=swr P A C B Q (i+1):=by
 have hiB:i<B.length:=by omega
 obtain ⟨A1,A2,hA,hA1⟩:=Ci hi
 obtain ⟨B1,B2,hB,hB1⟩:=Ci hiB
 have e:((P.length:Int)+i).toNat=P.length+i:=by omega
 have e2:(b+i).toNat=P.length+(A.length+(C.length+i)):=by omega
 have hl3:(B1++B[i]::A2).length=A.length:=by
  have:=congrArg List.length hA
  simp at this ⊢;omega
 rw [e,e2,←hl3]
 generalize A[i]=x at *
 generalize B[i]=y at *
 subst hA hB
 rw [Tl hA1 hB1,Vb hA1 hB1,pO,Ly hB1,pO,pO,pO,Ly hA1]
theorem My (P A C B Q:List Sp) (a b:Int) (n:Nat) (hn:n=(P++(A++(C++(B++Q)))).length) (h:n≤100000) (hAB:A.length=B.length) (ha:a=P.length) (hb:b=P.length+A.length+C.length) :
  OkN Tryz.prog 210 [.sl 0 0 n,.i a,.i b,.i A.length,.clo 68 []] [rw2 (P++(A++(C++(B++Q))))] [] (IsA (.tup []) [rw2 (P++(B++(C++(A++Q))))]):=by
 have hlen:n=P.length+A.length+C.length+B.length+Q.length:=by rw [hn];simp;omega
 subst ha
 refine f9 pol [0] lw210 (by simp) ⟨trivial,trivial⟩ (fun k hk hm=>by simp at hk ⊢;omega) ?_
 unfold c210
 simp -implicitDefEqProofs only [rX,aA,Nat.reduceAdd,cxN,aH]
 refine aR (fun i:Nat=>⟨[(10,.i i),(0,.sl 0 0 n),(1,.i P.length),(2,.i b),(3,.i A.length)],[rw2 (swr P A C B Q i)],0⟩) (fun i=>i≤A.length) (fun i=>A.length-i) 0 (yaf _) ?_ ?_
 ·have e0:swr P A C B Q 0=P++(A++(C++(B++Q))):=by simp [swr]
  simp -implicitDefEqProofs only [rX,↓reduceIte,Nat.reduceEqDiff,reduceCtorEq,leE,leH,leB,aC,aB,wfE,wfB,wfV,e0,yax]
 rintro i hi
 have hml:=Qv (P:=P) (A:=A) (C:=C) (B:=B) (Q:=Q) (i:=i) hAB
 unfold c210l0
 simp -implicitDefEqProofs only [rX,↓rY,rdK,aA,cells?,splice,↓reduceIte,Nat.reduceEqDiff,eQ,reduceCtorEq,leE,leH,leB,aC,aB,wfE,wfB,wfV,yae,cG,cQ,lE,oP,nL]
 cases hd:decide ((i:Int)<A.length) with
 | false =>
  have hie:i=A.length:=by have:=of_decide_eq_false hd;omega
  have e0:swr P A C B Q A.length=P++(B++(C++(A++Q))):=by
   unfold swr
   rw [yaa (by omega),yak (by omega),yaa (by omega),yak (by omega)]
   simp
  subst hie
  simp -implicitDefEqProofs only [rX,↓rY,aT,aY,leH,leB,aC,aB,wfB,wfV,wfL,ke,bP,e0]
 | true =>
 have hil:i<A.length:=by have:=of_decide_eq_true hd;omega
 simp -implicitDefEqProofs only [↓rY,kc,hml]
 have h1:∀ hh,(swr P A C B Q i)[((P.length:Int)+i).toNat]'hh=A[i]:=Xt hAB hil
 have h2:∀ hh,(swr P A C B Q i)[(b+i).toNat]'hh=B[i]'(by omega):=Xs hAB hil hb
 refine ⟨by simp only [lo,Fx.hi];omega,by simp only [lo,Fx.hi];omega,by simp only [lo,Fx.hi];omega,by omega,by omega,by simp only [lo,Fx.hi];omega,by omega,by omega,by omega,by omega,by omega,by simp;omega,by simp only [lo,Fx.hi];omega,i+1,⟨by omega,by omega⟩,by omega,?_⟩
 rw [h1,h2]
 exact Hm (Va hAB hil hb)
theorem fV {cx:Cx} {f:FuncId} {args:List V} {e:Env} {b:Nat} {K:V→St→Prop} {L L':List Sp} (xs:List V) (hC:cx.C f xs [rw2 L] [] (IsA (.tup []) [rw2 L'])) (hbn:0∉cx.bn)
  (ha:aG [rw2 L] (pos [0]) args∧wkL xs (aS [rw2 L] (pos [0]) args)) (keep:aC cx.fx [rw2 L']) (h3:K (.tup []) ⟨e,[rw2 L'],b⟩):eX cx f args ⟨e,[rw2 L],b⟩ K:=by
 refine eW [0] xs (.tup []) (.tup []) [rw2 L] [rw2 L'] [rw2 L'] hC ⟨by simp,fun k hk=>?_⟩ rfl ha (by simp) rfl rfl keep h3
 simp at hk
 subst hk
 exact ⟨by simp,hbn⟩
structure Ps (P L R Q p u v q:List Sp):Prop where
 hu:1≤u.length
 hv:1≤v.length
 hp:p.length+u.length=P.length+L.length
 ht:p++(v++(u++q))=P++(R++(L++Q))
abbrev G4:=List Sp × List Sp × List Sp × List Sp
theorem Ps.len {P L R Q p u v q:List Sp} (h:Ps P L R Q p u v q):p.length+v.length+u.length+q.length=P.length+L.length+R.length+Q.length:=by
 have:=congrArg List.length h.ht
 simp at this;omega
theorem Zq (P L R Q:List Sp) (a m b:Int) (n:Nat) (hn:n=(P++(L++(R++Q))).length) (h:n≤100000) (ha:a=P.length) (hm:m=P.length+L.length) (hb:b=P.length+L.length+R.length) (hL:1≤L.length) (hR:1≤R.length) :
  OkN Tryz.prog 181 [.sl 0 0 n,.i a,.i m,.i b,.clo 68 []] [rw2 (P++(L++(R++Q)))] [] (IsA (.tup []) [rw2 (P++(R++(L++Q)))]):=by
 have hlen:n=P.length+L.length+R.length+Q.length:=by rw [hn];simp;omega
 refine f9 pol [0] lw181 (by simp) ⟨trivial,trivial⟩ (fun k hk hm=>by simp at hk ⊢;omega) ?_
 unfold c181
 simp -implicitDefEqProofs only [rX,↓rY,↓reduceIte,Nat.reduceEqDiff,Nat.reduceAdd,reduceCtorEq,cxN,aH]
 refine ⟨by simp only [lo,Fx.hi];omega,by simp only [lo,Fx.hi];omega,?_⟩
 refine aR (fun g:G4=>⟨[(10,.i g.2.1.length),(11,.i g.2.2.1.length),(0,.sl 0 0 n),(2,.i m),(4,.clo 68 [])],[rw2 (g.1++(g.2.1++(g.2.2.1++g.2.2.2)))],0⟩) (fun g=>Ps P L R Q g.1 g.2.1 g.2.2.1 g.2.2.2) (fun g=>g.2.1.length+g.2.2.1.length) (P,L,R,Q) ⟨hL,hR,rfl,rfl⟩ ?_ ?_
 ·simp -implicitDefEqProofs only [rX,↓reduceIte,Nat.reduceEqDiff,reduceCtorEq,leE,leH,leB,aC,aB,wfE,wfB,wfV,wfL]
  refine ⟨?_,?_⟩<;>congr 1<;>omega
 rintro ⟨p,u,v,q⟩ hI
 have hIl:=hI.len
 obtain ⟨hu,hv,hp,ht⟩:=hI
 simp only at hu hv hp ht hIl
 have hnn:n=(p++(u++(v++q))).length:=by simp;omega
 unfold c181l0
 simp -implicitDefEqProofs only [rX,↓rY,↓reduceIte,Nat.reduceEqDiff,reduceCtorEq]
 cases hd:((u.length:Int) != v.length) with
 | false =>
  have huv:u.length=v.length:=by
   have:(u.length:Int)=v.length:=by simpa using hd
   omega
  simp -implicitDefEqProofs only [↓rY,ke]
  refine ⟨by simp only [lo,Fx.hi];omega,?_⟩
  have o:=My p u [] v q (m-u.length) m n (by simpa using hnn) h huv (by omega) (by simp;omega)
  refine fV _ o (by simp) ⟨⟨trivial,trivial,trivial,trivial,trivial,trivial⟩,rfl,rfl,rfl,rfl,⟨rfl,trivial⟩,trivial⟩ ⟨trivial,trivial⟩ ?_
  simp -implicitDefEqProofs only [rX,aT,aY,leH,leB,aC,aB,wfB,wfV,wfL,bP]
  rw [ht]
 | true =>
 have huv:u.length≠v.length:=by
  have:(u.length:Int)≠v.length:=by simpa using hd
  omega
 simp -implicitDefEqProofs only [↓rY,kc]
 cases hd2:decide ((v.length:Int)<u.length) with
 | true =>
  have hlt:v.length<u.length:=by have:=of_decide_eq_true hd2;omega
  have hu2:u=u.take v.length++u.drop v.length:=(yan _ _).symm
  have hu1l:(u.take v.length).length=v.length:=by rw [yag];omega
  have hu2l:(u.drop v.length).length=u.length-v.length:=by rw [yat]
  have o:=My p (u.take v.length) (u.drop v.length) v q (m-u.length) m n (by simp;omega) h hu1l (by omega) (by omega)
  rw [hu1l] at o
  have e1:p++(u.take v.length++(u.drop v.length++(v++q)))=p++(u++(v++q)):=by rw [←yal (u.take _),←hu2]
  rw [e1] at o
  simp only [kc]
  refine ⟨by simp only [lo,Fx.hi];omega,fV _ o (by simp) ⟨⟨trivial,trivial,trivial,trivial,trivial,trivial⟩,rfl,rfl,rfl,rfl,⟨rfl,trivial⟩,trivial⟩ ⟨trivial,trivial⟩ ?_⟩
  simp -implicitDefEqProofs only [rX,↓rY,↓reduceIte,Nat.reduceEqDiff,reduceCtorEq,leE,leH,leB,aC,aB,wfE,wfB,wfV,wfL]
  have hI':Ps P L R Q (p++v) (u.drop v.length) (u.take v.length) q:=by
   refine ⟨by omega,by omega,by rw [yab];omega,?_⟩
   rw [←ht,yal,←yal (u.take _),←hu2]
  refine ⟨by simp only [lo,Fx.hi];omega,(p++v,u.drop v.length,u.take v.length,q),⟨hI',by simp only;omega⟩,⟨by simp only;omega,by simp only;omega⟩,by simp⟩
 | false =>
  have hlt:u.length<v.length:=by have:=of_decide_eq_false hd2;omega
  have hv2:v=v.take (v.length-u.length)++v.drop (v.length-u.length):=(yan _ _).symm
  have hv1l:(v.take (v.length-u.length)).length=v.length-u.length:=by rw [yag];omega
  have hv2l:(v.drop (v.length-u.length)).length=u.length:=by rw [yat];omega
  have o:=My p u (v.take (v.length-u.length)) (v.drop (v.length-u.length)) q (m-u.length) (m+v.length-u.length) n (by simp;omega) h (by omega) (by omega) (by omega)
  have e1:p++(u++(v.take (v.length-u.length)++(v.drop (v.length-u.length)++q)))=p++(u++(v++q)):=by rw [←yal (v.take _),←hv2]
  rw [e1] at o
  simp only [ke]
  refine ⟨by simp only [lo,Fx.hi];omega,by simp only [lo,Fx.hi];omega,by simp only [lo,Fx.hi];omega,fV _ o (by simp) ⟨⟨trivial,trivial,trivial,trivial,trivial,trivial⟩,rfl,rfl,rfl,rfl,⟨rfl,trivial⟩,trivial⟩ ⟨trivial,trivial⟩ ?_⟩
  simp -implicitDefEqProofs only [rX,↓rY,↓reduceIte,Nat.reduceEqDiff,reduceCtorEq,leE,leH,leB,aC,aB,wfE,wfB,wfV,wfL]
  have hI':Ps P L R Q p (v.drop (v.length-u.length)) (v.take (v.length-u.length)) (u++q):=by
   refine ⟨by omega,by omega,by omega,?_⟩
   rw [←ht,←yal (v.take _),←hv2]
  refine ⟨by simp only [lo,Fx.hi];omega,(p,v.drop (v.length-u.length),v.take (v.length-u.length),u++q),⟨hI',by simp only;omega⟩,⟨by simp only;omega,by simp only;omega⟩,rfl⟩
end Go.Fx.H
namespace Go.Fx.H
open Go Go.Fx Go.Proofs Go.Fx.R
set_option maxRecDepth 20000
structure tQ (L R:List Sp):Prop where
 hL:SrL L
 hR:SrL R
 sep:∀ x∈L,∀ y∈R,x.1<y.1
 bd:Bd (L++R)
 dst:Dst (L++R)
def Uj (P L R Q:List Sp):Prop:=∀ (n:Nat) (a m b:Int),n=(P++(L++(R++Q))).length→n≤100000→a=P.length→m=P.length+L.length→b=P.length+L.length+R.length→tQ L R→1≤L.length→1≤R.length →
 OkN Tryz.prog 156 [.sl 0 0 n,.i a,.i m,.i b,.clo 68 []] [rw2 (P++(L++(R++Q)))] [] (IsA (.tup []) [rw2 (P++(bU (L++R)++Q))])
abbrev cM:Cx:=cxN Tryz.prog [0]
theorem c156_parts:c156=.seq (pt 0 c156) (.seq (pt 1 c156) (rt 2 c156)):=by rfl
theorem pN {x:Int} (h0:0≤x) (h:x≤1000000) {K:V→Prop}:bL .shr .u64 (IntKind.u64.wrap x) 1 K=K (.v (.int .u64 (x/2))):=by
 have e:IntKind.u64.wrap x=x:=by rw [wrap64];omega
 rw [e,Xw]
 have e2:(x.fdiv (2 ^ (min (1:Int).toNat 64)))=x/2:=by
  rw [show (2:Int) ^ (min (1:Int).toNat 64)=2 from rfl,Int.fdiv_eq_ediv_of_nonneg _ (by omega)]
 rw [e2]
 exact propext ⟨fun h=>h.2,fun h=>⟨by decide,h⟩⟩
theorem nT {x:Int} (h0:0≤x) (h:x≤1000000):IntKind.i64.wrap (x/2)=x/2:=gK _ _ (by simp only [lo,Fx.hi];omega)
theorem aaW {P S T:List Sp} {x:Sp} {g c:Nat} {k:Int} (hg:g≤S.length) (hc:c<g) (hk:k=P.length+c) (hh:k.toNat<(mid P S x T g).length):(mid P S x T g)[k.toNat]'hh=S[c]'(by omega):=by
 subst hk
 have e:((P.length:Int)+c).toNat=P.length+c:=by omega
 have hl:(S.take g).length=g:=by rw [yag];omega
 simp only [e,mid]
 rw [yaA (by simp;omega),yao (by omega),yaA (by omega)]
 simp
theorem Ty {P S T:List Sp} {x:Sp} {g c:Nat} {k:Int} (hg:g≤c) (hc:c<S.length) (hk:k=P.length+1+c) (hh:k.toNat<(mid P S x T g).length):(mid P S x T g)[k.toNat]'hh=S[c]:=by
 subst hk
 have e:((P.length:Int)+1+c).toNat=P.length+(g+(1+(c-g))):=by omega
 have hl:(S.take g).length=g:=by rw [yag];omega
 have e2:x::S.drop g=[x]++S.drop g:=rfl
 simp only [e,mid,e2]
 rw [yaA (by simp;omega),yao (by omega),yao (by omega),yao (by simp;omega)]
 simp only [hl,List.getElem_drop,yaH]
 congr 1
 omega
theorem Fp {P S T:List Sp} {x:Sp} {g:Nat} {k:Int} (hg:g≤S.length) (hk:k=P.length+g) (hh:k.toNat<(mid P S x T g).length):(mid P S x T g)[k.toNat]'hh=x:=by
 subst hk
 exact Nm hg hh
theorem Ig {P S T:List Sp} {x:Sp} {g:Nat}:(mid P S x T g).length=P.length+S.length+1+T.length:=by
 have:(S.take g).length+(S.drop g).length=S.length:=by rw [←yab,yan]
 unfold mid
 simp only [yab,yaQ]
 omega
theorem Wl {P S T:List Sp} {x:Sp} {g:Nat} {k k1:Int} (hS:g<S.length) (hk:k=P.length+g) (hk1:k1=P.length+g+1):((mid P S x T g).set k.toNat S[g]).set k1.toNat x=mid P S x T (g+1):=by
 subst hk hk1
 have hl:(S.take g).length=g:=by rw [yag];omega
 have e1:((P.length:Int)+g).toNat=(P++S.take g).length:=by rw [yab,hl];omega
 have e2:((P.length:Int)+g+1).toNat=(P++S.take g).length+1:=by rw [yab,hl];omega
 have e3:S.take (g+1)=S.take g++[S[g]]:=by rw [yap,yai hS];rfl
 have e4:mid P S x T g=(P++S.take g)++x::S[g]::(S.drop (g+1)++T):=by
  unfold mid;rw [yay hS];simp only [yal,yaR]
 have e5:mid P S x T (g+1)=(P++S.take g)++S[g]::x::(S.drop (g+1)++T):=by
  unfold mid;rw [e3];simp only [yal,yaR,yaF]
 rw [e1,e2,e4,e5]
 exact Lx
theorem tU {R:List Sp} {x y:Sp} {h:Nat} (hR:SrL R) (hy:R[h]?=some y) (hl:lt y x):∀ z∈R.take (h+1),lt z x:=by
 intro z hz
 rw [yap,hy] at hz
 rcases yaw.1 hz with hz|hz
 ·refine nG ?_ hl
  have h0:=hR
  rw [←yan h R] at h0
  refine (yaz.1 h0).2.2 z hz _ ?_
  exact List.mem_of_getElem? (i:=0) (by rw [List.getElem?_drop];exact hy)
 ·simp at hz;subst hz;exact hl
theorem uD {R:List Sp} {x y:Sp} {h:Nat} (hR:SrL R) (hy:R[h]?=some y) (hl:lt x y):∀ z∈R.drop h,lt x z:=by
 intro z hz
 obtain ⟨hh,rfl⟩:=List.getElem?_eq_some_iff.1 hy
 rw [yay hh] at hz
 rcases yaI.1 hz with rfl|hz
 ·exact hl
 ·refine nG hl ?_
  have h0:=hR
  rw [←yan h R,yay hh] at h0
  exact (yau.1 (yaz.1 h0).2.1).1 z hz
theorem uO {l m:List Sp} (h:l.Perm m) (hd:Dst m):bU l=bU m:=by
 have hd':Dst l:=nM hd h.symm
 exact tV (gS hd) (bW.trans h.symm) hd'
section
variable {P L R Q:List Sp} {x:Sp} {n:Nat} {a m b:Int} {N Z:St→Prop} {X:Nat→St→Prop} {e:Env} {bb:Nat}
structure Sz (n:Nat) (a m b:Int) (e:Env):Prop where
 e0:get e 0=.sl 0 0 n
 e1:get e 1=.i a
 e2:get e 2=.i m
 e3:get e 3=.i b
 e4:get e 4=.clo 68 []
theorem Vp (hn:n=(P++(L++(R++Q))).length) (h:n≤100000) (ha:a=P.length) (hm:m=P.length+L.length) (hb:b=P.length+L.length+R.length) (hI:tQ L R) (hL:1≤L.length) (hR:1≤R.length)
  (hE:Sz n a m b e) (hN:∀ e b',Sz n a m b e→2≤L.length→N ⟨e,[rw2 (P++(L++(R++Q)))],b'⟩) (hZ:∀ e b',Z ⟨e,[rw2 (P++(bU (L++R)++Q))],b'⟩) :
  aw cM (pt 0 c156) N X Z ⟨e,[rw2 (P++(L++(R++Q)))],bb⟩:=by
 obtain ⟨e0,e1,e2,e3,e4⟩:=hE
 have hlen:n=P.length+L.length+R.length+Q.length:=by rw [hn];simp;omega
 conv=>arg 2;whnf
 simp -implicitDefEqProofs only [rX,↓rY,aA,↓reduceIte,Nat.reduceEqDiff,cxN,e1,e2,e3]
 refine ⟨by simp only [lo,Fx.hi];omega,?_⟩
 cases hd:(m-a==1) with
 | false =>
  have:m-a≠1:=by simpa using hd
  simp -implicitDefEqProofs only [↓rY,ke]
  exact hN _ _ ⟨e0,e1,e2,e3,e4⟩ (by omega)
 | true =>
 have h1:L.length=1:=by
  have:m-a=1:=by simpa using hd
  omega
 obtain ⟨x,rfl⟩:∃ x,L=[x]:=by
  match L,h1 with
  | [x],_=>exact ⟨x,rfl⟩
 have e9:P++([x]++(R++Q))=mid P R x Q 0:=by simp [mid]
 rw [e9]
 have hml:=fun g=>Ig (P:=P) (S:=R) (T:=Q) (x:=x) (g:=g)
 have hxb:BdS x:=hI.bd x (by simp)
 simp -implicitDefEqProofs only [↓rY,kc]
 refine aR (fun g:Nat × Nat=>⟨[(10,.i (m+g.1)),(11,.i (m+g.2)),(0,.sl 0 0 n),(1,.i a),(4,.clo 68 [])],[rw2 (mid P R x Q 0)],bb⟩) (fun g=>g.1≤g.2∧g.2≤R.length∧(g.1=0∨∃ y,R[g.1-1]?=some y∧lt y x)∧(g.2=R.length∨∃ y,R[g.2]?=some y∧lt x y)) (fun g=>g.2-g.1) (0,R.length) ⟨yaf _,yad _,.inl rfl,.inl rfl⟩ ?_ ?_
 ·simp -implicitDefEqProofs only [rX,↓reduceIte,Nat.reduceEqDiff,reduceCtorEq,leE,leH,leB,aC,aB,wfE,wfB,wfV,wfL,e0,e1,e4]
  simp only [yaH] at *
  exact ⟨by omega,by omega⟩
 rintro ⟨i,j⟩ ⟨hij,hj,hi1,hj1⟩
 simp only [yaH] at hij hj hi1 hj1 hm hb hlen
 unfold c156l0
 simp -implicitDefEqProofs only [rX,↓rY,aA,↓reduceIte,Nat.reduceEqDiff,eQ,reduceCtorEq,yae,cG,cQ]
 cases hd2:decide (m+(i:Int)<m+j) with
 | false =>
  have hij2:i=j:=by have:=of_decide_eq_false hd2;omega
  subst hij2
  simp -implicitDefEqProofs only [↓rY,ke]
  have hlow:∀ z∈R.take i,lt z x:=by
   rcases hi1 with h0|⟨y,hy,hl⟩
   ·subst h0;simp
   ·rcases yas i with h0|h0
    ·subst h0;simp
    ·rw [show i=i-1+1 by omega];exact tU hI.hR hy hl
  have hhigh:∀ z∈R.drop i,lt x z:=by
   rcases hj1 with h0|⟨y,hy,hl⟩
   ·rw [yak (by omega)];simp
   ·exact uD hI.hR hy hl
  have hres:rw2 (mid P R x Q i)=rw2 (P++(bU ([x]++R)++Q)):=by
   have hd':Dst (R++[x]):=nM hI.dst ybw
   rw [uO (m:=R++[x]) ybw hd',vW hI.hR (.refl _) hd' hhigh hlow]
   simp [mid]
  refine aR (fun t:Nat=>⟨[(13,.i (a+t)),(10,.i (m+i)),(0,.sl 0 0 n)],[rw2 (mid P R x Q t)],bb⟩) (fun t=>t≤i) (fun t=>i-t) 0 (yaf _) ?_ ?_
  ·simp -implicitDefEqProofs only [rX,↓reduceIte,Nat.reduceEqDiff,reduceCtorEq,leE,leH,leB,aC,aB,wfE,wfB,wfV,yax,Int.add_zero]
  rintro t ht
  unfold c156l1
  simp -implicitDefEqProofs only [rX,↓rY,rdK,aA,cells?,splice,↓reduceIte,Nat.reduceEqDiff,eQ,reduceCtorEq,leE,leH,leB,aC,aB,wfE,wfB,wfV,yae,cG,cQ,lE,oP,nL]
  refine ⟨by simp only [lo,Fx.hi];omega,?_⟩
  cases hd3:decide (a+(t:Int)<m+i-1) with
  | false =>
   have hti:t=i:=by have:=of_decide_eq_false hd3;omega
   subst hti
   simp -implicitDefEqProofs only [↓rY,ke]
   rw [hres]
   exact hZ _ _
  | true =>
   have hti:t<R.length:=by have:=of_decide_eq_true hd3;omega
   have hti2:t<i:=by have:=of_decide_eq_true hd3;omega
   simp -implicitDefEqProofs only [↓rY,kc,hml]
   have h1:∀ hh,(mid P R x Q t)[(a+(t:Int)).toNat]'hh=x:=Fp (by omega) (by omega)
   have h2:∀ hh,(mid P R x Q t)[(a+(t:Int)+1).toNat]'hh=R[t]:=Ty (yad _) hti (by omega)
   refine ⟨by simp only [lo,Fx.hi];omega,by simp only [lo,Fx.hi];omega,by omega,by omega,by omega,by omega,by omega,by omega,by omega,by simp [hml];omega,by simp only [lo,Fx.hi];omega,t+1,⟨by omega,by omega⟩,by omega,?_⟩
   rw [h1,h2]
   exact Hm (Wl hti (by omega) (by omega))
 | true =>
 have hij2:i<j:=by have:=of_decide_eq_true hd2;omega
 have hc:(m+(i:Int)+(m+j))/2=m+((i+j)/2:Nat):=by omega
 generalize hcc:(i+j)/2=c at hc
 have hcR:c<R.length:=by omega
 simp -implicitDefEqProofs only [↓rY,kc]
 rw [pN (by omega) (by omega),hc]
 have hw:IntKind.i64.wrap (m+(c:Int))=m+c:=by rw [←hc];exact nT (by omega) (by omega)
 simp -implicitDefEqProofs only [rX,hw,hml]
 refine ⟨by simp only [lo,Fx.hi];omega,by omega,by omega,by omega,by omega,?_⟩
 have h1:∀ hh,(mid P R x Q 0)[(m+(c:Int)).toNat]'hh=R[c]:=Ty (yaf _) hcR (by omega)
 have h2:∀ hh,(mid P R x Q 0)[a.toNat]'hh=x :=
  Fp (yaf _) (by omega)
 rw [h1,h2]
 have hyb:BdS R[c]:=hI.bd _ (by simp)
 have hsep:=hI.sep x (by simp) R[c] (yam hcR)
 refine aE (Rj R[c] x hyb hxb) ⟨⟨⟨trivial,trivial,trivial⟩,⟨trivial,trivial,trivial⟩,trivial⟩,⟨rfl,rfl,trivial⟩,⟨rfl,rfl,trivial⟩,trivial⟩ rfl ⟨trivial,trivial⟩ ?_
 have hcm:decide (Bj R[c] x<0)=decide (lt R[c] x):=by
  unfold Bj lt
  exact decide_eq_decide.2 (by omega)
 have hcy:R[c]?=some R[c]:=yai hcR
 simp -implicitDefEqProofs only [rX,↓rY,aA,↓reduceIte,Nat.reduceEqDiff,reduceCtorEq,leE,leH,leB,aC,aB,wfE,wfB,wfV,wfL,hcm]
 cases hd3:decide (lt R[c] x) with
 | true =>
  have hl3:lt R[c] x:=of_decide_eq_true hd3
  simp only [kc]
  refine ⟨by simp only [lo,Fx.hi];omega,(c+1,j),⟨⟨by simp only;omega,hj,.inr ⟨R[c],hcy,hl3⟩,hj1⟩,by simp only;omega⟩,by simp only;omega,rfl⟩
 | false =>
  have hl3:lt x R[c]:=(vN (.inl hsep)).resolve_right (of_decide_eq_false hd3)
  simp only [ke]
  refine ⟨(i,c),⟨⟨by simp only;omega,by simp only;omega,hi1,.inr ⟨R[c],hcy,hl3⟩⟩,by simp only;omega⟩,rfl,rfl⟩
theorem Vo (hn:n=(P++(L++(R++Q))).length) (h:n≤100000) (ha:a=P.length) (hm:m=P.length+L.length) (hb:b=P.length+L.length+R.length) (hI:tQ L R) (hL:1≤L.length) (hR:1≤R.length)
  (hE:Sz n a m b e) (hN:∀ e b',Sz n a m b e→2≤R.length→N ⟨e,[rw2 (P++(L++(R++Q)))],b'⟩) (hZ:∀ e b',Z ⟨e,[rw2 (P++(bU (L++R)++Q))],b'⟩) :
  aw cM (pt 1 c156) N X Z ⟨e,[rw2 (P++(L++(R++Q)))],bb⟩:=by
 obtain ⟨e0,e1,e2,e3,e4⟩:=hE
 have hlen:n=P.length+L.length+R.length+Q.length:=by rw [hn];simp;omega
 conv=>arg 2;whnf
 simp -implicitDefEqProofs only [rX,↓rY,aA,↓reduceIte,Nat.reduceEqDiff,cxN,e1,e2,e3]
 refine ⟨by simp only [lo,Fx.hi];omega,?_⟩
 cases hd:(b-m==1) with
 | false =>
  have:b-m≠1:=by simpa using hd
  simp -implicitDefEqProofs only [↓rY,ke]
  exact hN _ _ ⟨e0,e1,e2,e3,e4⟩ (by omega)
 | true =>
 have h1:R.length=1:=by
  have:b-m=1:=by simpa using hd
  omega
 obtain ⟨x,rfl⟩:∃ x,R=[x]:=by
  match R,h1 with
  | [x],_=>exact ⟨x,rfl⟩
 have e9:P++(L++([x]++Q))=mid P L x Q L.length:=by simp [mid]
 rw [e9]
 have hml:=fun g=>Ig (P:=P) (S:=L) (T:=Q) (x:=x) (g:=g)
 have hxb:BdS x:=hI.bd x (by simp)
 simp -implicitDefEqProofs only [↓rY,kc]
 refine aR (fun g:Nat × Nat=>⟨[(14,.i (a+g.1)),(15,.i (a+g.2)),(0,.sl 0 0 n),(2,.i m),(4,.clo 68 [])],[rw2 (mid P L x Q L.length)],bb⟩) (fun g=>g.1≤g.2∧g.2≤L.length∧(g.1=0∨∃ y,L[g.1-1]?=some y∧lt y x)∧(g.2=L.length∨∃ y,L[g.2]?=some y∧lt x y)) (fun g=>g.2-g.1) (0,L.length) ⟨yaf _,yad _,.inl rfl,.inl rfl⟩ ?_ ?_
 ·simp -implicitDefEqProofs only [rX,↓reduceIte,Nat.reduceEqDiff,reduceCtorEq,leE,leH,leB,aC,aB,wfE,wfB,wfV,wfL,e0,e2,e4]
  exact ⟨by omega,by omega⟩
 rintro ⟨i,j⟩ ⟨hij,hj,hi1,hj1⟩
 simp only [yaH] at hij hj hi1 hj1 hm hb hlen
 unfold c156l2
 simp -implicitDefEqProofs only [rX,↓rY,aA,↓reduceIte,Nat.reduceEqDiff,eQ,reduceCtorEq,yae,cG,cQ]
 cases hd2:decide (a+(i:Int)<a+j) with
 | false =>
  have hij2:i=j:=by have:=of_decide_eq_false hd2;omega
  subst hij2
  simp -implicitDefEqProofs only [↓rY,ke]
  have hlow:∀ z∈L.take i,lt z x:=by
   rcases hi1 with h0|⟨y,hy,hl⟩
   ·subst h0;simp
   ·rcases yas i with h0|h0
    ·subst h0;simp
    ·rw [show i=i-1+1 by omega];exact tU hI.hL hy hl
  have hhigh:∀ z∈L.drop i,lt x z:=by
   rcases hj1 with h0|⟨y,hy,hl⟩
   ·rw [yak (by omega)];simp
   ·exact uD hI.hL hy hl
  have hres:rw2 (mid P L x Q i)=rw2 (P++(bU (L++[x])++Q)):=by
   rw [vW hI.hL (.refl _) hI.dst hhigh hlow]
   simp [mid]
  refine aR (fun t:Nat=>⟨[(17,.i (P.length+t)),(14,.i (a+i)),(0,.sl 0 0 n)],[rw2 (mid P L x Q t)],bb⟩) (fun t=>i≤t∧t≤L.length) (fun t=>t-i) L.length ⟨hj,yad _⟩ ?_ ?_
  ·simp -implicitDefEqProofs only [rX,↓reduceIte,Nat.reduceEqDiff,reduceCtorEq,leE,leH,leB,aC,aB,wfE,wfB,wfV]
   omega
  rintro t ⟨hit,ht⟩
  unfold c156l3
  simp -implicitDefEqProofs only [rX,↓rY,rdK,aA,cells?,splice,↓reduceIte,Nat.reduceEqDiff,eQ,reduceCtorEq,leE,leH,leB,aC,aB,wfE,wfB,wfV,yae,cG,cQ,lE,oP,nL]
  cases hd3:decide (a+(i:Int)<P.length+t) with
  | false =>
   have hti:t=i:=by have:=of_decide_eq_false hd3;omega
   subst hti
   simp -implicitDefEqProofs only [↓rY,ke]
   rw [hres]
   exact hZ _ _
  | true =>
   have hti2:i<t:=by have:=of_decide_eq_true hd3;omega
   have hti:t-1<L.length:=by omega
   have h1:∀ hh,(mid P L x Q t)[((P.length:Int)+t).toNat]'hh=x:=Nm ht
   have h2:∀ hh,(mid P L x Q t)[((P.length:Int)+t-1).toNat]'hh=L[t-1]:=Tz (by omega) hti
   simp -implicitDefEqProofs only [↓rY,kc,hml,h1,h2]
   refine ⟨by simp only [lo,Fx.hi];omega,by simp only [lo,Fx.hi];omega,by omega,by omega,by omega,by omega,by omega,by omega,by omega,by simp [hml];omega,by simp only [lo,Fx.hi];omega,t-1,⟨⟨by omega,by omega⟩,by omega⟩,by omega,?_⟩
   exact Hm (No (by omega) hti)
 | true =>
 have hij2:i<j:=by have:=of_decide_eq_true hd2;omega
 have hc:(a+(i:Int)+(a+j))/2=a+((i+j)/2:Nat):=by omega
 generalize hcc:(i+j)/2=c at hc
 have hcR:c<L.length:=by omega
 simp -implicitDefEqProofs only [↓rY,kc]
 rw [pN (by omega) (by omega),hc]
 have hw:IntKind.i64.wrap (a+(c:Int))=a+c:=by rw [←hc];exact nT (by omega) (by omega)
 simp -implicitDefEqProofs only [rX,hw,hml]
 refine ⟨by simp only [lo,Fx.hi];omega,by omega,by omega,by omega,by omega,?_⟩
 have h1:∀ hh,(mid P L x Q L.length)[(a+(c:Int)).toNat]'hh=L[c]:=aaW (yad _) hcR (by omega)
 have h2:∀ hh,(mid P L x Q L.length)[m.toNat]'hh=x:=Fp (yad _) (by omega)
 rw [h1,h2]
 have hyb:BdS L[c]:=hI.bd _ (by simp)
 have hsep:=hI.sep L[c] (yam hcR) x (by simp)
 refine aE (Rj x L[c] hxb hyb) ⟨⟨⟨trivial,trivial,trivial⟩,⟨trivial,trivial,trivial⟩,trivial⟩,⟨rfl,rfl,trivial⟩,⟨rfl,rfl,trivial⟩,trivial⟩ rfl ⟨trivial,trivial⟩ ?_
 have hcm:decide (Bj x L[c]<0)=decide (lt x L[c]):=by
  unfold Bj lt
  exact decide_eq_decide.2 (by omega)
 have hcy:L[c]?=some L[c]:=yai hcR
 simp -implicitDefEqProofs only [rX,↓rY,aA,↓reduceIte,Nat.reduceEqDiff,reduceCtorEq,leE,leH,leB,aC,aB,wfE,wfB,wfV,wfL,hcm]
 cases hd3:decide (lt x L[c]) with
 | false =>
  have hl3:lt L[c] x:=(vN (.inl hsep)).resolve_right (of_decide_eq_false hd3)
  simp only [yaT,kc]
  refine ⟨by simp only [lo,Fx.hi];omega,(c+1,j),⟨⟨by simp only;omega,hj,.inr ⟨L[c],hcy,hl3⟩,hj1⟩,by simp only;omega⟩,by simp only;omega,rfl⟩
 | true =>
  have hl3:lt x L[c]:=of_decide_eq_true hd3
  simp only [yaP,ke]
  refine ⟨(i,c),⟨⟨by simp only;omega,by simp only;omega,hi1,.inr ⟨L[c],hcy,hl3⟩⟩,by simp only;omega⟩,rfl,rfl⟩
end
end Go.Fx.H
namespace Go.Fx.H
open Go Go.Fx Go.Proofs Go.Fx.R
set_option maxRecDepth 20000
section
variable {L R:List Sp} {s e:Nat}
theorem adL (hI:tQ L R) (hs:s≤L.length) (he:e≤R.length) (b1:s=0∨e=R.length∨∃ x y,L[s-1]?=some x∧R[e]?=some y∧lt x y) (b2:e=0∨s=L.length∨∃ x y,R[e-1]?=some x∧L[s]?=some y∧lt x y) :
  bU (L++R)=bU (L.take s++R.take e)++bU (L.drop s++R.drop e):=by
 have hp:((L.take s++R.take e)++(L.drop s++R.drop e)).Perm (L++R):=by
  refine List.perm_iff_count.2 fun a=>?_
  have h1:=congrArg (List.count a) (yan s L)
  have h2:=congrArg (List.count a) (yan e R)
  simp only [List.count_append] at *
  omega
 have hd:Dst ((L.take s++R.take e)++(L.drop s++R.drop e)):=nM hI.dst hp.symm
 obtain ⟨hd1,hd2,-⟩:=yaz.1 hd
 have c1:∀ u∈L.take s,∀ v∈R.drop e,lt u v:=by
  intro u hu v hv
  rcases b1 with h|h|⟨x,y,hx,hy,hl⟩
  ·subst h;simp at hu
  ·rw [yak (by omega)] at hv;simp at hv
  ·have h0:1≤s:=by
    rcases yas s with h|h
    ·subst h;simp at hu
    ·exact h
   exact uD hI.hR hy (tU hI.hL hx hl u (by rwa [show s-1+1=s by omega])) v hv
 have c2:∀ u∈R.take e,∀ v∈L.drop s,lt u v:=by
  intro u hu v hv
  rcases b2 with h|h|⟨x,y,hx,hy,hl⟩
  ·subst h;simp at hu
  ·rw [yak (by omega)] at hv;simp at hv
  ·have h0:1≤e:=by
    rcases yas e with h|h
    ·subst h;simp at hu
    ·exact h
   exact uD hI.hL hy (tU hI.hR hx hl u (by rwa [show e-1+1=e by omega])) v hv
 have c3:∀ u∈L.take s,∀ v∈L.drop s,lt u v:=by
  have h0:=hI.hL
  rw [←yan s L] at h0
  exact (yaz.1 h0).2.2
 have c4:∀ u∈R.take e,∀ v∈R.drop e,lt u v:=by
  have h0:=hI.hR
  rw [←yan e R] at h0
  exact (yaz.1 h0).2.2
 refine tV (yaz.2 ⟨gS hd1,gS hd2,fun u hu v hv=>?_⟩) ((bW.append bW).trans hp) hI.dst
 have hu':=bW.mem_iff.1 hu
 have hv':=bW.mem_iff.1 hv
 rcases yaw.1 hu' with hu'|hu'<;>rcases yaw.1 hv' with hv'|hv'
 ·exact c3 u hu' v hv'
 ·exact c1 u hu' v hv'
 ·exact c2 u hu' v hv'
 ·exact c4 u hu' v hv'
theorem tQ.sub {L' R':List Sp} (h:tQ L R) (h1:L'.Sublist L) (h2:R'.Sublist R):tQ L' R' :=
 ⟨h.hL.sublist h1,h.hR.sublist h2,fun x hx y hy=>h.sep x (h1.mem hx) y (h2.mem hy),fun x hx=>h.bd x ((h1.append h2).mem hx),h.dst.sublist (h1.append h2)⟩
theorem tW {l:List Sp} (h:SrL l) (hd:Dst l):bU l=l:=tV h (.refl _) hd
end
theorem aeU {P L R Q:List Sp} {c:Nat} {k:Int} (hc:c<L.length) (hk:k=P.length+c) (hh:k.toNat<(P++(L++(R++Q))).length):(P++(L++(R++Q)))[k.toNat]'hh=L[c]:=by
 subst hk
 have e:((P.length:Int)+c).toNat=P.length+c:=by omega
 simp only [e]
 rw [yao (by omega),yaA (by omega)]
 simp
theorem aeT {P L R Q:List Sp} {c:Nat} {k:Int} (hc:c<R.length) (hk:k=P.length+L.length+c) (hh:k.toNat<(P++(L++(R++Q))).length):(P++(L++(R++Q)))[k.toNat]'hh=R[c]:=by
 subst hk
 have e:((P.length:Int)+L.length+c).toNat=P.length+(L.length+c):=by omega
 simp only [e]
 rw [yao (by omega),yao (by omega),yaA (by omega)]
 simp
theorem c156_parts2:rt 2 c156=.seq (pt 2 c156) (.seq (pt 3 c156) (.seq (pt 4 c156) (.seq (pt 5 c156) (.seq (pt 6 c156) (.seq (pt 7 c156) (.seq (pt 8 c156) (.seq (pt 9 c156) (.seq (pt 10 c156) (rt 11 c156))))))))):=by rfl
section
variable {P L R Q:List Sp} {n w:Nat} {a m b:Int} {N Z:St→Prop} {X:Nat→St→Prop} {e:Env} {bb:Nat}
structure E2 (n:Nat) (a m b:Int) (w:Nat) (e:Env):Prop where
 e0:get e 0=.sl 0 0 n
 e1:get e 1=.i a
 e2:get e 2=.i m
 e3:get e 3=.i b
 e4:get e 4=.clo 68 []
 e18:get e 18=.i (a+w)
 e19:get e 19=.i (a+w+m)
def B1 (L R:List Sp) (w lo i:Nat):Prop:=i=lo∨∃ x y,L[i-1]?=some x∧R[w-i]?=some y∧lt x y
def B2 (L R:List Sp) (w hi j:Nat):Prop:=j=hi∨∃ x y,R[w-1-j]?=some x∧L[j]?=some y∧lt x y
theorem Vn (hn:n=(P++(L++(R++Q))).length) (h:n≤100000) (ha:a=P.length) (hm:m=P.length+L.length) (hb:b=P.length+L.length+R.length) (hI:tQ L R) (hL:1≤L.length) (hR:1≤R.length) (hw:(L.length+R.length)/2=w)
  (hE:E2 n a m b w e) (e20:get e 20=.i (a+(w-R.length:Nat))) (e21:get e 21=.i (a+(min w L.length:Nat))) (e22:get e 22=.i (a+w+m-1))
  (hN:∀ e b' s,E2 n a m b w e→get e 20=.i (a+(s:Nat))→s≤w→w-R.length≤s→s≤L.length→B1 L R w (w-R.length) s→B2 L R w (min w L.length) s→N ⟨e,[rw2 (P++(L++(R++Q)))],b'⟩) :
  aw cM (pt 7 c156) N X Z ⟨e,[rw2 (P++(L++(R++Q)))],bb⟩:=by
 obtain ⟨e0,e1,e2,e3,e4,e18,e19⟩:=hE
 have hlen:n=P.length+L.length+R.length+Q.length:=by rw [hn];simp;omega
 conv=>arg 2;whnf
 simp -implicitDefEqProofs only [rX,cxN]
 refine aR (fun g:Nat × Nat=>⟨[(20,.i (a+g.1)),(21,.i (a+g.2)),(22,.i (a+w+m-1)),(0,.sl 0 0 n),(1,.i a),(2,.i m),(3,.i b),(4,.clo 68 []),(18,.i (a+w)),(19,.i (a+w+m))],[rw2 (P++(L++(R++Q)))],bb⟩) (fun g=>w-R.length≤g.1∧g.1≤g.2∧g.2≤min w L.length∧B1 L R w (w-R.length) g.1∧B2 L R w (min w L.length) g.2) (fun g=>g.2-g.1) (w-R.length,min w L.length) ⟨yad _,by simp only;omega,yad _,.inl rfl,.inl rfl⟩ ?_ ?_
 ·simp -implicitDefEqProofs only [rX,leE,leH,leB,aC,aB,wfE,wfB,wfV,wfL,e0,e1,e2,e3,e4,e18,e19,e20,e21,e22]
 rintro ⟨i,j⟩ ⟨hi0,hij,hj,hi1,hj1⟩
 simp only at hi0 hij hj hi1 hj1
 unfold c156l4
 simp -implicitDefEqProofs only [rX,↓rY,aA,↓reduceIte,Nat.reduceEqDiff,eQ,reduceCtorEq,yae,cG,cQ]
 cases hd2:decide (a+(i:Int)<a+j) with
 | false =>
  have hij2:i=j:=by have:=of_decide_eq_false hd2;omega
  subst hij2
  simp -implicitDefEqProofs only [↓rY,ke]
  exact hN _ _ i ⟨rfl,rfl,rfl,rfl,rfl,rfl,rfl⟩ rfl (by omega) (by omega) (by omega) hi1 hj1
 | true =>
 have hij2:i<j:=by have:=of_decide_eq_true hd2;omega
 have hc:(a+(i:Int)+(a+j))/2=a+((i+j)/2:Nat):=by omega
 generalize hcc:(i+j)/2=c at hc
 have hcL:c<L.length:=by omega
 have hcR:w-1-c<R.length:=by omega
 simp -implicitDefEqProofs only [↓rY,kc]
 rw [pN (by omega) (by omega),hc]
 have hw2:IntKind.i64.wrap (a+(c:Int))=a+c:=by rw [←hc];exact nT (by omega) (by omega)
 simp -implicitDefEqProofs only [rX,hw2]
 refine ⟨by simp only [lo,Fx.hi];omega,by simp only [lo,Fx.hi];omega,by omega,by omega,by omega,by omega,?_⟩
 have h1:∀ hh,(P++(L++(R++Q)))[(a+(w:Int)+m-1-(a+c)).toNat]'hh=R[w-1-c]:=aeT hcR (by omega)
 have h2:∀ hh,(P++(L++(R++Q)))[(a+(c:Int)).toNat]'hh=L[c]:=aeU hcL (by omega)
 rw [h1,h2]
 have hyb:BdS R[w-1-c]:=hI.bd _ (by simp)
 have hxb:BdS L[c]:=hI.bd _ (by simp)
 have hsep:=hI.sep L[c] (yam hcL) R[w-1-c] (yam hcR)
 refine aE (Rj R[w-1-c] L[c] hyb hxb) ⟨⟨⟨trivial,trivial,trivial⟩,⟨trivial,trivial,trivial⟩,trivial⟩,⟨rfl,rfl,trivial⟩,⟨rfl,rfl,trivial⟩,trivial⟩ rfl ⟨trivial,trivial⟩ ?_
 have hcm:decide (Bj R[w-1-c] L[c]<0)=decide (lt R[w-1-c] L[c]):=by
  unfold Bj lt
  exact decide_eq_decide.2 (by omega)
 have hcy:L[c]?=some L[c]:=yai hcL
 have hcz:R[w-1-c]?=some R[w-1-c]:=yai hcR
 simp -implicitDefEqProofs only [rX,↓rY,aA,↓reduceIte,Nat.reduceEqDiff,reduceCtorEq,leE,leH,leB,aC,aB,wfE,wfB,wfV,wfL,hcm]
 cases hd3:decide (lt R[w-1-c] L[c]) with
 | false =>
  have hl3:lt L[c] R[w-1-c]:=(vN (.inl hsep)).resolve_right (of_decide_eq_false hd3)
  simp only [yaT,kc]
  refine ⟨by simp only [lo,Fx.hi];omega,(c+1,j),⟨⟨by simp only;omega,by simp only;omega,hj,.inr ⟨L[c],R[w-1-c],hcy,?_,hl3⟩,hj1⟩,by simp only;omega⟩,by simp only;omega,rfl⟩
  rw [←hcz];congr 1;omega
 | true =>
  have hl3:lt R[w-1-c] L[c]:=of_decide_eq_true hd3
  simp only [yaP,ke]
  refine ⟨(i,c),⟨⟨by simp only;omega,by simp only;omega,by simp only;omega,hi1,.inr ⟨R[w-1-c],L[c],hcz,hcy,hl3⟩⟩,by simp only;omega⟩,rfl,rfl⟩
theorem Mf (hn:n=(P++(L++(R++Q))).length) (h:n≤100000) (ha:a=P.length) (hm:m=P.length+L.length) (hb:b=P.length+L.length+R.length) (hI:tQ L R) (hL:2≤L.length) (hR:2≤R.length) (hw:(L.length+R.length)/2=w)
  (ih:∀ z',z'<L.length+R.length→∀ P L R Q,L.length+R.length=z'→Uj P L R Q)
  (hE:E2 n a m b w e) (e20:get e 20=.i (a+(w-R.length:Nat))) (e21:get e 21=.i (a+(min w L.length:Nat)))
  (hN:∀ e b',N ⟨e,[rw2 (P++(bU (L++R)++Q))],b'⟩) :
  aw cM (pt 6 c156) (fun s'=>aw cM (.seq (pt 7 c156) (.seq (pt 8 c156) (.seq (pt 9 c156) (.seq (pt 10 c156) (rt 11 c156))))) N X Z s') X Z ⟨e,[rw2 (P++(L++(R++Q)))],bb⟩:=by
 have hE':=hE
 obtain ⟨e0,e1,e2,e3,e4,e18,e19⟩:=hE
 have hlen:n=P.length+L.length+R.length+Q.length:=by rw [hn];simp;omega
 conv=>arg 2;whnf
 simp -implicitDefEqProofs only [rX,↓rY,aA,↓reduceIte,cxN,e19]
 refine ⟨by simp only [lo,Fx.hi];omega,?_⟩
 refine Vn hn h ha hm hb hI (by omega) (by omega) hw ⟨e0,e1,e2,e3,e4,e18,e19⟩ e20 e21 rfl ?_
 rintro e b' s ⟨e0,e1,e2,e3,e4,e18,e19⟩ e20 hs1 hs2 hs3 hB1 hB2
 have e24:a+(w:Int)+m-(a+s)=m+(w-s:Nat):=by omega
 obtain ⟨t,ht⟩:∃ t,w-s=t:=⟨_,rfl⟩
 rw [ht] at e24
 have htR:t≤R.length:=by omega
 have hspl:=adL (s:=s) (e:=t) hI hs3 htR (by
  rcases hB1 with h1|⟨x,y,h1,h2,h3⟩
  ·rcases yas s with h4|h4
   ·exact .inl h4
   ·exact .inr (.inl (by omega))
  ·exact .inr (.inr ⟨x,y,h1,by rw [←ht];exact h2,h3⟩)) (by
  rcases hB2 with h1|⟨x,y,h1,h2,h3⟩
  ·rcases yas t with h4|h4
   ·exact .inl h4
   ·exact .inr (.inl (by omega))
  ·refine .inr (.inr ⟨x,y,?_,h2,h3⟩)
   rw [←h1];congr 1;omega)
 have hL12:=yan s L
 have hR12:=yan t R
 have iA:tQ (L.take s) (R.take t):=hI.sub (yaK s L) (yaK t R)
 have iB:tQ (L.drop s) (R.drop t):=hI.sub (yaU s L) (yaU t R)
 have lL1:(L.take s).length=s:=by rw [yag];omega
 have lL2:(L.drop s).length=L.length-s:=yat
 have lR1:(R.take t).length=t:=by rw [yag];omega
 have lR2:(R.drop t).length=R.length-t:=yat
 have hin:rw2 (P++(L++(R++Q)))=rw2 ((P++L.take s)++(L.drop s++(R.take t++(R.drop t++Q)))):=by
  conv=>lhs;rw [←hL12,←hR12]
  simp only [yal]
 rw [hin]
 rw [hspl] at hN
 generalize L.take s=L1 at *
 generalize L.drop s=L2 at *
 generalize R.take t=R1 at *
 generalize R.drop t=R2 at *
 simp -implicitDefEqProofs only [qK]
 conv=>arg 2;whnf
 simp -implicitDefEqProofs only [rX,↓rY,↓reduceIte,Nat.reduceEqDiff,e19,e20,e24]
 refine ⟨by simp only [lo,Fx.hi];omega,?_⟩
 have dA:bU (L1++R1)=L1++R1∨(1≤s∧1≤t):=by
  rcases yas s with h0|h0
  ·left
   have:L1=[]:=yaG (by omega)
   subst this
   exact tW iA.hR iA.dst
  ·rcases yas t with h1|h1
   ·left
    have:R1=[]:=yaG (by omega)
    subst this
    rw [yar]
    exact tW iA.hL (by simpa using iA.dst)
   ·exact .inr ⟨h0,h1⟩
 have dB:bU (L2++R2)=L2++R2∨(s<L.length∧t<R.length):=by
  rcases yav s L.length with h0|h0
  ·rcases yav t R.length with h1|h1
   ·exact .inr ⟨h0,h1⟩
   ·left
    have:R2=[]:=yaG (by omega)
    subst this
    rw [yar]
    exact tW iB.hL (by simpa using iB.dst)
  ·left
   have:L2=[]:=yaG (by omega)
   subst this
   exact tW iB.hR iB.dst
 have hAl:(bU (L1++R1)).length=s+t:=by rw [bW.length_eq,yab];omega
 have hr2:∀ e b',E2 n a m b w e→get e 24=.i (m+(t:Nat))→aw cM (rt 11 c156) N X Z ⟨e,[rw2 ((P++bU (L1++R1))++(L2++(R2++Q)))],b'⟩:=by
  rintro e b' ⟨e0,e1,e2,e3,e4,e18,e19⟩ e24
  have hNB:∀ e b',bU (L2++R2)=L2++R2→N ⟨e,[rw2 ((P++bU (L1++R1))++(L2++(R2++Q)))],b'⟩:=by
   intro e b' h0
   have:=hN e b'
   rw [h0] at this
   simpa only [yal] using this
  conv=>arg 2;whnf
  simp -implicitDefEqProofs only [rX,↓rY,aA,↓reduceIte,Nat.reduceEqDiff,reduceCtorEq,cxN,e0,e3,e4,e18,e24]
  cases hd1:decide (a+(w:Int)<m+t) with
  | false =>
   have h0:=of_decide_eq_false hd1
   simp -implicitDefEqProofs only [↓rY,ke]
   exact hNB _ _ (dB.resolve_right (by omega))
  | true =>
   have h0:=of_decide_eq_true hd1
   simp -implicitDefEqProofs only [↓rY,kc]
   cases hd2:decide (m+(t:Int)<b) with
   | false =>
    have h1:=of_decide_eq_false hd2
    simp -implicitDefEqProofs only [↓rY,ke]
    exact hNB _ _ (dB.resolve_right (by omega))
   | true =>
    have h1:=of_decide_eq_true hd2
    simp -implicitDefEqProofs only [↓rY,kc]
    have o:=ih (L2.length+R2.length) (by omega) (P++bU (L1++R1)) L2 R2 Q rfl n (a+w) (m+t) b (by simp only [yab,hAl];omega) h (by rw [yab,hAl];omega) (by rw [yab,hAl];omega) (by rw [yab,hAl];omega) iB (by omega) (by omega)
    refine fV _ o (by simp) ⟨⟨trivial,trivial,trivial,trivial,trivial,trivial⟩,rfl,rfl,rfl,rfl,⟨rfl,trivial⟩,trivial⟩ ⟨trivial,trivial⟩ ?_
    simp -implicitDefEqProofs only [rX]
    have:=hN
    simp only [yal] at this ⊢
    exact this _ _
 have hrest:∀ e b',E2 n a m b w e→get e 20=.i (a+(s:Nat))→get e 24=.i (m+(t:Nat))→aw cM (pt 10 c156) (fun s'=>aw cM (rt 11 c156) N X Z s') X Z ⟨e,[rw2 ((P++L1)++(R1++(L2++(R2++Q))))],b'⟩:=by
  rintro e b' ⟨e0,e1,e2,e3,e4,e18,e19⟩ e20 e24
  have hNA:∀ e b',bU (L1++R1)=L1++R1→E2 n a m b w e→get e 24=.i (m+(t:Nat))→aw cM (rt 11 c156) N X Z ⟨e,[rw2 ((P++L1)++(R1++(L2++(R2++Q))))],b'⟩:=by
   intro e b' h0 hE h24
   have:=hr2 e b' hE h24
   rw [h0] at this
   simpa only [yal] using this
  conv=>arg 2;whnf
  simp -implicitDefEqProofs only [rX,↓rY,aA,↓reduceIte,Nat.reduceEqDiff,reduceCtorEq,cxN,e0,e1,e4,e18,e20]
  cases hd1:decide (a<a+(s:Int)) with
  | false =>
   have h0:=of_decide_eq_false hd1
   simp -implicitDefEqProofs only [↓rY,ke]
   exact hNA _ _ (dA.resolve_right (by omega)) ⟨e0,e1,e2,e3,e4,e18,e19⟩ e24
  | true =>
   have h0:=of_decide_eq_true hd1
   simp -implicitDefEqProofs only [↓rY,kc]
   cases hd2:decide (a+(s:Int)<a+w) with
   | false =>
    have h1:=of_decide_eq_false hd2
    simp -implicitDefEqProofs only [↓rY,ke]
    exact hNA _ _ (dA.resolve_right (by omega)) ⟨e0,e1,e2,e3,e4,e18,e19⟩ e24
   | true =>
    have h1:=of_decide_eq_true hd2
    simp -implicitDefEqProofs only [↓rY,kc]
    have o:=ih (L1.length+R1.length) (by omega) P L1 R1 (L2++(R2++Q)) rfl n a (a+s) (a+w) (by simp only [yab];omega) h ha (by omega) (by omega) iA (by omega) (by omega)
    rw [yal]
    refine fV _ o (by simp) ⟨⟨trivial,trivial,trivial,trivial,trivial,trivial⟩,rfl,rfl,rfl,rfl,⟨rfl,trivial⟩,trivial⟩ ⟨trivial,trivial⟩ ?_
    simp -implicitDefEqProofs only [rX]
    rw [←yal]
    exact hr2 _ _ ⟨e0,e1,e2,e3,e4,e18,e19⟩ e24
 conv=>arg 2;whnf
 simp -implicitDefEqProofs only [rX,↓rY,aA,↓reduceIte,Nat.reduceEqDiff,reduceCtorEq,e0,e2,e4,e20]
 cases hd1:decide (a+(s:Int)<m) with
 | false =>
  have h0:=of_decide_eq_false hd1
  have:L2=[]:=yaG (by omega)
  subst this
  simp -implicitDefEqProofs only [rX,↓rY,ke]
  exact hrest _ _ ⟨e0,e1,e2,e3,e4,e18,e19⟩ e20 rfl
 | true =>
  have h0:=of_decide_eq_true hd1
  simp -implicitDefEqProofs only [↓rY,kc]
  cases hd2:decide (m<m+(t:Int)) with
  | false =>
   have h1:=of_decide_eq_false hd2
   have:R1=[]:=yaG (by omega)
   subst this
   simp -implicitDefEqProofs only [rX,↓rY,ke]
   exact hrest _ _ ⟨e0,e1,e2,e3,e4,e18,e19⟩ e20 rfl
  | true =>
   have h1:=of_decide_eq_true hd2
   simp -implicitDefEqProofs only [↓rY,kc]
   have o:=Zq (P++L1) L2 R1 (R2++Q) (a+s) m (m+t) n (by simp only [yab];omega) h (by rw [yab];omega) (by rw [yab];omega) (by rw [yab];omega) (by omega) (by omega)
   refine fV _ o (by simp) ⟨⟨trivial,trivial,trivial,trivial,trivial,trivial⟩,rfl,rfl,rfl,rfl,⟨rfl,trivial⟩,trivial⟩ ⟨trivial,trivial⟩ ?_
   simp -implicitDefEqProofs only [rX]
   exact hrest _ _ ⟨e0,e1,e2,e3,e4,e18,e19⟩ e20 rfl
end
theorem Zx:∀ (z:Nat) (P L R Q:List Sp),L.length+R.length=z→Uj P L R Q:=by
 intro z
 induction z using yaZ with
 | ind z ih =>
 intro P L R Q hz n a m b hn h ha hm hb hI hL hR
 have hlen:n=P.length+L.length+R.length+Q.length:=by rw [hn];simp;omega
 refine f9 pol [0] lw156 (by simp) ⟨trivial,trivial⟩ (fun k hk hm=>by simp at hk ⊢;omega) ?_
 rw [c156_parts]
 have hret:∀ e b',eZ [0] 1 [] (IsA (.tup []) [rw2 (P++(bU (L++R)++Q))]) ⟨e,[rw2 (P++(bU (L++R)++Q))],b'⟩:=by
  intro e b'
  rw [bP]
  simp -implicitDefEqProofs only [rX,aT,aY,leH,leB,aC,aB,wfB,wfV,wfL]
 simp -implicitDefEqProofs only [qK,aH]
 refine Vp hn h ha hm hb hI hL hR ⟨rfl,rfl,rfl,rfl,rfl⟩ (fun e b' hE h2L=>?_) hret
 refine Vo hn h ha hm hb hI hL hR hE (fun e b' hE h2R=>?_) hret
 obtain ⟨e0,e1,e2,e3,e4⟩:=hE
 have hw:(a+b)/2=a+((L.length+R.length)/2:Nat):=by omega
 generalize hww:(L.length+R.length)/2=w at hw
 have hwr:IntKind.i64.wrap (a+(w:Int))=a+w:=by rw [←hw];exact nT (by omega) (by omega)
 rw [c156_parts2]
 simp -implicitDefEqProofs only [qK]
 conv=>arg 2;whnf
 simp -implicitDefEqProofs only [rX,↓rY,aA,↓reduceIte,Nat.reduceEqDiff,cxN,e1,e3]
 rw [pN (by omega) (by omega),hw]
 simp -implicitDefEqProofs only [rX,hwr]
 refine ⟨by simp only [lo,Fx.hi];omega,?_⟩
 conv=>arg 2;whnf
 simp -implicitDefEqProofs only [rX,↓rY,↓reduceIte,Nat.reduceEqDiff,e2]
 refine ⟨by simp only [lo,Fx.hi];omega,?_⟩
 conv=>arg 2;whnf
 simp -implicitDefEqProofs only [rX,aA]
 conv=>arg 2;whnf
 simp -implicitDefEqProofs only [rX,↓rY,↓reduceIte,Nat.reduceEqDiff,e1,e2,e3]
 cases hd:decide (a+(w:Int)<m) with
 | true =>
  have:=of_decide_eq_true hd
  simp only [kc]
  refine ⟨by simp only [lo,Fx.hi];omega,Mf hn h ha hm hb hI h2L h2R hww (fun z' hz'=>ih z' (by omega)) ⟨e0,e1,e2,e3,e4,rfl,rfl⟩ ?_ ?_ hret⟩
  ·simp -implicitDefEqProofs only [rX,↓reduceIte,Nat.reduceEqDiff];omega
  ·simp -implicitDefEqProofs only [rX,↓reduceIte];omega
 | false =>
  have:=of_decide_eq_false hd
  simp only [ke]
  refine Mf hn h ha hm hb hI h2L h2R hww (fun z' hz'=>ih z' (by omega)) ⟨e0,e1,e2,e3,e4,rfl,rfl⟩ ?_ ?_ hret
  ·simp -implicitDefEqProofs only [rX,↓reduceIte,Nat.reduceEqDiff];omega
  ·simp -implicitDefEqProofs only [rX,↓reduceIte];omega
end Go.Fx.H
namespace Go.Fx.H
open Go Go.Fx Go.Proofs Go.Fx.R
set_option maxRecDepth 20000
theorem aaP (G:List Sp) (hG:G.length≤39) (hasc:Asc G) (hbd:Bd G) :
  OkN Tryz.prog 119 [.sl 0 0 G.length,.i G.length,.clo 68 []] [rw2 G] [] (IsA (.tup []) [rw2 (bU G)]):=by
 refine f9 pol [0] lw119 (by simp) ⟨trivial,trivial⟩ (fun k hk hm=>by simp at hk ⊢;omega) ?_
 have hsub:∀ {M},M.Sublist G→Asc M∧Bd M:=fun h=>⟨hasc.sublist h,fun x hx=>hbd x (h.mem hx)⟩
 unfold c119
 simp -implicitDefEqProofs only [rX,aA,↓reduceIte,Nat.reduceEqDiff,Nat.reduceAdd,cxN,aH]
 have hA:∀ k,G.take k++G.drop k=G:=fun k=>yan k G
 refine aR (fun g:Nat=>⟨[(6,.i 20),(7,.i (20*g:Nat)),(8,.i (20*g+20:Nat)),(0,.sl 0 0 G.length),(1,.i G.length),(2,.clo 68 [])],[rw2 (bU (G.take (20*g))++G.drop (20*g))],1⟩) (fun g=>g≤1∧20*g≤G.length) (fun g=>1-g) 0 ⟨by omega,by omega⟩ ?_ ?_
 ·have e0:bU (G.take (20*0))++G.drop (20*0)=G:=by simp [bU]
  rw [e0]
  simp -implicitDefEqProofs only [rX,↓reduceIte,Nat.reduceEqDiff,reduceCtorEq,leE,leH,leB,aC,aB,wfE,wfB,wfV,wfL]
  exact ⟨rfl,rfl⟩
 rintro g ⟨hg,hgl⟩
 unfold c119l0
 simp -implicitDefEqProofs only [rX,↓rY,↓reduceIte,Nat.reduceEqDiff,reduceCtorEq]
 cases hd:decide (((20*g+20:Nat):Int)≤G.length) with
 | true =>
  have hd':=of_decide_eq_true hd
  have hg0:g=0:=by omega
  subst hg0
  have o:=Tv [] (G.take 20) (G.drop 20) 0 20 G.length (by simp) (by omega) rfl (by simp;omega) (hsub (yaK _ _)).1 (hsub (yaK _ _)).2
  have e0:bU (G.take (20*0))++G.drop (20*0)=[]++G.take 20++G.drop 20:=by simp [bU]
  rw [e0,kc]
  refine fV _ o (by simp) ⟨⟨trivial,trivial,trivial,trivial,trivial⟩,rfl,rfl,rfl,⟨rfl,trivial⟩,trivial⟩ ⟨trivial,trivial⟩ ?_
  simp -implicitDefEqProofs only [rX,↓rY,↓reduceIte,Nat.reduceEqDiff,reduceCtorEq,leE,leH,leB,aC,aB,wfE,wfB,wfV,wfL]
  exact ⟨by simp only [lo,Fx.hi];omega,1,⟨⟨by omega,by omega⟩,by omega⟩,⟨rfl,rfl⟩,by simp⟩
 | false =>
 have hd':=of_decide_eq_false hd
 have hP:(bU (G.take (20*g))).length=20*g:=by rw [bW.length_eq,yag];omega
 have o:=Tv (bU (G.take (20*g))) (G.drop (20*g)) [] (20*g:Nat) G.length G.length (by simp only [yar,yab,hP,yat];omega) (by omega) (by rw [hP]) (by rw [hP,yat];omega) (hsub (yaU _ _)).1 (hsub (yaU _ _)).2
 simp only [yar] at o
 rw [ke]
 refine fV _ o (by simp) ⟨⟨trivial,trivial,trivial,trivial,trivial⟩,rfl,rfl,rfl,⟨rfl,trivial⟩,trivial⟩ ⟨trivial,trivial⟩ ?_
 simp -implicitDefEqProofs only [rX]
 have hAB:(bU (G.take (20*g))++bU (G.drop (20*g))).Perm G:=by
  conv=>rhs;rw [←hA (20*g)]
  exact bW.append bW
 have hdG:Dst G:=Ji hasc
 have hfin:g=0∨G.length=20→bU (G.take (20*g))++bU (G.drop (20*g))=bU G:=by
  rintro (h0|h0)
  ·subst h0;simp [bU]
  ·rcases yas g with h1|h1
   ·subst h1;simp [bU]
   ·have:g=1:=by omega
    subst this
    rw [yaa (by omega),yak (by omega)];simp [bU]
 refine aR (fun t:Nat=>⟨[(6,.i (20*t+20:Nat)),(0,.sl 0 0 G.length),(1,.i G.length),(2,.clo 68 [])],[rw2 (if t=0 then bU (G.take (20*g))++bU (G.drop (20*g)) else bU G)],1⟩) (fun t=>t≤1) (fun t=>1-t) 0 (by omega) ?_ ?_
 ·simp -implicitDefEqProofs only [rX,↓reduceIte,Nat.reduceEqDiff,reduceCtorEq,leE,leH,leB,aC,aB,wfE,wfB,wfV,wfL]
  rfl
 rintro t ht
 unfold c119l1
 simp -implicitDefEqProofs only [rX,↓rY,aA,↓reduceIte,Nat.reduceEqDiff,reduceCtorEq]
 cases hd2:decide (((20*t+20:Nat):Int)<G.length) with
 | false =>
  have hd2':=of_decide_eq_false hd2
  simp only [ke,bP]
  simp -implicitDefEqProofs only [rX,aT,aY,leH,leB,aC,aB,wfB,wfV,wfL]
  rcases yas t with h0|h0
  ·rw [if_pos h0,hfin (by omega)]
  ·rw [if_neg (by omega)]
 | true =>
 have hd2':=of_decide_eq_true hd2
 have ht0:t=0:=by omega
 have hg1:g=1:=by omega
 subst ht0 hg1
 simp -implicitDefEqProofs only [↓rY,↓reduceIte,yaY,kc]
 refine ⟨by decide,?_⟩
 have hP2:(bU (G.take 20)).length=20:=by rw [bW.length_eq,yag];omega
 have hQ2:(bU (G.drop 20)).length=G.length-20:=by rw [bW.length_eq,yat]
 have hI:tQ (bU (G.take 20)) (bU (G.drop 20)):=by
  refine ⟨gS (hdG.sublist (yaK _ _)),gS (hdG.sublist (yaU _ _)),fun x hx y hy=>?_,fun x hx=>hbd x (hAB.mem_iff.1 hx),nM hdG hAB.symm⟩
  have h0:=hasc
  rw [←yan 20 G] at h0
  exact (yaz.1 h0).2.2 x (bW.mem_iff.1 hx) y (bW.mem_iff.1 hy)
 have o:=Zx _ [] (bU (G.take 20)) (bU (G.drop 20)) [] rfl G.length 0 20 G.length (by simp only [yaF,yar,yab,hP2,hQ2];omega) (by omega) rfl (by rw [hP2];rfl) (by rw [hP2,hQ2,ybg];omega) hI (by omega) (by omega)
 rw [uO hAB hdG] at o
 simp only [yaF,yar] at o
 refine aR (fun t:Nat=>⟨[(6,.i 20),(7,.i 0),(8,.i 40),(0,.sl 0 0 G.length),(1,.i G.length),(2,.clo 68 [])],[rw2 (bU (G.take 20)++bU (G.drop 20))],1⟩) (fun t=>True) (fun t=>t) 0 trivial ?_ ?_
 ·simp -implicitDefEqProofs only [rX,↓reduceIte,Nat.reduceEqDiff,reduceCtorEq,leE,leH,leB,aC,aB,wfE,wfB,wfV,wfL]
  exact ⟨rfl,rfl⟩
 rintro t -
 unfold c119l2
 have h40:decide ((40:Int)≤G.length)=false:=decide_eq_false (by omega)
 have h20:decide ((20:Int)<G.length)=true:=decide_eq_true (by omega)
 simp -implicitDefEqProofs only [rX,↓rY,aA,↓reduceIte,Nat.reduceEqDiff,reduceCtorEq,leE,leH,leB,aC,aB,wfE,wfB,wfV,wfL,h40,ke]
 refine ⟨by decide,?_⟩
 rw [show decide ((0:Int)+20<G.length)=true from decide_eq_true (by omega),kc]
 refine fV _ o (by simp) ⟨⟨trivial,trivial,trivial,trivial,trivial,trivial⟩,rfl,rfl,rfl,rfl,⟨rfl,trivial⟩,trivial⟩ ⟨trivial,trivial⟩ ?_
 simp -implicitDefEqProofs only [rX,↓rY,aA,↓reduceIte,Nat.reduceEqDiff,reduceCtorEq,leE,leH,leB,aC,aB,wfE,wfB,wfV,wfL]
 exact ⟨by decide,1,⟨by omega,by omega⟩,rfl,rfl⟩
theorem aeE (G:List Sp) (hG:G.length≤39) (hasc:Asc G) (hbd:Bd G) :
  OkN Tryz.prog 67 [.sl 0 0 G.length,.clo 68 []] [rw2 G] [] (IsA (.tup []) [rw2 (bU G)]):=by
 refine f9 pol [0] lw67 (by simp) ⟨trivial,trivial⟩ (fun k hk hm=>by simp at hk ⊢;omega) ?_
 unfold c67
 simp -implicitDefEqProofs only [rX,↓rY,↓reduceIte,Nat.reduceEqDiff,reduceCtorEq,cxN,aH]
 intro _
 refine fV _ (aaP G hG hasc hbd) (by simp) ⟨⟨trivial,trivial,trivial,trivial⟩,rfl,rfl,⟨rfl,trivial⟩,trivial⟩ ⟨trivial,trivial⟩ ?_
 simp -implicitDefEqProofs only [rX,aT,aY,leH,leB,aC,aB,wfB,wfV,wfL,bP]
def Of (fx:List Nat) (v:V) (r:List Nat) (s:St) (K:St→Prop):Prop :=
 match v with
 | .sl k _ _=>Bc fx k (blk s.h k) s fun s'=>mY fx r s' K
 | _=>mY fx r s K
theorem Ww {fx:List Nat} {s:St} {K:St→Prop}:mY fx [] s K=K s:=rfl
theorem Wx {fx:List Nat} {x:Nat} {r:List Nat} {e:Env} {h:List Blk} {b:Nat} {K:St→Prop}:mY fx (x::r) ⟨e,h,b⟩ K=Of fx (get e x) r ⟨e,h,b⟩ K:=rfl
theorem Wu {fx:List Nat} {k i n:Nat} {r:List Nat} {e:Env} {h:List Blk} {b:Nat} {K:St→Prop}:Of fx (.sl k i n) r ⟨e,h,b⟩ K=Bc fx k (blk h k) ⟨e,h,b⟩ fun s'=>mY fx r s' K:=rfl
theorem Wy {fx:List Nat} {k sz:Nat} {els:List (List V)} {e:Env} {h:List Blk} {b:Nat} {K:St→Prop}:Bc fx k (.arr sz els) ⟨e,h,b⟩ K=(k∉fx∧K ⟨Bb k sz els e,(h.map (rF k sz els)).set k .dead,b⟩):=rfl
@[congr] theorem afR {fx:List Nat} {v v':V} {r:List Nat} {s:St} {K:St→Prop} (q:v=v'):Of fx v r s K=Of fx v' r s K:=by rw [q]
@[congr] theorem afT {fx:List Nat} {k:Nat} {B B':Blk} {s:St} {K:St→Prop} (q:B=B'):Bc fx k B s K=Bc fx k B' s K:=by rw [q]
@[congr] theorem afS {fx xs:List Nat} {s s':St} {K:St→Prop} (q:s=s'):mY fx xs s K=mY fx xs s' K:=by rw [q]
theorem Mw {cx:Cx} {e:Env} {h:List Blk} {b:Nat} {K:V→St→Prop} {xs:List Nat} {j sz n:Nat} {z:List Value} {ps:List (Nat × Operand)}:aOp cx (.litsf xs j sz n z ps) ⟨e,h,b⟩ K =
  mY (cx.fx++cx.bn) xs ⟨e,h,b⟩ fun s=>bY s.e sz (yaX n (z.map .v)) ps fun els=>aD s.h (s.b+j)∧K (.sl (s.b+j) 0 n) { s with h:=s.h.set (s.b+j) (.arr sz els) }:=rfl
theorem Wv {fx:List Nat} {k:Nat} {l:List (List V)} {r:List Nat} {s:St} {K:St→Prop}:Of fx (.ro k l) r s K=mY fx r s K:=rfl
end Go.Fx.H
namespace Go.Fx.H
open Go Go.Fx Go.Proofs Go.Fx.R
set_option maxRecDepth 20000
def gap (l:List Sp) (i:Nat):Sp:=((l.getD i (0,0)).2,(l.getD (i+1) (0,0)).1)
def Ba (l:List Sp) (k:Nat):List Sp:=(List.range k).map (gap l)
def oG (l:List Sp):List Sp:=Ba l (l.length-1)
theorem Ki {l:List Sp} {k:Nat}:Ba l (k+1)=Ba l k++[gap l k]:=by
 unfold Ba;rw [List.range_succ,yaq];rfl
theorem rB {l:List Sp} {k:Nat}:(Ba l k).length=k:=by simp [Ba]
theorem Az {l:List Sp} {i:Nat} (h:i+1<l.length):gap l i=((l[i]'(by omega)).2,l[i+1].1):=by
 unfold gap
 rw [ybl,ybl,yai h,yai (show i<l.length by omega)]
 rfl
theorem Vi {l:List Sp} (h:Sep l) {i j:Nat} (hij:i<j) (hj:j<l.length):(l[i]'(by omega)).2<l[j].1:=by
 exact yaV.1 h.2 i j (by omega) hj hij
theorem Od {l:List Sp} (h:Vd l):Asc (oG l):=by
 refine yaV.2 fun i j hi hj hij=>?_
 have hl:(oG l).length=l.length-1:=rB
 have h1:∀ k (hk:k<(oG l).length),(oG l)[k]=gap l k:=fun k hk=>by simp [oG,Ba]
 rw [h1 i hi,h1 j hj,Az (by omega),Az (by omega)]
 have h2:=Vi h.1 hij (show j<l.length by omega)
 have h3:=h.1.1 _ (yam (show j<l.length by omega))
 simp only
 omega
theorem Iz {l:List Sp} (h:Vd l):Bd (oG l):=by
 intro s hs
 obtain ⟨i,hi,rfl⟩:=ybk.1 hs
 have hi2:=List.mem_range.1 hi
 rw [Az (by omega)]
 have h1:=h.2 _ (yam (show i<l.length by omega))
 have h2:=h.2 _ (yam (show i+1<l.length by omega))
 simp only
 omega
def Ee (l:List Sp) (most:Int):Int:=if vd l=false∨most<1 then 1 else 0
def Ed (l:List Sp) (most:Int):Nat:=min (oG l).length ((l.length:Int)-most).toNat
def Gu (l:List Sp) (most:Int):List Sp:=if Ee l most≠0 then [] else ofS (l++(bU (oG l)).take (Ed l most))
theorem aeP (l:List Sp) (most:Int) (hl:l.length≤40) (hm:most≤9223372036854775807):Ok 17 [aO l,.i most] (Is (.tup [aO (Gu l most),.i (Ee l most)])):=by
 refine iT (R:=fun q hs=>wk (.tup [aO (Gu l most),.i (Ee l most)]) (gvV (fun _=>true) hs q)) ?_ fun _ _ h=>h
 refine bO lw17 (by simp) ?_
 unfold c17
 simp -implicitDefEqProofs only [rX,aA,↓reduceIte,reduceCtorEq,cxN,aH]
 refine aE (Zg l) ⟨⟨trivial,trivial⟩,⟨rfl,rfl⟩,trivial⟩ rfl trivial ?_
 have hbad:vd l=false∨most<1→∀ e b,get e 4=.v (.slice none 0 0)→get e 5=.v (.int .i64 1)→eZ [] 0 [fJ.tmp 4,fJ.tmp 5] (fun q hs=>wk (.tup [aO (Gu l most),.i (Ee l most)]) (gvV (fun _=>true) hs q)) ⟨e,[],b⟩:=by
  intro hc e b g4 g5
  have e1:Ee l most=1:=if_pos hc
  have e2:Gu l most=[]:=if_pos (by rw [e1];decide)
  rw [eE,e1,e2]
  simp -implicitDefEqProofs only [rX,aT,aY,aC,wfV,wfL,g4,g5]
  refine ⟨([]:List Blk),⟨trivial,yaf _,trivial⟩,?_⟩
  simp [gvV,gvL,wk,wkL,wkR]
 cases hv:vd l with
 | false =>
  simp -implicitDefEqProofs only [rX,↓rY,aA,↓reduceIte,Nat.reduceEqDiff]
  exact hbad (.inl hv) _ _ rfl rfl
 | true =>
 simp -implicitDefEqProofs only [rX,↓rY,aA,↓reduceIte,Nat.reduceEqDiff,reduceCtorEq]
 cases hd:decide (most<1) with
 | true =>
  simp -implicitDefEqProofs only [↓rY,kc]
  exact hbad (.inr (of_decide_eq_true hd)) _ _ rfl rfl
 | false =>
 have hm1:=of_decide_eq_false hd
 simp -implicitDefEqProofs only [↓rY,ke]
 have hvd:Vd l:=Lh.1 hv
 have he0:Ee l most=0:=if_neg (by rw [hv];simp;omega)
 have hgl:(oG l).length=l.length-1:=rB
 have hle:Gu l most=ofS (l++(bU (oG l)).take (Ed l most)):=if_neg (by rw [he0];decide)
 refine eT (.virt 1 2 (by decide) (.nilE 6 0 rfl (.refl _))) (fun k:Nat=>⟨[(7,.i (k+1:Nat)),(6,.sl 0 0 k),(0,aO l),(1,.i most)],[rw2 (Ba l k)],0⟩) (fun k=>k≤l.length-1) (fun k=>l.length-k) 0 (by omega) ?_ ?_
 ·simp -implicitDefEqProofs only [rX,↓reduceIte,Nat.reduceEqDiff,reduceCtorEq,leE,leH,leB,aC,aB,wfE,wfB,wfV,yaD]
  exact ⟨rfl,rfl⟩
 rintro k hk
 unfold c17l0
 simp -implicitDefEqProofs only [rX,↓rY,rdK,aA,cells?,splice,↓reduceIte,Nat.reduceEqDiff,Nat.reduceAdd,reduceCtorEq,aD,bG,bY,leE,leH,leB,aC,aB,wfE,wfB,wfV,aP,aZ,kill,St.kill,isD,Nat.reduceLT,Nat.reduceLeDiff,yae,yac,tC,mT]
 intro _
 cases hd2:decide (((k+1:Nat):Int)<l.length) with
 | true =>
  have hkl:=of_decide_eq_true hd2
  simp -implicitDefEqProofs only [↓rY,kc]
  have e1:((k+1:Nat):Int)-1=k:=by omega
  have e2:(((k+1:Nat):Int)-1).toNat=k:=by omega
  refine ⟨by simp only [lo,Fx.hi];omega,by omega,by omega,by omega,by omega,⟨by rw [rB];exact yad _,by omega⟩,by simp only [lo,Fx.hi];omega,k+1,⟨by omega,by omega⟩,⟨rfl,rfl⟩,?_⟩
  rw [Ki,Az (by omega),yaa (by simp [rB])]
  simp only [e2]
  simp [rw2,enS]
 | false =>
 have hkl:=of_decide_eq_false hd2
 have hkk:k=l.length-1:=by omega
 have hgk:Ba l k=oG l:=by rw [hkk];rfl
 rw [hgk]
 simp -implicitDefEqProofs only [↓rY,ke]
 have o:=aeE (oG l) (by omega) (Od hvd) (Iz hvd)
 rw [hgl,←hkk] at o
 refine fV _ o (by simp) ⟨⟨trivial,trivial,trivial⟩,rfl,⟨rfl,trivial⟩,trivial⟩ trivial ?_
 have ef:max 0 (min (k:Int) ((l.length:Int)-most))=(Ed l most:Nat):=by unfold Ed;omega
 have hfk:Ed l most≤k:=by unfold Ed;omega
 have hsl:(bU (oG l)).length=k:=by rw [bW.length_eq];omega
 have hsl2:yah k ((bU (oG l)).map enS)=(bU (oG l)).map enS:=yaa (by simp;omega)
 simp -implicitDefEqProofs only [rX,↓rY,aA,cells?,↓reduceIte,Nat.reduceEqDiff,eQ,Nat.reduceAdd,reduceCtorEq,aD,cC,bY,isD,Nat.reduceLT,yac,Mw,Ww,Wx,Wu,Wv,Wy,Bb,mX,vX,rF,ef,hsl,yac,show yaC 0=0 from rfl,ybn,eq_true hfk,hsl2,←List.map_take,eq_true (show ((Ed l most:Nat):Int)≤(k:Int) by omega)]
 intro _ _
 refine ⟨by simp only [lo,Fx.hi];omega,⟨⟨by omega,by omega⟩,yaM _⟩,?_⟩
 generalize hFF:(bU (oG l)).take (Ed l most)=F at *
 have hFl:F.length≤40:=by rw [←hFF,yag];omega
 have hmid:Mid (l++F):=by
  intro s hs
  rcases yaw.1 hs with hs|hs
  ·have:=hvd.2 s hs;omega
  ·rw [←hFF] at hs
   have:=Iz hvd s (bW.mem_iff.1 (ybe hs));omega
 refine dV [.bro 1 ([l,F].map enL)] (.sl 0 0 (l++F).length) (.sl 2 0 (l++F).length) [.arr 2 ((l++F).map enS)] [.arr 2 ((l++F).map enS)] ?_ ?_ ?_ ?_ ?_ ?_
 ·have:=Zf [l,F] (by simp;omega)
  rw [show [l,F].flatten=l++F by simp] at this
  exact this
 ·simp [aG,bA,aS,cK,wkL,wk,wkB,blk,enL]
 ·simp [ren]
 ·simp [bV]
 ·trivial
 simp -implicitDefEqProofs only [rX,↓reduceIte]
 refine xG (l++F) rfl (by simp;omega) hmid rfl (by simp) (by simp) trivial ?_
 simp -implicitDefEqProofs only [rX,aA,↓reduceIte,Nat.reduceEqDiff,aT,aY,aC,wfV,wfL,aP,aZ,kill,bM,St.kill,eE]
 rw [hle,he0]
 refine ⟨([]:List Blk),⟨trivial,yaf _,trivial⟩,?_⟩
 simp [gvV,gvL,wk,wkL,wkR]
end Go.Fx.H
namespace Go.Fx.H
open Go Go.Fx Go.Proofs Go.Fx.R
set_option maxRecDepth 20000
end Go.Fx.H
namespace Go.Fx.H
open Go Go.Fx Go.Proofs Go.Fx.R
set_option maxRecDepth 20000
abbrev Op:=Int × Int × Bs
abbrev enO (x:Op):List V:=[.i x.1,.i x.2.1,sv x.2.2]
abbrev rO (l:List Op):V:=.ro 3 (l.map enO)
def pe (a b:Bs) (s:Int) (o:V):List V:=us a++(us b++[.i s,o])
section
variable {a b:Bs} {s:Int} {o:V}
theorem dW (ha:a.length=16) (hb:b.length=16):(pe a b s o).length=34:=by simp [pe,cJ,ha,hb]
theorem To (ha:a.length=16) (hb:b.length=16):(pe a b s o)[32]?=some (.i s):=by
 unfold pe
 rw [yaN (by rw [cJ];omega),yaN (by rw [cJ,cJ];omega),cJ,cJ,ha,hb];rfl
theorem gX (ha:a.length=16) (hb:b.length=16):(pe a b s o)[33]?=some o:=by
 unfold pe
 rw [yaN (by rw [cJ];omega),yaN (by rw [cJ,cJ];omega),cJ,cJ,ha,hb];rfl
theorem Ke (ha:a.length=16):yah 16 (pe a b s o)=us a:=by
 unfold pe
 rw [yaB (by rw [cJ];omega),yaa (by rw [cJ];omega)]
theorem Wa (ha:a.length=16):yaj 16 (pe a b s o)=us b++[.i s,o]:=by
 unfold pe
 rw [yaL (by rw [cJ];omega),yak (by rw [cJ];omega)];rfl
theorem Tn (ha:a.length=16) (hb:b.length=16):yah 16 (yaj 16 (pe a b s o))=us b:=by
 rw [Wa ha,yaB (by rw [cJ];omega),yaa (by rw [cJ];omega)]
theorem Aj (ho:isC o=true):(pe a b s o).all isC=true:=by
 unfold pe
 rw [ybb,f7,ybb,f7]
 show (true&&(true&&(isC (.i s)&&(isC o&&true))))=true
 rw [ho];rfl
theorem fE (ha:a.length=16) (hb:b.length=16):yah 34 (pe a b s o)=pe a b s o:=yaa (by rw [dW ha hb];exact yad _)
theorem dX (ha:a.length=16) (hb:b.length=16):yaj 34 (pe a b s o)=[]:=yak (by rw [dW ha hb];exact yad _)
theorem l6 {q:List Blk} {x y:List V}:wfL q (x++y)↔wfL q x∧wfL q y:=by
 induction x with
 | nil=>simp [wfL]
 | cons u r ih=>simp [wfL,ih,and_assoc]
theorem eH {q:List Blk} (ho:wfV q o):wfL q (pe a b s o):=by
 unfold pe
 rw [l6,l6]
 exact ⟨b6,b6,by simp [wfL,wfV,ho]⟩
end
theorem Wd (t:Bs) (h:t.length≤100000000000):Ok 70 [sv t] (Is (.agg (us (cD 34 [t])))):=by
 refine bO lw70 (by simp) ?_
 unfold c70
 simp -implicitDefEqProofs only [rX,↓rY,aA,cells?,↓reduceIte,reduceCtorEq,aD,bY,isD,Nat.reduceLT,cxN,d6,aH,w16]
 refine aE (Rh 34 [t] (in1 h)) ⟨⟨trivial,yad 1,trivial⟩,rfl,⟨rfl,rfl⟩,trivial⟩ (by simp [ren,a6]) trivial ?_
 obtain ⟨u1,u2,u3⟩:=fP (a8 (k:=34) (l:=[t]))
 obtain ⟨z1,z2,z3⟩:=fP bQ
 simp -implicitDefEqProofs only [rX,↓rY,cells?,splice,↓reduceIte,Nat.reduceEqDiff,aT,aY,wfV,u1,u2,z1,z3,f7,b6]
theorem Ri (t:Bs) (h:t.length≤100000000000):Ok 72 [sv t] (Is (.agg (us (cD 34 [t])))):=by
 refine bO lw72 (by simp) ?_
 unfold c72
 simp -implicitDefEqProofs only [rX,↓rY,aA,cells?,↓reduceIte,reduceCtorEq,aD,bY,isD,Nat.reduceLT,cxN,d6,aH,w16]
 refine aE (aaQ 34 [t] (in1 h)) ⟨⟨trivial,yad 1,trivial⟩,rfl,⟨rfl,rfl⟩,trivial⟩ (by simp [ren,a6]) trivial ?_
 obtain ⟨u1,u2,u3⟩:=fP (a8 (k:=34) (l:=[t]))
 obtain ⟨z1,z2,z3⟩:=fP bQ
 simp -implicitDefEqProofs only [rX,↓rY,cells?,splice,↓reduceIte,Nat.reduceEqDiff,aT,aY,wfV,u1,u2,z1,z3,f7,b6]
def wgt (l:List Op):Int:=l.foldl (fun n x=>n+(x.2.2.length:Int)) 0
theorem m7 {l:List Op} {k:Nat} (h:k<l.length):wgt (l.take (k+1))=wgt (l.take k)+(l[k].2.2.length:Int):=by
 unfold wgt
 rw [yap,yai h,List.foldl_append];rfl
theorem Hc {l:List Op} (h:∀ x∈l,x.2.2.length≤1000000) {k:Nat} (hk:k≤l.length):0≤wgt (l.take k)∧wgt (l.take k)≤1000000*k:=by
 induction k with
 | zero=>simp [wgt]
 | succ k ih =>
  have:=ih (by omega)
  have h2:=h _ (yam (show k<l.length by omega))
  rw [m7 (by omega)]
  omega
theorem Zk (a b:Bs) (s:Int) (l:List Op) (ha:a.length=16) (hb:b.length=16) (hl:l.length≤1000000) (hw:∀ x∈l,x.2.2.length≤1000000):Ok 25 [.agg (pe a b s (rO l))] (Is (.i (wgt l))):=by
 refine bO lw25 (by simp) ?_
 unfold c25
 simp -implicitDefEqProofs only [rX,↓rY,aA,cells?,↓reduceIte,Nat.reduceEqDiff,aD,cxN,aH,gX,ha,hb]
 intro _
 refine aR (fun k:Nat=>⟨[(9,.i k),(8,.i l.length),(7,rO l),(3,.i (wgt (l.take k)))],[],1⟩) (fun k=>k≤l.length) (fun k=>l.length-k) 0 (yaf _) ?_ ?_
 ·simp -implicitDefEqProofs only [rX,↓reduceIte,Nat.reduceEqDiff,leE,leH,aC,wfE,wfB,wfV,yax,wgt,List.foldl_nil]
 rintro k hk
 unfold c25l0
 simp -implicitDefEqProofs only [rX,↓rY,aA,cells?,splice,↓reduceIte,Nat.reduceEqDiff,Nat.reduceAdd,aD,aT,aY,leE,leH,aC,wfE,wfB,wfV,isC,yae,yac,aU,d6]
 cases hd:decide ((k:Int)<l.length) with
 | false =>
  have hd':=of_decide_eq_false hd
  have:k=l.length:=by omega
  subst this
  simp -implicitDefEqProofs only [↓rY,ke,yaE]
 | true =>
  have hd':=of_decide_eq_true hd
  have hkl:k<l.length:=by omega
  simp only [kc]
  have h1:=Hc hw (k:=k) hk
  have h2:=Hc hw (k:=k+1) (by omega)
  rw [m7 hkl] at h2
  refine ⟨⟨by omega,by omega⟩,hkl,?_⟩
  refine ⟨by simp only [lo,Fx.hi];omega,by simp only [lo,Fx.hi];omega,k+1,⟨by omega,by omega⟩,?_⟩
  rw [m7 hkl]
  exact ⟨by omega,rfl⟩
theorem aeK (a b:Bs) (s:Int) (l:List Op) (ha:a.length=16) (hb:b.length=16) (hl:l.length≤1000000) (hw:∀ x∈l,x.2.2.length≤1000000):Ok 26 [.agg (pe a b s (rO l))] (Is (.i (wgt l))):=by
 refine bO lw26 (by simp) ?_
 unfold c26
 simp -implicitDefEqProofs only [rX,↓rY,aA,cells?,↓reduceIte,aD,cxN,aH]
 refine aR (fun k:Nat=>⟨[(4,.i k),(1,.ptr 0 0 0),(3,.i (wgt (l.take k)))],[.var (pe a b s (rO l))],1⟩) (fun k=>k≤l.length) (fun k=>l.length-k) 0 (yaf _) ?_ ?_
 ·simp -implicitDefEqProofs only [rX,↓reduceIte,Nat.reduceEqDiff,leE,leH,leB,aC,aB,wfE,wfB,wfV,yax,wgt,List.foldl_nil]
  exact ⟨bB _,eH trivial⟩
 rintro k hk
 unfold c26l0
 simp -implicitDefEqProofs only [rX,↓rY,aA,↓reduceIte,Nat.reduceEqDiff,aT,aY,leE,leH,leB,aC,aB,wfE,wfB,wfV,yae,yac,aU,gX,ha,hb]
 intro _
 cases hd:decide ((k:Int)<l.length) with
 | false =>
  have hd':=of_decide_eq_false hd
  have:k=l.length:=by omega
  subst this
  simp -implicitDefEqProofs only [↓rY,ke,yaE]
 | true =>
  have hd':=of_decide_eq_true hd
  have hkl:k<l.length:=by omega
  simp only [kc]
  have h1:=Hc hw (k:=k) hk
  have h2:=Hc hw (k:=k+1) (by omega)
  rw [m7 hkl] at h2
  refine ⟨⟨by omega,by omega⟩,hkl,by simp only [lo,Fx.hi];omega,by simp only [lo,Fx.hi];omega,k+1,⟨by omega,by omega⟩,⟨by omega,(m7 hkl).symm⟩,bB _,eH trivial⟩
def tO (l:List Op):Bool:=l.all (fun x=>decide (x.2.2.length≤200))&&decide (l.length≤40)
theorem aeO (a b:Bs) (s:Int) (l:List Op) (ha:a.length=16) (hb:b.length=16):Ok 19 [.agg (pe a b s (rO l))] (Is (.b (tO l))):=by
 refine bO lw19 (by simp) ?_
 unfold c19
 simp -implicitDefEqProofs only [rX,↓rY,aA,cells?,↓reduceIte,aD,cxN,aH]
 refine aR (fun k:Nat=>⟨[(3,.i k),(1,.ptr 0 0 0)],[.var (pe a b s (rO l))],1⟩) (fun k=>k≤l.length∧(l.take k).all (fun x=>decide (x.2.2.length≤200))=true) (fun k=>l.length-k) 0 ⟨yaf _,by simp⟩ ?_ ?_
 ·simp -implicitDefEqProofs only [rX,↓reduceIte,Nat.reduceEqDiff,leE,leH,leB,aC,aB,wfE,wfB,wfV,yax]
  exact ⟨bB _,eH trivial⟩
 rintro k ⟨hk,hall⟩
 unfold c19l0
 simp -implicitDefEqProofs only [rX,↓rY,aA,↓reduceIte,Nat.reduceEqDiff,aT,aY,leE,leH,leB,aC,aB,wfE,wfB,wfV,yae,yac,aU,gX,ha,hb]
 intro hm
 cases hd:decide ((k:Int)<l.length) with
 | false =>
  have hd':=of_decide_eq_false hd
  have:k=l.length:=by omega
  subst this
  rw [yaE] at hall
  have hf:tO l=decide ((l.length:Int)≤40):=by
   unfold tO
   rw [hall,Bool.true_and]
   exact decide_eq_decide.2 (by omega)
  simp -implicitDefEqProofs only [↓rY,ke,hf]
  exact fun _=>trivial
 | true =>
  have hd':=of_decide_eq_true hd
  have hkl:k<l.length:=by omega
  simp only [kc]
  refine ⟨⟨by omega,by omega⟩,hkl,?_⟩
  cases hd2:decide ((200:Int)<(l[k].2.2.length:Int)) with
  | true =>
   have h2:=of_decide_eq_true hd2
   have hf:tO l=false:=by
    unfold tO
    have:l.all (fun x=>decide (x.2.2.length≤200))=false:=by
     rw [List.all_eq_false]
     exact ⟨l[k],yam hkl,by simp;omega⟩
    rw [this];rfl
   simp -implicitDefEqProofs only [↓rY,kc,hf]
  | false =>
   have h2:=of_decide_eq_false hd2
   simp only [ke]
   refine ⟨by simp only [lo,Fx.hi,maxLen] at *;omega,k+1,⟨⟨by omega,?_⟩,by omega⟩,by omega,bB _,eH trivial⟩
   rw [yap,yai hkl,ybb,hall]
   simp;omega
def nA (a b:Bs) (s:Int) (l:List Op) (a' b':Bs) (s':Int) (l':List Op):Bool:=a==a'&&b==b'&&s==s'&&l==l'
theorem Md {a b:Bs}:(sb a==sb b)=(a==b):=by
 show (a.toArray==b.toArray)=(a==b)
 simp
theorem eqO {x y:Op} {K:Bool→Prop}:(c6 (lK (.agg [.i x.1,.i x.2.1,sv x.2.2])) fun xs=>c6 (lK (.agg [.i y.1,.i y.2.1,sv y.2.2])) fun ys=>fH xs ys [(0,.int .i64),(1,.int .i64),(2,.string)] K)=K (x==y):=by
 have e:(x==y)=((x.1==y.1)&&((x.2.1==y.2.1)&&((x.2.2==y.2.2)&&true))):=by
  obtain ⟨a,b,c⟩:=x
  obtain ⟨a',b',c'⟩:=y
  rw [Bool.and_true];rfl
 rw [e,←Md]
 exact propext ⟨fun h=>h.2.2.2,fun h=>⟨⟨rfl,rfl⟩,⟨rfl,rfl⟩,⟨rfl,rfl⟩,h⟩⟩
theorem aeL (a b:Bs) (s:Int) (l:List Op) (a' b':Bs) (s':Int) (l':List Op) (ha:a.length=16) (hb:b.length=16) (ha':a'.length=16) (hb':b'.length=16):Ok 24 [.agg (pe a b s (rO l)),.agg (pe a' b' s' (rO l'))] (Is (.b (nA a b s l a' b' s' l'))):=by
 refine bO lw24 (by simp) ?_
 unfold c24
 simp -implicitDefEqProofs only [rX,↓rY,aA,cells?,↓reduceIte,Nat.reduceEqDiff,Nat.reduceAdd,reduceCtorEq,aD,aT,aY,wfV,Nat.reduceLeDiff,cxN,aH,dW,To,gX,Ke,Tn,ha,hb,ha',hb',mL]
 cases h1:(a==a') with
 | false=>simp [br,nA,h1]
 | true =>
 cases h2:(b==b') with
 | false=>simp [br,nA,h2]
 | true =>
 cases h3:(s != s') with
 | true =>
  have:(s==s')=false:=by simpa [bne] using h3
  simp [br,nA,this]
 | false =>
 have h3':(s==s')=true:=by simpa [bne] using h3
 simp only [yaP,ke]
 intro _ _
 have hsp:nA a b s l a' b' s' l'=(l==l'):=by simp only [nA,h1,h2,h3',Bool.true_and]
 rw [hsp]
 cases h4:((l.length:Int) != l'.length) with
 | true =>
  have h4':(l.length:Int)≠l'.length:=by simpa using h4
  have:(l==l')=false:=by
   rw [beq_eq_false_iff_ne];intro h;rw [h] at h4';exact h4' rfl
  simp only [kc,this]
 | false =>
 have h4':(l.length:Int)=l'.length:=by simpa using h4
 simp only [ke]
 refine aR (fun k:Nat=>⟨[(5,.i k),(2,.ptr 0 0 0),(3,.ptr 1 0 0)],[.var (pe a b s (rO l)),.var (pe a' b' s' (rO l'))],2⟩) (fun k=>k≤l.length∧l.take k=l'.take k) (fun k=>l.length-k) 0 ⟨yaf _,by simp⟩ ?_ ?_
 ·simp -implicitDefEqProofs only [rX,↓reduceIte,Nat.reduceEqDiff,leE,leH,leB,aC,aB,wfE,wfB,wfV,yax]
  exact ⟨⟨bB _,bB _⟩,eH trivial,eH trivial⟩
 rintro k ⟨hk,heq⟩
 unfold c24l0
 simp -implicitDefEqProofs only [rX,↓rY,aA,↓reduceIte,Nat.reduceEqDiff,Nat.reduceAdd,aT,aY,leE,leH,leB,aC,aB,wfE,wfB,wfV,yae,yac,gX,ha,hb,ha',hb']
 intro _
 cases hd:decide ((k:Int)<l.length) with
 | false =>
  have hd':=of_decide_eq_false hd
  have:k=l.length:=by omega
  subst this
  rw [yaE,yaa (by omega)] at heq
  simp -implicitDefEqProofs only [↓rY,ke,heq,beq_self_eq_true]
 | true =>
  have hd':=of_decide_eq_true hd
  have hkl:k<l.length:=by omega
  have hkl':k<l'.length:=by omega
  simp only [kc]
  refine ⟨⟨by omega,by omega⟩,hkl,⟨by omega,by omega⟩,hkl',?_⟩
  rw [eqO]
  cases h5:(l[k]==l'[k]) with
  | false =>
   have:(l==l')=false:=by
    rw [beq_eq_false_iff_ne] at h5 ⊢;rintro rfl;exact h5 rfl
   simp only [yaT,kc,this]
  | true =>
   simp only [yaP,ke]
   refine ⟨by simp only [lo,Fx.hi,maxLen] at *;omega,k+1,⟨⟨by omega,?_⟩,by omega⟩,by omega,⟨bB _,bB _⟩,eH trivial,eH trivial⟩
   rw [yap,yap,heq,yai hkl,yai hkl',beq_iff_eq.1 h5]
end Go.Fx.H
namespace Go.Fx.H
open Go Go.Fx Go.Proofs Go.Fx.R
set_option maxRecDepth 20000
section
variable {a b:Bs} {s:Int} {o o':V}
theorem sJ {M:List Nat} {x y:List V}:bM M (x++y)=bM M x++bM M y:=by
 induction x with
 | nil=>rfl
 | cons u r ih=>simp [bM,ih]
theorem vD (ha:a.length=16) (hb:b.length=16):yah 33 (pe a b s o)++[o']=pe a b s o':=by
 have e:pe a b s o=(us a++(us b++[.i s]))++[o]:=by simp [pe]
 rw [e,yaB (by simp [cJ,ha,hb]),yaa (by simp [cJ,ha,hb])]
 simp [pe]
theorem d4 {M:List Nat}:bM M (pe a b s o)=pe a b s (kill M o):=by
 unfold pe
 rw [sJ,sJ,pK,pK];rfl
theorem u6 {f:Nat→Option Nat} {x y:List V}:cH f (x++y)=cH f x++cH f y:=by
 induction x with
 | nil=>rfl
 | cons u r ih=>simp [cH,ih]
theorem mE {f:Nat→Option Nat}:cH f (pe a b s o)=pe a b s (ren f o):=by
 unfold pe
 rw [u6,u6,a6,a6];rfl
end
abbrev rwO (l:List Op):Blk:=.arr 3 (l.map enO)
def flO (o:List Op) (new:Bs) (p i:Nat):List Op:=if p<i then o++[(0,0,(new.take i).drop p)] else o
theorem Ze (a b new:Bs) (s:Int) (l:List Op) (p i:Nat) (ha:a.length=16) (hb:b.length=16) (hl:l.length≤1000000) (hi:i≤new.length) (hn:new.length≤1000000) :
  OkN Tryz.prog 71 [.i i,.ptr 0 0 0,.ptr 1 0 0,.ptr 2 0 0] [.var [.i p],.var (pe a b s (.sl 3 0 l.length)),.var [sv new],rwO l] [3] (IsA (.tup []) [.var [.i p],.var (pe a b s (.sl 3 0 (flO l new p i).length)),.var [sv new],rwO (flO l new p i)]):=by
 refine f9 pol [0,1,2] lw71 (by simp) ⟨trivial,trivial,trivial,trivial⟩ (fun k hk hm=>by simp at hk hm ⊢;omega) ?_
 unfold c71
 simp -implicitDefEqProofs only [rX,↓rY,qs,rdK,zD,cells?,splice,↓reduceIte,Nat.reduceEqDiff,Nat.reduceAdd,reduceCtorEq,aD,cC,bG,bY,aT,aY,leH,leB,leV,dH,aC,aB,wfB,wfV,wfL,aP,aZ,kill,bM,St.kill,isD,isC,Nat.reduceLT,yac,cxN,aU,d6,aH,dW,gX,dX,d4,ha,hb,bP]
 cases hd:decide ((p:Int)<i) with
 | false =>
  have hd':=of_decide_eq_false hd
  have e1:flO l new p i=l:=if_neg (by omega)
  rw [ke,e1]
  exact ⟨⟨bB _,rfl⟩,eH (by simp [wfV,aB])⟩
 | true =>
  have hd':=of_decide_eq_true hd
  have e1:flO l new p i=l++[(0,0,(new.take i).drop p)]:=if_pos (by omega)
  rw [kc,e1]
  refine ⟨⟨⟨by omega,by omega⟩,by omega,yaM _⟩,by omega,⟨?_,?_⟩,eH (by simp [wfV,aB])⟩
  ·rw [vD ha hb,yab];exact bB _
  ·rw [yaa (by simp),eD]
   simp [rwO]
def mZ (old:Bs) (b:Nat) (q:Bs):Nat→Option Nat
 | 0=>none
 | j+1=>match mZ old b q j with
  | some f=>some f
  | none=>if bk old b j=q∧q.length=b then some (j*b) else none
def fnd (old:Bs) (b:Nat) (q:Bs):Option Nat:=mZ old b q (nb old.length b)
def oI:Option Nat→Int
 | some f=>f
 | none=>-1
theorem Ja {old q:Bs} {b i:Nat} (h:bk old b i=q∧q.length=b) (hlt:∀ k,k<i→bk old b k≠q):∀ {j},i<j→mZ old b q j=some (i*b)
 | 0,hj=>absurd hj (ybd _)
 | j+1,hj=>by
  unfold mZ
  rcases yav i j with h3|h3
  ·rw [Ja h hlt h3]
  ·have hij:i=j:=by omega
   subst hij
   have hn:∀ k,k≤i→mZ old b q k=none:=by
    intro k
    induction k with
    | zero=>intro _;rfl
    | succ k ih =>
     intro hk
     unfold mZ
     rw [ih (by omega)]
     simp only
     rw [if_neg (fun h=>hlt k (by omega) h.1)]
   rw [hn i (yad _)]
   simp only
   rw [if_pos h]
theorem sN {old q:Bs} {b:Nat} (h:∀ i,¬(bk old b i=q∧q.length=b)):∀ j,mZ old b q j=none
 | 0=>rfl
 | j+1=>by unfold mZ;rw [sN h j];simp only;rw [if_neg (h j)]
theorem sO {old q:Bs} {b f:Nat}:∀ {j},mZ old b q j=some f→∃ i,i<j∧f=i*b∧bk old b i=q∧q.length=b
 | 0,h=>by cases h
 | j+1,h=>by
  unfold mZ at h
  cases h1:mZ old b q j with
  | some g =>
   rw [h1] at h
   cases h
   obtain ⟨i,h2,h3⟩:=sO h1
   exact ⟨i,by omega,h3⟩
  | none =>
   rw [h1] at h
   simp only at h
   split at h
   ·rename_i h2
    cases h
    exact ⟨j,by omega,rfl,h2⟩
   ·cases h
theorem Jh {old:Bs} {b j:Nat} (h:(bk old b j).length=b) (hb:1≤b):j*b+b≤old.length:=by rw [Bq] at h;omega
theorem aeD (old q:Bs) (hq:1≤q.length) (ho:old.length≤1000000) (hq2:q.length≤1000000):Ok 73 [sv old,sv q] (Is (.i (oI (fnd old q.length q)))):=by
 refine bO lw73 (by simp) ?_
 unfold c73
 simp -implicitDefEqProofs only [rX,aA,cxN,aH]
 refine aR (fun j:Nat=>⟨[(5,.i (j*q.length:Nat)),(0,sv old),(1,sv q)],[],0⟩) (fun j=>j*q.length≤old.length∧∀ k,k<j→bk old q.length k≠q) (fun j=>old.length+1-j*q.length) 0 ⟨by omega,by omega⟩ ?_ ?_
 ·simp -implicitDefEqProofs only [rX,↓reduceIte,Nat.reduceEqDiff,reduceCtorEq,leE,leH,aC,wfE,wfB,wfV,Nat.zero_mul,yax]
 rintro j ⟨hj,hne⟩
 unfold c73l0
 simp -implicitDefEqProofs only [rX,↓rY,zD,aA,↓reduceIte,Nat.reduceEqDiff,reduceCtorEq,cC,aT,aY,leE,leH,aC,wfE,wfB,wfV,↓jk,yac,aU,cO]
 generalize hb:q.length=b at *
 refine ⟨by simp only [lo,Fx.hi];omega,?_⟩
 have hs:(j+1)*b=j*b+b:=by rw [ybi]
 cases hd:decide (((j*b:Nat):Int)+(b:Int)≤(old.length:Int)) with
 | false =>
  have hd':=of_decide_eq_false hd
  have:fnd old b q=none:=by
   refine sN (fun i h=>?_) _
   have h1:=Jh (h.1▸h.2) hq
   rcases yav i j with h2|h2
   ·exact hne i h2 h.1
   ·have h3:j*b≤i*b:=Nat.mul_le_mul_right b h2
    omega
  rw [ke,this];rfl
 | true =>
 have hd':=of_decide_eq_true hd
 rw [kc]
 have e1:(((j*b:Nat):Int)+(b:Int)).toNat=min old.length (j*b+b):=by omega
 have e2:((sb old).extract (j*b) (((j*b:Nat):Int)+(b:Int)).toNat).toList=bk old b j:=by
  rw [e1,eD,Pk,cO]
 rw [e2]
 refine ⟨by simp only [lo,Fx.hi];omega,⟨⟨by omega,by omega⟩,by omega,yaM _⟩,?_⟩
 cases h2:(bk old b j==q) with
 | true =>
  have h3:=beq_iff_eq.1 h2
  have h4:j<nb old.length b:=(vH hq).1 (by omega)
  have:fnd old b q=some (j*b):=Ja ⟨h3,hb⟩ hne h4
  rw [kc,this];rfl
 | false =>
  rw [ke]
  refine ⟨by simp only [lo,Fx.hi];omega,j+1,⟨⟨by omega,fun k hk=>?_⟩,by omega⟩,by omega⟩
  rcases yav k j with h3|h3
  ·exact hne k h3
  ·rw [show k=j by omega];exact beq_eq_false_iff_ne.1 h2
def lkp (q:Bs):List (Bs × Nat)→Nat→Option (Nat × V)
 | [],_=>none
 | e::r,i=>if q=e.1 then some (i,.i e.2) else lkp q r (i+1)
def gV (old:Bs) (b:Nat):Nat→List (Bs × Nat)
 | 0=>[]
 | j+1=>if lkp (bk old b j) (gV old b j) 0=none∧(bk old b j).length=b then gV old b j++[(bk old b j,j*b)] else gV old b j
def esV:List (Bs × Nat)→Nat→List (Value × V × Nat)
 | [],_=>[]
 | e::r,i=>(.string (sb e.1),.i e.2,i)::esV r (i+1)
theorem Rz {l:List (Bs × Nat)} {x:Bs × Nat}:∀ {i},esV (l++[x]) i=esV l i++[(.string (sb x.1),.i x.2,i+l.length)]:=by
 induction l with
 | nil=>intro i;rfl
 | cons y r ih =>
  intro i
  show _::esV (r++[x]) (i+1)=_::(esV r (i+1)++_)
  rw [ih,yaQ,show i+1+r.length=i+(r.length+1) by omega]
theorem vK {q:Bs}:∀ {l:List (Bs × Nat)} {i n},fZ .string (.string (sb q)) (esV l n) i=some (lkp q l i)
 | [],_,_=>rfl
 | e::r,i,n=>by
  have hs:Instr.sameNow .string (.string (sb q)) (.string (sb e.1))=some (decide (q=e.1)):=by
   have e0:(sb q==sb e.1)=decide (q=e.1):=by rw [Md,ybc];simp
   rw [←e0];rfl
  show (match Instr.sameNow .string (.string (sb q)) (.string (sb e.1)) with
   | some true=>some (some (i,V.i e.2))
   | some false=>fZ .string (.string (sb q)) (esV r (n+1)) (i+1)
   | none=>none)=_
  rw [hs]
  unfold lkp
  by_cases h:q=e.1
  ·rw [decide_eq_true h,if_pos h]
  ·rw [decide_eq_false h,if_neg h]
   exact vK
theorem In {q:Bs} {x:Bs × Nat}:∀ {l:List (Bs × Nat)} {i},lkp q (l++[x]) i=match lkp q l i with
  | some r=>some r
  | none=>if q=x.1 then some (i+l.length,.i x.2) else none
 | [],i=>rfl
 | e::r,i=>by
  show (if q=e.1 then _ else lkp q (r++[x]) (i+1))=match (if q=e.1 then _ else lkp q r (i+1)) with
   | some r=>some r
   | none=>_
  by_cases h:q=e.1
  ·rw [if_pos h,if_pos h]
  ·rw [if_neg h,if_neg h,In,yaQ,show i+1+r.length=i+(r.length+1) by omega]
theorem Im {old q:Bs} {b:Nat}:∀ {j},(lkp q (gV old b j) 0).map (·.2)=(mZ old b q j).map fun f=>V.i (f:Nat)
 | 0=>rfl
 | j+1=>by
  have ih:=Im (old:=old) (q:=q) (b:=b) (j:=j)
  unfold gV mZ
  by_cases h:lkp (bk old b j) (gV old b j) 0=none∧(bk old b j).length=b
  ·rw [if_pos h,In]
   cases h1:lkp q (gV old b j) 0 with
   | some r =>
    rw [h1] at ih
    cases h2:mZ old b q j with
    | none=>rw [h2] at ih;simp at ih
    | some f=>rw [h2] at ih;simpa using ih
   | none =>
    rw [h1] at ih
    cases h2:mZ old b q j with
    | some f=>rw [h2] at ih;simp at ih
    | none =>
     simp only
     by_cases h3:q=bk old b j
     ·rw [if_pos h3,if_pos ⟨h3.symm,by rw [h3];exact h.2⟩];rfl
     ·rw [if_neg h3,if_neg (fun h4=>h3 h4.1.symm)];rfl
  ·rw [if_neg h]
   cases h2:mZ old b q j with
   | some f=>rw [h2] at ih;simpa using ih
   | none =>
    rw [h2] at ih
    simp only
    rw [if_neg ?_]
    ·exact ih
    ·rintro ⟨h3,h4⟩
     subst h3
     refine h ⟨?_,h4⟩
     cases h5:lkp (bk old b j) (gV old b j) 0 with
     | none=>rfl
     | some r=>rw [h5] at ih;simp at ih
end Go.Fx.H
namespace Go.Fx.H
open Go Go.Fx Go.Proofs Go.Fx.R
set_option maxRecDepth 20000
theorem xT:[V.v (Value.int IntKind.u8 0),V.v (Value.int IntKind.u8 0),V.v (Value.int IntKind.u8 0),V.v (Value.int IntKind.u8 0),V.v (Value.int IntKind.u8 0),V.v (Value.int IntKind.u8 0),V.v (Value.int IntKind.u8 0),V.v (Value.int IntKind.u8 0),V.v (Value.int IntKind.u8 0),V.v (Value.int IntKind.u8 0),V.v (Value.int IntKind.u8 0),V.v (Value.int IntKind.u8 0),V.v (Value.int IntKind.u8 0),V.v (Value.int IntKind.u8 0),V.v (Value.int IntKind.u8 0),V.v (Value.int IntKind.u8 0),V.v (Value.int IntKind.u8 0),V.v (Value.int IntKind.u8 0),V.v (Value.int IntKind.u8 0),V.v (Value.int IntKind.u8 0),V.v (Value.int IntKind.u8 0),V.v (Value.int IntKind.u8 0),V.v (Value.int IntKind.u8 0),V.v (Value.int IntKind.u8 0),V.v (Value.int IntKind.u8 0),V.v (Value.int IntKind.u8 0),V.v (Value.int IntKind.u8 0),V.v (Value.int IntKind.u8 0),V.v (Value.int IntKind.u8 0),V.v (Value.int IntKind.u8 0),V.v (Value.int IntKind.u8 0),V.v (Value.int IntKind.u8 0),V.v (Value.int IntKind.i64 0),V.v (Value.slice none 0 0)]=pe z16 z16 0 (.v (.slice none 0 0)):=by unfold pe us z16;rfl
theorem Xn:[V.v (Value.int IntKind.u8 0),V.v (Value.int IntKind.u8 0),V.v (Value.int IntKind.u8 0),V.v (Value.int IntKind.u8 0),V.v (Value.int IntKind.u8 0),V.v (Value.int IntKind.u8 0),V.v (Value.int IntKind.u8 0),V.v (Value.int IntKind.u8 0),V.v (Value.int IntKind.u8 0),V.v (Value.int IntKind.u8 0),V.v (Value.int IntKind.u8 0),V.v (Value.int IntKind.u8 0),V.v (Value.int IntKind.u8 0),V.v (Value.int IntKind.u8 0),V.v (Value.int IntKind.u8 0),V.v (Value.int IntKind.u8 0),V.v (Value.int IntKind.u8 0),V.v (Value.int IntKind.u8 0),V.v (Value.int IntKind.u8 0),V.v (Value.int IntKind.u8 0),V.v (Value.int IntKind.u8 0),V.v (Value.int IntKind.u8 0),V.v (Value.int IntKind.u8 0),V.v (Value.int IntKind.u8 0),V.v (Value.int IntKind.u8 0),V.v (Value.int IntKind.u8 0),V.v (Value.int IntKind.u8 0),V.v (Value.int IntKind.u8 0),V.v (Value.int IntKind.u8 0),V.v (Value.int IntKind.u8 0),V.v (Value.int IntKind.u8 0),V.v (Value.int IntKind.u8 0),V.v (Value.int IntKind.i64 0),V.v (Value.slice none 0 0),V.v (Value.int IntKind.i64 0)]=pe z16 z16 0 (.v (.slice none 0 0))++[.i 0]:=by unfold pe us z16;rfl
section
variable {a b:Bs} {s:Int} {o v:V}
theorem q_l (ha:a.length=16) (hb:b.length=16):(pe a b s o++[v]).length=35:=by rw [yab,dW ha hb];rfl
theorem q_t (ha:a.length=16) (hb:b.length=16):yah 34 (pe a b s o++[v])=pe a b s o:=by
 rw [yaB (by rw [dW ha hb];exact yad _),fE ha hb]
theorem q_d (ha:a.length=16) (hb:b.length=16):yaj 35 (pe a b s o++[v])=[]:=yak (by rw [q_l ha hb];exact yad _)
theorem adV (ha:a.length=16) (hb:b.length=16):yaj 34 (pe a b s o++[v])=[v]:=by
 rw [yaL (by rw [dW ha hb];exact yad _),dX ha hb];rfl
theorem q_f (ha:a.length=16) (hb:b.length=16):yah 35 (pe a b s o++[v])=pe a b s o++[v]:=yaa (by rw [q_l ha hb];exact yad _)
theorem q_C {k:Int} (ho:isC o=true):(pe a b s o++[V.v (.int .i64 k)]).all isC=true:=by rw [ybb,Aj ho];rfl
theorem Mt (ha:a.length=16) (hb:b.length=16):yaj 32 (pe a b s o)=[.i s,o]:=by
 rw [show 32=16+16 from rfl,←List.drop_drop,Wa ha,yaL (by rw [cJ];omega),yak (by rw [cJ];omega)];rfl
theorem Vz (ha:a.length=16) (hb:b.length=16):yaj 33 (pe a b s o)=[o]:=by
 rw [show 33=32+1 from rfl,←List.drop_drop,Mt ha hb];rfl
theorem Vy (ha:a.length=16) (hb:b.length=16):yah 32 (pe a b s o)=us a++us b:=by
 unfold pe
 rw [←yal,yaB (by rw [yab,cJ,cJ];omega),yaa (by rw [yab,cJ,cJ];omega)]
theorem r1 {d:Bs} (ha:a.length=16):us d++yaj 16 (pe a b s o)=pe d b s o:=by rw [Wa ha];rfl
theorem r2 {d:Bs} (ha:a.length=16) (hb:b.length=16):us a++us d++yaj 32 (pe a b s o)=pe a d s o:=by rw [Mt ha hb,yal];rfl
theorem r3 {n:Int} (ha:a.length=16) (hb:b.length=16):yah 32 (pe a b s o)++[V.v (.int .i64 n)]++yaj 33 (pe a b s o)=pe a b n o:=by
 rw [Vz ha hb,Vy ha hb]
 simp [pe]
end
def xN (o:List Op) (c:Bs):List Op :=
 match o.getLast? with
 | some x=>if x.2.2≠[] then o.dropLast++[(x.1,x.2.1,x.2.2++c)] else o++[(0,0,c)]
 | none=>o++[(0,0,c)]
def m5 (o:List Op) (f b:Nat):List Op :=
 match o.getLast? with
 | some x=>if x.2.2=[]∧x.2.1=f then o.dropLast++[(x.1,(f:Int)+b,x.2.2)] else o++[((f:Int),(f:Int)+b,[])]
 | none=>o++[((f:Int),(f:Int)+b,[])]
def pc (new:Bs) (b i:Nat):Bs:=(new.drop i).take b
def jV (old new:Bs) (b i:Nat) (o:List Op):List Op :=
 if i<new.length then
  match fnd old b (pc new b i) with
  | none=>jV old new b (i+1) (xN o (pc new 1 i))
  | some f=>jV old new b (i+(b-1)+1) (m5 o f b)
 else o
termination_by new.length-i
def dfE (old new:Bs) (b:Int):Int:=if b<1∨4096<b then 1 else if 65536<(max old.length new.length:Nat) then 2 else 0
def dig (t:Bs):Bs:=cD 34 [t]
def dfO (old new:Bs) (b:Int):List Op:=if dfE old new b≠0 then [] else jV old new b.toNat 0 []
def dfP (old new:Bs) (b:Int) (o:V):List V:=if dfE old new b≠0 then pe z16 z16 0 o else pe (dig old) (dig new) new.length o
theorem Hv {a b:Bs} {s:Int} {o:V} {M:Nat→Bool} {h:List Blk}:gvL M h (pe a b s o)=pe a b s (gvV M h o):=by
 have app:∀ x y:List V,gvL M h (x++y)=gvL M h x++gvL M h y:=by
  intro x y
  induction x with
  | nil=>rfl
  | cons u r ih=>simp [gvL,ih]
 have ug:∀ l:Bs,gvL M h (us l)=us l:=fun l=>y8 _ nU
 unfold pe
 rw [app,app,ug,ug];rfl
theorem tR {x y x' y':List V} (h1:wkL x x') (h2:wkL y y') (hl:x.length=x'.length):wkL (x++y) (x'++y'):=by
 induction x generalizing x' with
 | nil=>cases x' with
  | nil=>exact h2
  | cons=>simp at hl
 | cons u r ih=>cases x' with
  | nil=>simp at hl
  | cons u' r'=>exact ⟨h1.1,ih h1.2 (by simpa using hl)⟩
theorem Lj {l:Bs}:wkL (us l) (us l):=by
 have h:=(eC (l:=l) (h:=[]) (g:=fun _=>none)).2
 have e:∀ x:List V,(∀ v∈x,∃ u,v=.v u)→aS [] (fun _=>none) x=x:=by
  intro x hx
  induction x with
  | nil=>rfl
  | cons v r ih =>
   obtain ⟨u,rfl⟩:=hx v yaS
   show V.v u::aS [] (fun _=>none) r=_
   rw [ih fun w hw=>hx w (ybo _ hw)]
 rwa [e _ nU] at h
theorem Cv {a b:Bs} {s:Int} {o o':V} (h:wk o o'):wkL (pe a b s o) (pe a b s o'):=tR Lj (tR Lj ⟨rfl,h,trivial⟩ rfl) rfl
theorem Oy {old new:Bs} {b:Int} {k:Int} (hk:dfE old new b=k) (h0:k≠0):(pe z16 z16 0 (V.v (Value.slice none 0 0))++[V.v (Value.int IntKind.i64 k)]).all isC=true ∧
   ∃ p:List Blk,(leH [Blk.var (pe z16 z16 0 (V.v (Value.slice none 0 0))++[V.v (Value.int IntKind.i64 k)])] p ∧
      0≤p.length∧wfL p (pe z16 z16 0 (V.v (Value.slice none 0 0))++[V.v (Value.int IntKind.i64 k)])∧wfB p p) ∧
     wk (V.agg (dfP old new b (rO (dfO old new b))++[V.i (dfE old new b)]))
      (gvV (fun x=>true) p (V.agg (pe z16 z16 0 (V.v (Value.slice none 0 0))++[V.v (Value.int IntKind.i64 k)]))):=by
 have e1:dfO old new b=[]:=if_pos (by rw [hk];exact h0)
 have e2:∀ o,dfP old new b o=pe z16 z16 0 o:=fun o=>if_pos (by rw [hk];exact h0)
 refine ⟨q_C rfl,[],⟨trivial,yaf _,l6.2 ⟨eH trivial,trivial,trivial⟩,trivial⟩,?_⟩
 rw [e1,e2,hk]
 have e3:gvL (fun _=>true) [] (pe z16 z16 0 (V.v (Value.slice none 0 0))++[V.v (Value.int IntKind.i64 k)])=pe z16 z16 0 (V.v (Value.slice none 0 0))++[V.v (Value.int IntKind.i64 k)]:=by
  have app:∀ x y:List V,gvL (fun _=>true) [] (x++y)=gvL (fun _=>true) [] x++gvL (fun _=>true) [] y:=by
   intro x y
   induction x with
   | nil=>rfl
   | cons u r ih=>simp [gvL,ih]
  rw [app,Hv];rfl
 show wkL _ (gvL _ _ _)
 rw [e3]
 exact tR (Cv (by simp [wk,wkR])) ⟨rfl,trivial⟩ (by rw [dW bQ bQ,dW bQ bQ])
def jW:LCode→LCode
 | .block _ b=>b
 | c=>c
theorem c21l0_parts:c21l0=.seq (pt 0 c21l0) (.block 1 (.seq (pt 0 (jW (rt 1 c21l0))) (.seq (pt 1 (jW (rt 1 c21l0))) (.seq (pt 2 (jW (rt 1 c21l0))) (.seq (pt 3 (jW (rt 1 c21l0))) (rt 4 (jW (rt 1 c21l0)))))))):=by rfl
abbrev cE:Cx:=cxN Tryz.prog []
structure E21 (old new:Bs) (n i:Nat) (e:Env):Prop where
 e0:get e 0=sv old
 e1:get e 1=sv new
 e2:get e 2=.i n
 e6:get e 6=.ptr 0 0 0
 e7:get e 7=.ptr 1 0 0
 e8:get e 8=.i i
abbrev h21 (D1 D2 new:Bs) (o:List Op):List Blk:=[.var (pe z16 z16 0 (.v (.slice none 0 0))++[.i 0]),.var (pe D1 D2 new.length (.sl 2 0 o.length)),rwO o]
theorem vE {new:Bs} {b i:Nat}:(pc new b i).length=min b (new.length-i):=by simp [pc]
theorem Mu {new:Bs} {b i:Nat} (h:i+b≤new.length):(new.take (i+b)).drop i=pc new b i:=by
 unfold pc;rw [List.drop_take];congr 1;omega
section
variable {old new D1 D2:Bs} {n i:Nat} {o:List Op} {N R:St→Prop} {X:Nat→St→Prop} {e:Env} {bb:Nat}
theorem Yc (hn:1≤n) (hn2:n≤4096) (h1:old.length≤1000) (h2:new.length≤1000) (hi:i<new.length) (hE:E21 old new n i e) (e9:get e 9=.i (-1))
  (hN:∀ e b',E21 old new n i e→get e 9=.i (oI (fnd old n (pc new n i)))→N ⟨e,h21 D1 D2 new o,b'⟩):aw cE (pt 1 (jW (rt 1 c21l0))) N X R ⟨e,h21 D1 D2 new o,bb⟩:=by
 obtain ⟨e0,e1,e2,e6,e7,e8⟩:=hE
 conv=>arg 2;whnf
 simp -implicitDefEqProofs only [rX,↓rY,zD,↓reduceIte,Nat.reduceEqDiff,Nat.reduceAdd,reduceCtorEq,cC,yac,cxN,aU,e0,e1,e2,e8]
 refine ⟨by simp only [lo,Fx.hi];omega,?_⟩
 cases hd:decide ((i:Int)+(n:Int)≤(new.length:Int)) with
 | false =>
  have hd':=of_decide_eq_false hd
  have:fnd old n (pc new n i)=none:=sN (fun j h=>by have:=h.2;rw [vE] at this;omega) _
  simp -implicitDefEqProofs only [↓rY,ke]
  refine hN _ _ ⟨e0,e1,e2,e6,e7,e8⟩ ?_
  rw [this]
  exact e9
 | true =>
  have hd':=of_decide_eq_true hd
  have hl:(pc new n i).length=n:=by rw [vE];omega
  simp -implicitDefEqProofs only [↓rY,kc]
  have e3:((i:Int)+(n:Int)).toNat=i+n:=by omega
  rw [e3,eD,Mu (by omega)]
  refine ⟨by simp only [lo,Fx.hi];omega,⟨⟨by omega,by omega⟩,by omega,yaM _⟩,?_⟩
  have ok:=aeD old (pc new n i) (by omega) (by omega) (by omega)
  rw [hl] at ok
  refine aE ok ⟨⟨trivial,trivial,trivial⟩,rfl,rfl,trivial⟩ rfl trivial ?_
  simp -implicitDefEqProofs only [rX,↓reduceIte]
  exact hN _ _ ⟨e0,e1,e2,e6,e7,e8⟩ rfl
theorem kz2:bM [2] (pe z16 z16 0 (V.v (Value.slice none 0 0))++[V.i 0])=pe z16 z16 0 (V.v (Value.slice none 0 0))++[V.i 0]:=by rw [sJ,d4];rfl
theorem E21.kill (h:E21 old new n i e):E21 old new n i (aP [2] e):=by
 obtain ⟨e0,e1,e2,e6,e7,e8⟩:=h
 exact ⟨by rw [aQ,e0];rfl,by rw [aQ,e1];rfl,by rw [aQ,e2];rfl,by rw [aQ,e6];rfl,by rw [aQ,e7];rfl,by rw [aQ,e8];rfl⟩
theorem Ez {a b:Bs}:sb a++sb b=sb (a++b):=by
 apply ByteArray.ext
 rw [ByteArray.data_append]
 simp [sb]
theorem set_last {o1:List Op} {x y:Op}:((o1++[x]).map enO).set o1.length (enO y)=(o1++[y]).map enO:=by
 rw [yaq,yaq,yaJ _ _ (by simp)]
 simp
theorem nR {o:List Op} {x:Op} {c:Bs}:xN (o++[x]) c=if x.2.2≠[] then o++[(x.1,x.2.1,x.2.2++c)] else (o++[x])++[(0,0,c)]:=by
 unfold xN
 rw [ybx,yby]
 simp only [Option.some_or,ybz]
theorem fW {o:List Op} {x:Op} {f b:Nat}:m5 (o++[x]) f b=if x.2.2=[]∧x.2.1=f then o++[(x.1,(f:Int)+b,x.2.2)] else (o++[x])++[((f:Int),(f:Int)+b,[])]:=by
 unfold m5
 rw [ybx,yby]
 simp only [Option.some_or,ybz]
set_option maxHeartbeats 1000000 in
theorem Vm (hn:1≤n) (hn2:n≤4096) (h1:old.length≤1000) (h2:new.length≤1000) (hi:i<new.length) (hol:o.length≤i) (d1:D1.length=16) (d2:D2.length=16) (hxb:∀ x∈o,x.2.2.length≤1000+1000*1000) (hE:E21 old new n i e) (e9:get e 9=.i (-1)) (e10:get e 10=.i o.length)
  (hN:∀ e b' o' tl,E21 old new n i e→get e 9=.i (-1)→o'=xN o (pc new 1 i)→N ⟨e,h21 D1 D2 new o'++tl,b'⟩):aw cE (pt 3 (jW (rt 1 c21l0))) N X R ⟨e,h21 D1 D2 new o,bb⟩:=by
 obtain ⟨e0,e1,e2,e6,e7,e8⟩:=hE
 conv=>arg 2;whnf
 have e9':get e 9=.i (-1):=e9
 have hk:=E21.kill ⟨e0,e1,e2,e6,e7,e8⟩
 have k9:get (aP [2] e) 9=.i (-1):=by rw [aQ,e9'];rfl
 have k7:=hk.e7
 have ex1:((i:Int)+1).toNat=i+1:=by omega
 have hx:(sb new).extract i (i+1)=sb (pc new 1 i):=by rw [eD,Mu (by omega)]
 rcases ybp o with rfl|⟨o1,x,rfl⟩
 ·simp -implicitDefEqProofs only [rX,↓rY,qs,rdK,zD,aA,cells?,splice,↓reduceIte,Nat.reduceEqDiff,eQ,Nat.reduceAdd,reduceCtorEq,aD,cC,bG,bY,aP,aZ,kill,bM,St.kill,isD,isC,Nat.reduceLT,Nat.reduceLeDiff,↓jj,↓jk,yac,cxN,aU,cO,d6,e1,e2,e7,e8,e9',e10,k7,kz2,dW,gX,dX,d4,vD,d1,d2,show decide ((-1:Int)<0)=true from rfl,show decide ((0:Int)<((0:Nat):Int))=false from rfl,ex1,hx]
  refine ⟨by simp only [lo,Fx.hi];omega,⟨⟨by omega,by omega⟩,by omega,yaM _⟩,by decide,?_⟩
  refine hN _ _ [(0,0,pc new 1 i)] [_,_] ?_ ?_ rfl
  ·exact ⟨hk.e0,hk.e1,hk.e2,hk.e6,hk.e7,hk.e8⟩
  ·exact k9
 ·rw [ybq] at *
  have hl1:((o1++[x]).length:Nat)=o1.length+1:=by simp
  have hd0:decide ((0:Int)<((o1.length+1:Nat):Int))=true:=decide_eq_true (by omega)
  have hidx:(((o1.length+1:Nat):Int)-1).toNat=o1.length:=by omega
  have hlast:∀ hh,(o1++[x])[(((o1.length+1:Nat):Int)-1).toNat]'hh=x:=by
   intro hh;simp only [hidx];simp
  have hkk:(((o1.length+1:Nat):Int)-1).toNat<(o1++[x]).length:=by rw [hl1];omega
  have hle:o1.length+1≤i:=by rw [←hl1];exact hol
  simp -implicitDefEqProofs only [rX,↓rY,qs,rdK,zD,aA,cells?,splice,↓reduceIte,Nat.reduceEqDiff,eQ,Nat.reduceAdd,reduceCtorEq,aD,cC,bG,bY,aP,aZ,kill,bM,St.kill,isD,isC,Nat.reduceLT,Nat.reduceLeDiff,↓jj,↓jk,yae,yac,cxN,aU,cO,d6,e1,e2,e7,e8,e9',e10,k7,kz2,dW,gX,dX,d4,vD,d1,d2,show decide ((-1:Int)<0)=true from rfl,hl1,hd0,kc,hlast,ex1,hx]
  refine ⟨by simp only [lo,Fx.hi];omega,by omega,by omega,?_⟩
  cases h9:(x.2.2==[]) with
  | true =>
   have h9':x.2.2=[]:=beq_iff_eq.1 h9
   simp -implicitDefEqProofs only [rX,↓rY,show decide ((-1:Int)<0)=true from rfl,ke]
   refine ⟨by simp only [lo,Fx.hi];omega,⟨⟨by omega,by omega⟩,by omega,yaM _⟩,by omega,?_⟩
   rw [yaa (show ((o1++[x]).map enO).length≤o1.length+1 by simp)]
   have hs:=fun e1 b1 tl=>hN e1 b1 ((o1++[x])++[(0,0,pc new 1 i)]) tl
   unfold h21 at hs
   rw [yab,hl1,show rwO ((o1++[x])++[(0,0,pc new 1 i)])=.arr 3 ((o1++[x]).map enO++[enO (0,0,pc new 1 i)]) by unfold rwO;rw [yaq];rfl] at hs
   refine hs _ _ [_,_] ?_ ?_ ?_
   ·exact ⟨hk.e0,hk.e1,hk.e2,hk.e6,hk.e7,hk.e8⟩
   ·exact k9
   ·rw [nR,if_neg (by simp [h9'])]
  | false =>
   have h9':x.2.2≠[]:=beq_eq_false_iff_ne.1 h9
   simp -implicitDefEqProofs only [rX,↓rY,show decide ((-1:Int)<0)=true from rfl,kc]
   have hxl:x.2.2.length≤1000+1000*1000:=hxb x (by simp)
   have hpl:(pc new 1 i).length≤1:=by rw [vE];omega
   refine ⟨by simp only [lo,Fx.hi];omega,by simp only [lo,Fx.hi];omega,⟨by omega,by omega⟩,by omega,by simp only [lo,Fx.hi];omega,⟨⟨by omega,by omega⟩,by omega,yaM _⟩,by omega,⟨by omega,by omega⟩,by omega,?_⟩
   rw [hidx,Ez,set_last (y:=(x.1,x.2.1,x.2.2++pc new 1 i))]
   have hs:=fun e1 b1 tl=>hN e1 b1 (o1++[(x.1,x.2.1,x.2.2++pc new 1 i)]) tl
   unfold h21 at hs
   rw [yab,yaH] at hs
   refine hs _ _ [] ?_ ?_ ?_
   ·exact ⟨e0,e1,e2,e6,e7,e8⟩
   ·exact e9'
   ·rw [nR,if_pos h9']
set_option maxHeartbeats 1000000 in
theorem Vl (hn:1≤n) (hn2:n≤4096) (h1:old.length≤1000) (h2:new.length≤1000) (hi:i<new.length) (hol:o.length≤i) (d1:D1.length=16) (d2:D2.length=16) (f:Nat) (hf:f≤1000) (hxb:∀ x∈o,x.2.2.length≤1000+1000*1000) (hE:E21 old new n i e) (e9:get e 9=.i f) (e10:get e 10=.i o.length)
  (hN:∀ e b' o' tl,E21 old new n i e→get e 9=.i f→o'=m5 o f n→N ⟨e,h21 D1 D2 new o'++tl,b'⟩):aw cE (pt 3 (jW (rt 1 c21l0))) N X R ⟨e,h21 D1 D2 new o,bb⟩:=by
 obtain ⟨e0,e1,e2,e6,e7,e8⟩:=hE
 conv=>arg 2;whnf
 have e9':get e 9=.i f:=e9
 have hk:=E21.kill ⟨e0,e1,e2,e6,e7,e8⟩
 have k9:get (aP [2] e) 9=.i f:=by rw [aQ,e9'];rfl
 have k7:=hk.e7
 have hf0:decide ((f:Int)<0)=false:=decide_eq_false (by omega)
 rcases ybp o with rfl|⟨o1,x,rfl⟩
 ·simp -implicitDefEqProofs only [rX,↓rY,qs,rdK,zD,aA,cells?,splice,↓reduceIte,Nat.reduceEqDiff,eQ,Nat.reduceAdd,reduceCtorEq,aD,cC,bG,bY,aP,aZ,kill,bM,St.kill,isD,isC,Nat.reduceLT,Nat.reduceLeDiff,↓jj,↓jk,yac,cxN,aU,cO,d6,e1,e2,e7,e8,e9',e10,k7,hk.e2,kz2,dW,gX,dX,d4,vD,d1,d2,hf0,show decide ((0:Int)<((0:Nat):Int))=false from rfl]
  refine ⟨by simp only [lo,Fx.hi];omega,by decide,?_⟩
  refine hN _ _ [((f:Int),(f:Int)+n,[])] [_,_] ?_ ?_ rfl
  ·exact ⟨hk.e0,hk.e1,hk.e2,hk.e6,hk.e7,hk.e8⟩
  ·exact k9
 ·rw [ybq] at *
  have hl1:((o1++[x]).length:Nat)=o1.length+1:=by simp
  have hd0:decide ((0:Int)<((o1.length+1:Nat):Int))=true:=decide_eq_true (by omega)
  have hidx:(((o1.length+1:Nat):Int)-1).toNat=o1.length:=by omega
  have hlast:∀ hh,(o1++[x])[(((o1.length+1:Nat):Int)-1).toNat]'hh=x:=by
   intro hh;simp only [hidx];simp
  have hkk:(((o1.length+1:Nat):Int)-1).toNat<(o1++[x]).length:=by rw [hl1];omega
  have hle:o1.length+1≤i:=by rw [←hl1];exact hol
  simp -implicitDefEqProofs only [rX,↓rY,qs,rdK,zD,aA,cells?,splice,↓reduceIte,Nat.reduceEqDiff,eQ,Nat.reduceAdd,reduceCtorEq,aD,cC,bG,bY,aP,aZ,kill,bM,St.kill,isD,isC,Nat.reduceLT,Nat.reduceLeDiff,↓jj,↓jk,yae,yac,cxN,aU,cO,d6,e1,e2,e7,e8,e9',e10,k7,hk.e2,kz2,dW,gX,dX,d4,vD,d1,d2,hf0,hl1,hd0,kc,hlast]
  have htk:yah (o1.length+1) ((o1++[x]).map enO)=(o1++[x]).map enO:=yaa (by simp)
  have hpu:∀ e1 b1 tl,E21 old new n i e1→get e1 9=.i f→(o1++[x])++[((f:Int),(f:Int)+n,[])]=m5 (o1++[x]) f n→N ⟨e1,[.var (pe z16 z16 0 (.v (.slice none 0 0))++[.i 0]),.var (pe D1 D2 new.length (.sl 2 0 (o1.length+1+1))),.arr 3 ((o1++[x]).map enO++[[V.i f,V.i ((f:Int)+n),sv []]])]++tl,b1⟩:=by
   intro e1 b1 tl g1 g2 g3
   have hs:=hN e1 b1 ((o1++[x])++[((f:Int),(f:Int)+n,[])]) tl g1 g2 g3
   unfold h21 at hs
   rwa [yab,hl1,show rwO ((o1++[x])++[((f:Int),(f:Int)+n,[])])=.arr 3 ((o1++[x]).map enO++[enO ((f:Int),(f:Int)+n,[])]) by unfold rwO;rw [yaq];rfl] at hs
  refine ⟨by simp only [lo,Fx.hi];omega,⟨by omega,by omega⟩,by omega,?_⟩
  cases h9:(x.2.2==[]) with
  | false =>
   have h9':x.2.2≠[]:=beq_eq_false_iff_ne.1 h9
   rw [ke,htk]
   refine ⟨by simp only [lo,Fx.hi];omega,by omega,?_⟩
   refine hpu _ _ [_,_] ?_ ?_ ?_
   ·exact ⟨hk.e0,hk.e1,hk.e2,hk.e6,hk.e7,hk.e8⟩
   ·exact k9
   ·rw [fW,if_neg (fun h=>h9' h.1)]
  | true =>
   have h9':x.2.2=[]:=beq_iff_eq.1 h9
   rw [kc]
   refine ⟨by simp only [lo,Fx.hi];omega,⟨by omega,by omega⟩,by omega,?_⟩
   cases h8:(x.2.1==(f:Int)) with
   | false =>
    have h8':x.2.1≠f:=beq_eq_false_iff_ne.1 h8
    rw [ke,htk]
    refine ⟨by simp only [lo,Fx.hi];omega,by omega,?_⟩
    refine hpu _ _ [_,_] ?_ ?_ ?_
    ·exact ⟨hk.e0,hk.e1,hk.e2,hk.e6,hk.e7,hk.e8⟩
    ·exact k9
    ·rw [fW,if_neg (fun h=>h8' h.2)]
   | true =>
    have h8':x.2.1=f:=beq_iff_eq.1 h8
    rw [kc]
    refine ⟨by simp only [lo,Fx.hi];omega,by simp only [lo,Fx.hi];omega,⟨by omega,by omega⟩,by omega,?_⟩
    rw [hidx,set_last (y:=(x.1,(f:Int)+n,x.2.2))]
    have hs:=fun e1 b1 tl=>hN e1 b1 (o1++[(x.1,(f:Int)+n,x.2.2)]) tl
    unfold h21 at hs
    rw [yab,yaH] at hs
    refine hs _ _ [] ?_ ?_ ?_
    ·exact ⟨e0,e1,e2,e6,e7,e8⟩
    ·exact e9'
    ·rw [fW,if_pos ⟨h9',h8'⟩]
end
end Go.Fx.H
namespace Go.Fx.H
open Go Go.Fx Go.Proofs Go.Fx.R
set_option maxRecDepth 20000
theorem Rv {M:Nat→Bool} {h:List Blk} {x y:List V}:gvL M h (x++y)=gvL M h x++gvL M h y:=by
 induction x with
 | nil=>rfl
 | cons u r ih=>simp [gvL,ih]
theorem Ms {a b:Bs} {s:Int} {z:Nat} (ha:a.length=16) (hb:b.length=16) {i:Nat} {x y:V} (hx:(pe a b s (.v (.slice none 0 0)))[i]?=some x) (hy:(pe a b s (.sl z 0 0))[i]?=some y):Al x y:=by
 have e:∀ o,pe a b s o=(us a++(us b++[.i s]))++[o]:=fun o=>by simp [pe]
 have hl:(us a++(us b++[V.i s])).length=33:=by simp [cJ,ha,hb]
 rw [e] at hx hy
 rcases yav i 33 with h|h
 ·rw [List.getElem?_append_left (by omega)] at hx hy
  rw [hx] at hy
  exact .inl (Option.some.inj hy).symm
 ·rw [yaN (by omega)] at hx hy
  rcases Nat.eq_or_lt_of_le h with h|h
  ·rw [hl,←h] at hx hy
   simp at hx hy
   subst hx hy
   exact .inr ⟨rfl,_,rfl⟩
  ·rw [List.getElem?_eq_none (by rw [hl];simp;omega)] at hx
   cases hx
theorem Ss {old new:Bs} {n i:Nat} {o:List Op} (h:∀ x∈o,x.2.2.length≤i):(∀ x∈xN o (pc new 1 i),x.2.2.length≤i+1)∧(xN o (pc new 1 i)).length≤o.length+1∧∀ f b,(∀ x∈m5 o f b,x.2.2.length≤i)∧(m5 o f b).length≤o.length+1:=by
 have hp:(pc new 1 i).length≤1:=by rw [vE];omega
 rcases ybp o with rfl|⟨o1,x,rfl⟩
 ·refine ⟨by simp [xN];omega,by simp [xN],fun f b=>⟨by simp [m5],by simp [m5]⟩⟩
 ·rw [ybq] at *
  have hx:=h x (by simp)
  have ho:∀ y∈o1,y.2.2.length≤i:=fun y hy=>h y (by simp [hy])
  rw [nR]
  refine ⟨?_,?_,fun f b=>?_⟩
  ·intro y hy
   split at hy
   ·rcases yaw.1 hy with hy|hy
    ·have:=ho y hy;omega
    ·simp at hy;subst hy;simp;omega
   ·rcases yaw.1 hy with hy|hy
    ·have:=h y hy;omega
    ·simp at hy;subst hy;simp only;omega
  ·split<;>simp
  ·rw [fW]
   refine ⟨?_,by split<;>simp⟩
   intro y hy
   split at hy
   ·rcases yaw.1 hy with hy|hy
    ·exact ho y hy
    ·simp at hy;subst hy;exact hx
   ·rcases yaw.1 hy with hy|hy
    ·exact h y hy
    ·simp at hy;subst hy;simp
theorem Oi {old q:Bs} {b f:Nat} (h:fnd old b q=some f):f+b≤old.length∨b=0:=by
 obtain ⟨j,h1,h2,h3,h4⟩:=sO h
 rcases yas b with h5|h5
 ·exact .inr h5
 ·left;rw [h2];exact Jh (by rw [h3,h4]) h5
theorem lG {old new:Bs} {b i:Nat} {o:List Op} (hb:1≤b) (h:i<new.length):jV old new b i o=match fnd old b (pc new b i) with
  | none=>jV old new b (i+1) (xN o (pc new 1 i))
  | some f=>jV old new b (i+b) (m5 o f b):=by
 rw [jV,if_pos h]
 cases fnd old b (pc new b i) with
 | none=>rfl
 | some f=>simp only;rw [show i+(b-1)+1=i+b by omega]
theorem w6 {old new:Bs} {b i:Nat} {o:List Op} (h:new.length≤i):jV old new b i o=o:=by
 rw [jV,if_neg (by omega)]
theorem aeN (old new:Bs) (b:Int) (h1:old.length≤1000) (h2:new.length≤1000):Ok 21 [sv old,sv new,.i b] (Is (.agg (dfP old new b (rO (dfO old new b))++[.i (dfE old new b)]))):=by
 refine iT (R:=fun q hs=>wk (.agg (dfP old new b (rO (dfO old new b))++[.i (dfE old new b)])) (gvV (fun _=>true) hs q)) ?_ fun _ _ h=>h
 refine bO lw21 (by simp) ?_
 unfold c21
 simp -implicitDefEqProofs only [rX,↓rY,aA,cells?,splice,↓reduceIte,Nat.reduceEqDiff,Nat.reduceAdd,reduceCtorEq,aD,bG,aT,aY,aC,wfV,cxN,aU,aH,Xn,dW,q_t,q_d,q_f,bQ,eE]
 have hb1:dfE old new b=1∨(1≤b∧b≤4096∧dfE old new b=0):=by
  unfold dfE
  by_cases h:b<1∨4096<b
  ·left;rw [if_pos h]
  ·right;rw [if_neg h,if_neg (by omega)];omega
 have hd3:decide ((65536:Int)<(old.length:Int))=false:=decide_eq_false (by omega)
 have hd4:decide ((65536:Int)<(new.length:Int))=false:=decide_eq_false (by omega)
 cases hd1:decide (b<1) with
 | true =>
  rw [kc]
  have:=of_decide_eq_true hd1
  exact Oy (by unfold dfE;rw [if_pos (.inl this)]) (by decide)
 | false =>
 rw [ke]
 cases hd2:decide (4096<b) with
 | true =>
  rw [kc]
  have:=of_decide_eq_true hd2
  exact Oy (by unfold dfE;rw [if_pos (.inr this)]) (by decide)
 | false =>
 rw [ke,hd3,ke,hd4,ke]
 have h5:=of_decide_eq_false hd1
 have h6:=of_decide_eq_false hd2
 have he0:dfE old new b=0:=by
  unfold dfE
  rw [if_neg (by omega),if_neg (by omega)]
 obtain ⟨n,rfl⟩:∃ n:Nat,b=n:=⟨b.toNat,by omega⟩
 have hb:1≤n∧n≤4096:=by omega
 refine aE (Ri old (by omega)) ⟨⟨trivial,trivial⟩,rfl,trivial⟩ (by simp [ren,a6]) trivial ?_
 simp -implicitDefEqProofs only [rX,↓reduceIte,Nat.reduceEqDiff,reduceCtorEq]
 refine aE (Ri new (by omega)) ⟨⟨trivial,trivial⟩,rfl,trivial⟩ (by simp [ren,a6]) trivial ?_
 have d1:(cD 34 [old]).length=16:=a8
 have d2:(cD 34 [new]).length=16:=a8
 have he1:∀ o,dfP old new (n:Int) o=pe (cD 34 [old]) (cD 34 [new]) new.length o:=fun o=>by unfold dfP;rw [if_neg (by rw [he0];decide)];rfl
 show eK _ _ _ _
 generalize cD 34 [old]=D1 at *
 generalize cD 34 [new]=D2 at *
 simp -implicitDefEqProofs only [rX,↓rY,aA,cells?,splice,↓reduceIte,Nat.reduceEqDiff,Nat.reduceAdd,reduceCtorEq,aD,bG,Nat.reduceLeDiff,aU,xT,dW,Ke,dX,bQ,d1,d2,r1,r2,r3,p_l,yat,yag,Nat.reduceSub,Nat.reduceAdd,show min 16 34=16 from rfl,show min 32 34=32 from rfl]
 refine ⟨Aj rfl,?_⟩
 have ho:dfO old new (n:Int)=jV old new n 0 []:=by unfold dfO;rw [if_neg (by rw [he0];decide),yac]
 rw [he1,ho,he0]
 refine eT (.virt 1 3 (by decide) (.nilB 1 (pe D1 D2 new.length (.v (.slice none 0 0))) (pe D1 D2 new.length (.sl 2 0 0)) rfl ⟨?_,?_⟩ (.refl _))) (fun g:Nat × List Op=>⟨[(8,.i g.1),(7,.ptr 1 0 0),(0,sv old),(1,sv new),(2,.i n),(6,.ptr 0 0 0)],h21 D1 D2 new g.2,2⟩) (fun g=>g.2.length≤g.1∧g.1≤6000∧(∀ x∈g.2,x.2.2.length≤g.1)∧jV old new n g.1 g.2=jV old new n 0 []) (fun g=>new.length-g.1) (0,[]) ⟨yaf _,by simp,by simp,rfl⟩ ?_ ?_
 ·rw [dW d1 d2,dW d1 d2]
 ·intro i x y hx hy
  exact Ms d1 d2 hx hy
 ·simp -implicitDefEqProofs only [rX,↓reduceIte,Nat.reduceEqDiff,reduceCtorEq,leE,leH,leB,aC,aB,wfE,wfB,wfV,yaD]
  exact ⟨rfl,⟨bB _,bB _,rfl⟩,l6.2 ⟨eH trivial,trivial,trivial⟩,eH (by simp [wfV,aB])⟩
 rintro ⟨i,o⟩ ⟨hol,hi6,hxb,hd⟩
 simp only at hol hi6 hxb hd
 rw [c21l0_parts]
 simp -implicitDefEqProofs only [qK]
 conv=>arg 2;whnf
 simp -implicitDefEqProofs only [rX,↓rY,cells?,splice,↓reduceIte,Nat.reduceEqDiff,Nat.reduceAdd,reduceCtorEq,bG,Nat.reduceLeDiff,aU]
 cases hdi:decide ((i:Int)<(new.length:Int)) with
 | false =>
  have hdi':=of_decide_eq_false hdi
  have hda:=w6 (old:=old) (b:=n) (o:=o) (show new.length≤i by omega)
  rw [hda] at hd
  simp only [ke]
  simp -implicitDefEqProofs only [rX,↓rY,↓reduceIte,Nat.reduceEqDiff,Nat.reduceAdd,reduceCtorEq,aT,aY,aC,wfV,Xn,dW,fE,q_d,adV,q_f,bQ,d1,d2,eE]
  rw [←hd]
  refine ⟨q_C rfl,[.dead,.dead,rwO o],⟨⟨trivial,trivial,aN _,trivial⟩,yaf _,l6.2 ⟨eH (by simp [wfV,aB]),trivial,trivial⟩,trivial⟩,?_⟩
  have e3:gvL (fun _=>true) [.dead,.dead,rwO o] (pe D1 D2 new.length (.sl 2 0 o.length)++[V.i 0])=pe D1 D2 new.length (rO o)++[V.i 0]:=by
   rw [Rv,Hv]
   simp [gvL,gvV,blk,yaa]
  show wkL _ (gvL _ _ _)
  rw [e3]
  exact tR (Cv ⟨rfl,rfl⟩) ⟨rfl,trivial⟩ rfl
 | true =>
 have hdi':=of_decide_eq_true hdi
 have hin:i<new.length:=by omega
 simp only [kc]
 conv=>arg 2;whnf
 simp -implicitDefEqProofs only [rX,aA,Nat.reduceAdd]
 refine Yc hb.1 hb.2 h1 h2 hin ⟨rfl,rfl,rfl,rfl,rfl,rfl⟩ rfl ?_
 rintro e b' ⟨e0,e1,e2,e6,e7,e8⟩ e9
 simp -implicitDefEqProofs only [qK]
 conv=>arg 2;whnf
 simp -implicitDefEqProofs only [rX,↓rY,↓reduceIte,Nat.reduceAdd,gX,d1,d2,e7]
 intro _
 have hst:=lG (old:=old) (o:=o) hb.1 hin
 rw [hd] at hst
 obtain ⟨a1,a2,a3⟩:=Ss (old:=old) (new:=new) (n:=n) hxb
 cases hr:fnd old n (pc new n i) with
 | none =>
  rw [hr] at e9 hst
  refine Vm hb.1 hb.2 h1 h2 hin hol d1 d2 (fun x hx=>by have:=hxb x hx;omega) ⟨e0,e1,e2,e6,e7,e8⟩ e9 rfl ?_
  rintro e b2 o' tl ⟨e0,e1,e2,e6,e7,e8⟩ e9 rfl
  conv=>arg 2;whnf
  simp -implicitDefEqProofs only [rX,↓rY,aA,↓reduceIte,Nat.reduceEqDiff,reduceCtorEq,leE,leH,leB,aC,aB,wfE,wfB,wfV,e9,e8,show decide ((-1:Int)<0)=true from rfl,kc]
  refine ⟨by simp only [lo,Fx.hi];omega,(i+1,xN o (pc new 1 i)),⟨⟨by simp only;omega,by simp only;omega,a1,hst.symm⟩,by simp only;omega⟩,⟨by simp only;omega,e7,e0,e1,e2,e6⟩,⟨bB _,bB _,rfl⟩,l6.2 ⟨eH trivial,trivial,trivial⟩,eH (by simp [wfV,aB])⟩
 | some f =>
  rw [hr] at e9 hst
  have hf:=Oi hr
  refine Vl hb.1 hb.2 h1 h2 hin hol d1 d2 f (by omega) (fun x hx=>by have:=hxb x hx;omega) ⟨e0,e1,e2,e6,e7,e8⟩ e9 rfl ?_
  rintro e b2 o' tl ⟨e0,e1,e2,e6,e7,e8⟩ e9 rfl
  conv=>arg 2;whnf
  simp -implicitDefEqProofs only [rX,↓rY,aA,↓reduceIte,Nat.reduceEqDiff,reduceCtorEq,leE,leH,leB,aC,aB,wfE,wfB,wfV,e9,e8,e2,show decide ((f:Int)<0)=false from decide_eq_false (by omega),ke]
  refine ⟨by simp only [lo,Fx.hi];omega,(i+n,m5 o f n),⟨⟨by simp only;have:=(a3 f n).2;omega,by simp only;omega,fun x hx=>by have:=(a3 f n).1 x hx;simp only;omega,hst.symm⟩,by simp only;omega⟩,⟨by simp only;omega,e7,e0,e1,e6⟩,⟨bB _,bB _,rfl⟩,l6.2 ⟨eH trivial,trivial,trivial⟩,eH (by simp [wfV,aB])⟩
end Go.Fx.H
namespace Go.Fx.H
open Go Go.Fx Go.Proofs Go.Fx.R
set_option maxRecDepth 20000
theorem c20_parts:c20=.seq (pt 0 c20) (.seq (pt 1 c20) (.seq (pt 2 c20) (.seq (pt 3 c20) (.seq (pt 4 c20) (.seq (pt 5 c20) (.seq (pt 6 c20) (.seq (pt 7 c20) (.seq (pt 8 c20) (rt 9 c20))))))))):=by rfl
abbrev zP:List V:=pe z16 z16 0 (.v (.slice none 0 0))
structure E20 (old:Bs) (e:Env):Prop where
 e0:get e 0=sv old
 e4:get e 4=.ptr 0 0 0
 e5:get e 5=.ptr 1 0 0
 e6:get e 6=.ptr 2 0 0
 e7:get e 7=.i 0
abbrev hpE (old new:Bs) (n:Nat) (j:Nat):List Blk:=[.var [sv new],.var [.i n],.var zP,.map (esV (gV old n j) 0) (gV old n j).length,.var [.mp 3],.var [sv old],.var [.i n],.rcd .ready [(39,.clo 111 [.ptr 5 0 0,.ptr 6 0 0]),(8,.ptr 4 0 0),(0,sv old),(4,.ptr 0 0 0),(5,.ptr 1 0 0),(6,.ptr 2 0 0),(7,.i 0)]]
abbrev Oc (old new:Bs) (n:Nat):List Blk:=[.var [sv new],.var [.i n],.var zP,.map (esV (gV old n (nb old.length n)) 0) (gV old n (nb old.length n)).length,.var [.mp 3],.var [sv old],.var [.i n],.dead]
theorem uH {q:List Blk}:wfL q zP:=eH trivial
theorem yV {q:List Blk}:∀ {l:List (Bs × Nat)} {i:Nat},wfL q ((esV l i).map (·.2.1)):=by
 intro l
 induction l with
 | nil=>intro i;trivial
 | cons x r ih=>intro i;exact ⟨trivial,ih⟩
theorem itM (old new:Bs) (n:Nat) (hb:1≤n∧n≤1000000000) (ht:old.length≤1000000000):ItB (hpE old new n) 8 old n 7 5 6 [7]:=by
 refine ⟨hb,ht,fun g=>rfl,fun g tl=>rfl,fun g tl=>rfl,fun g=>⟨trivial,trivial⟩,fun g=>?_,fun g=>⟨_,_,rfl⟩⟩
 simp -implicitDefEqProofs only [rX,aB,wfE,wfB,wfV,wfL,uH]
 exact yV
section
variable {old new:Bs} {n:Nat} {N R:St→Prop} {X:Nat→St→Prop} {e:Env} {bb:Nat}
theorem Yf (hn:1≤n) (hn2:n≤4096) (h1:old.length≤1000) (h2:new.length≤1000) (hE:E20 old e)
  (hN:∀ e b',E20 old e→get e 8=.ptr 4 0 0→N ⟨e,Oc old new n,b'⟩):aw cE (pt 2 c20) (fun s'=>aw cE (pt 3 c20) N X R s') X R ⟨e,[.var [sv new],.var [.i n],.var zP],3⟩:=by
 obtain ⟨e0,e4,e5,e6,e7⟩:=hE
 conv=>arg 2;whnf
 simp -implicitDefEqProofs only [rX,↓rY,aA,cells?,splice,↓reduceIte,Nat.reduceEqDiff,Nat.reduceAdd,aD,isC,cxN]
 conv=>arg 2;whnf
 simp -implicitDefEqProofs only [rX,↓rY,↓reduceIte,Nat.reduceEqDiff,Nat.reduceAdd,reduceCtorEq,e0,e5]
 refine dV [sv old,.i n] (.clo 111 [.ptr 0 0 0,.ptr 1 0 0]) (.clo 111 [.ptr 5 0 0,.ptr 6 0 0]) [.var [sv old],.var [.i n]] [.var [sv old],.var [.i n]] (We old n) ⟨⟨trivial,trivial,trivial⟩,rfl,rfl,trivial⟩ (by simp [ren,cH]) (by simp [bV,cH,ren]) trivial ?_
 simp -implicitDefEqProofs only [rX]
 refine uY 7 rfl rfl trivial ?_
 refine rM (as':=[.itr 7,.ptr 5 0 0,.ptr 6 0 0]) (h':=hpE old new n 0) rfl ⟨_,.refl _,?_⟩ (Nx (Inv:=fun i g=>g=i) (itM old new n (by omega) (by omega)) ?_ ?_ _ rfl)
 ·simp -implicitDefEqProofs only [rX,↓reduceIte,Nat.reduceEqDiff,Nat.reduceAdd,reduceCtorEq,leE,leH,leB,leV,dH,aC,aB,wfE,wfB,wfV,wfL,aH,e0,e4,e5,e6,e7,uH]
  exact ⟨⟨bB _,rfl,.inr trivial⟩,yV⟩
 ·rintro i g hi rfl e2 bb Z he hZ
  refine By 8 rfl rfl rfl ?_
  unfold c20a0
  simp -implicitDefEqProofs only [rX,rZ,↓rW,↓reduceIte,Nat.reduceEqDiff,Nat.reduceAdd,gW]
  unfold c20r0
  simp -implicitDefEqProofs only [rX,↓rY,rZ,↓rW,zr,zu,aA,↓reduceIte,Nat.reduceEqDiff,Nat.reduceAdd,reduceCtorEq,↓jn,↓jq,aU]
  rw [vK]
  refine ⟨rfl,?_⟩
  have hnx:∀ B tl,B=.map (esV (gV old n (g+1)) 0) (gV old n (g+1)).length→Z (.b true) ⟨e2,[.var [sv new],.var [.i n],.var zP,B,.var [.mp 3],.var [sv old],.var [.i n],.rcd .ready [(39,.clo 111 [.ptr 5 0 0,.ptr 6 0 0]),(8,.ptr 4 0 0),(0,sv old),(4,.ptr 0 0 0),(5,.ptr 1 0 0),(6,.ptr 2 0 0),(7,.i 0)]]++tl,bb⟩:=by
   rintro B tl rfl
   exact hZ e2 (g+1) tl he rfl
  cases hl:lkp (bk old n g) (gV old n g) 0 with
  | some r =>
   have e1:gV old n (g+1)=gV old n g:=by
    rw [gV,if_neg (by rw [hl];simp)]
   simp -implicitDefEqProofs only [rX,↓rY,fK,↓reduceIte,ke]
   exact hnx _ [_] (by rw [e1])
  | none =>
   simp -implicitDefEqProofs only [rX,↓rY,aA,↓jt,↓ju,kc]
   cases hb2:(((bk old n g).length:Int)==n) with
   | false =>
    have hne:(bk old n g).length≠n:=by
     have:((bk old n g).length:Int)≠n:=by simpa using hb2
     omega
    have e1:gV old n (g+1)=gV old n g:=by
     rw [gV,if_neg (fun h=>hne h.2)]
    rw [ke]
    exact hnx _ [_] (by rw [e1])
   | true =>
    have hne:(bk old n g).length=n:=by
     have:((bk old n g).length:Int)=n:=by simpa using hb2
     omega
    have e1:gV old n (g+1)=gV old n g++[(bk old n g,g*n)]:=by
     rw [gV,if_pos ⟨hl,hne⟩]
    rw [kc]
    refine ⟨rfl,hnx _ [_] ?_⟩
    rw [e1,Rz,yab,ybh]
    rfl
 ·rintro g rfl
  simp -implicitDefEqProofs only [rX,rZ,↓rW,aB,wfE,wfB,wfV,wfL,uH]
  exact ⟨yV,hN _ _ ⟨rfl,rfl,rfl,rfl,rfl⟩ rfl⟩
end
end Go.Fx.H
