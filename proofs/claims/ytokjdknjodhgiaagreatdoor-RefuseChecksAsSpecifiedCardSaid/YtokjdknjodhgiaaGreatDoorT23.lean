import Derived.Test.YtokjdknjodhgiaaGreatDoorPTC21
import Derived.Test.YtokjdknjodhgiaaGreatDoorFxRX
set_option linter.unusedVariables false
set_option linter.unusedSimpArgs false
set_option linter.unusedSectionVars false
open Int renaming toNat_natCast → yaa, le_refl → yaf, natCast_zero → yai, toNat → yaj, toNat_of_nonneg → yat, min_le_right → yaA, le_trans → yaE, natCast_add → yaF, add_mul → yaG, mul_le_mul_of_nonneg_right → yaH, lt_irrefl → yaI, min_eq_left → yaJ, min_le_left → yaT, fdiv_eq_ediv_of_nonneg → ybc
open List renaming replicate → yab, getElem_map → yac, getElem_mem → yad, take → yae, getD_eq_getElem?_getD → yag, getElem?_eq_getElem → yah, take_of_length_le → yam, getElem_of_mem → yan, append_nil → yap, mem_singleton → yar, map_append → yau, range → yav, ext_getElem → yaw, pairwise_iff_getElem → yax, getElem?_eq_none → yay, length_set → yaz, getElem?_append_right → yaB, append_assoc → yaC, getElem?_replicate → yaD, mem_append → yaK, getElem?_append_left → yaL, length_take → yaM, getElem?_cons_zero → yaN, drop_replicate → yaO, set_append_right → yaP, getElem_set → yaQ, mem_range → yaR, filter_append → yaS, count_cons → yaU, length_append → yaV, length_singleton → yaW, getElem_append_left → yaX, take_append_getElem → yba, getElem_cons_zero → ybb, length_replicate → ybd, find?_eq_some_iff_getElem → ybe, drop_eq_getElem_cons → ybf, take_succ_cons → ybg
open Nat renaming zero_le → yak, le_refl → yaq, lt_or_ge → yas
open BitVec renaming ofInt → yal
open Bool renaming false_eq_true → yao, not_false → yaY, eq_iff_iff → yaZ
namespace Go.Fx.P.K
open Go Go.Fx Go.Fx.E Go.Proofs
set_option maxRecDepth 20000
structure oM (n:Nat) (ks vs:List Int) (key val:Int) (g:List Int × List Int):Prop where
 h1:g.1.length=n+1
 h2:g.2.length=n+1
 he:∀ a b,mC (n+1) g.1 g.2 a b↔(mC n ks vs a b∨(a=key∧b=val))
theorem Tp {n:Nat} {ks vs:List Int} (h1:n≤ks.length) (h2:n≤vs.length) (key val a b:Int):mC (n+1) (ks.take n++[key]) (vs.take n++[val]) a b↔(mC n ks vs a b∨(a=key∧b=val)):=by
 have hg:∀ {l:List Int} {x:Int} {j:Nat},n≤l.length→(l.take n++[x]).getD j 0=if j<n then l.getD j 0 else if j=n then x else 0:=by
  intro l x j hl
  rw [yag]
  by_cases e:j<n
  ·rw [if_pos e,yaL (by rw [yaM];omega),List.getElem?_take_of_lt e,yag]
  ·rw [if_neg e,yaB (by rw [yaM];omega),yaM,Nat.min_eq_left hl]
   by_cases e2:j=n
   ·subst e2;simp
   ·rw [if_neg e2,yay (by simp;omega)];rfl
 constructor
 ·rintro ⟨j,hj,q1,q2⟩
  rw [hg h1] at q1
  rw [hg h2] at q2
  by_cases e:j<n
  ·rw [if_pos e] at q1 q2;exact .inl ⟨j,e,q1,q2⟩
  ·rw [if_neg e,if_pos (by omega)] at q1 q2;exact .inr ⟨q1.symm,q2.symm⟩
 ·rintro (⟨j,hj,q1,q2⟩|⟨rfl,rfl⟩)
  ·exact ⟨j,by omega,by rw [hg h1,if_pos hj];exact q1,by rw [hg h2,if_pos hj];exact q2⟩
  ·exact ⟨n,by omega,by rw [hg h1,if_neg (by omega),if_pos rfl],by rw [hg h2,if_neg (by omega),if_pos rfl]⟩
theorem Yd {i:Nat} (h:0<i):((i:Int)-1).tdiv 2=(((i-1)/2:Nat):Int):=by
 rw [Int.tdiv_eq_ediv_of_nonneg (by omega)]
 omega
abbrev Gz (n:Nat) (g:Nat × List Int × List Int):St:=⟨[(6,.i g.1),(0,.ptr 0 0 0)],hpB (n+1) g.2.1 g.2.2,0⟩
theorem acA (n:Nat) (ks vs:List Int) (key val:Int) (hn:n≤8796093022208) {RR:St→Prop} {X:Nat→St→Prop} (hX:∀ g,oM n ks vs key val g→∀ e b,X 0 ⟨e,hpB (n+1) g.1 g.2,b⟩)
  (g:Nat × List Int × List Int) (hg:g.1≤n∧oM n ks vs key val g.2) :
  aw (cxN Tryz.prog [0]) c123l0 (fun s'=>∃ g':Nat × List Int × List Int,((g'.1≤n∧oM n ks vs key val g'.2)∧g'.1<g.1)∧leS [0] s' (Gz n g')) X RR (Gz n g):=by
 obtain ⟨i,a,c⟩:=g
 obtain ⟨hi0,q1,q2,q3⟩:=hg
 simp only at hi0 q1 q2 q3
 have hex:∀ e b,X 0 ⟨e,hpB (n+1) a c,b⟩:=fun e b=>hX (a,c) ⟨q1,q2,q3⟩ e b
 unfold c123l0 Gz hpB
 unfold hpB at hex
 simp -implicitDefEqProofs only [rX,↓rY,aA,↓reduceIte,Nat.reduceEqDiff,cS,Nat.reduceAdd,reduceCtorEq,yac,cM,yaa,cxN]
 simp only [br,decide_eq_true_eq,decide_eq_false_iff_not]
 refine ⟨fun h0=>?_,fun h0=>hex _ _⟩
 rw [Yd (by omega)]
 have hi2:(i-1)/2<i:=by omega
 refine ⟨⟨by omega,by omega⟩,by omega,by simp only [lo,hi,maxLen] at *;omega,by omega,by simp only [lo,hi,maxLen] at *;omega,⟨by omega,by omega⟩,by simp;omega,fun hlt=>?_,fun _=>hex _ _⟩
 refine ⟨by simp only [lo,hi,maxLen] at *;omega,by omega,by simp only [lo,hi,maxLen] at *;omega,?_⟩
 refine dA [0,1,2] [.ptr 0 0 0,.i i,.i ((i-1)/2:Nat)] (.tup []) (.tup []) (hpB (n+1) a c) (hpB (n+1) (sw a i ((i-1)/2)) (sw c i ((i-1)/2))) (hpB (n+1) (sw a i ((i-1)/2)) (sw c i ((i-1)/2)))
  (Rw (n+1) a c i ((i-1)/2) (by omega) (by omega) (by omega) (by omega)) (by simp) rfl (by simp [aF,aK,aU,bG,wkL,wk,pos]) (by simp [hpB]) rfl rfl ⟨trivial,trivial⟩ ?_
 unfold hpB
 simp -implicitDefEqProofs only [rX,↓rY,aA,↓reduceIte,Nat.reduceEqDiff,Nat.reduceAdd,reduceCtorEq,leE,leH,leB,leV,bD,aE,aB,wfE,wfB,wfV,wfL,yaa]
 rw [Yd (by omega)]
 refine ⟨by simp only [lo,hi,maxLen] at *;omega,by omega,by simp only [lo,hi,maxLen] at *;omega,((i-1)/2,sw a i ((i-1)/2),sw c i ((i-1)/2)),⟨⟨by show (i-1)/2≤n;omega,⟨?_,?_,fun x y=>?_⟩⟩,hi2⟩,?_⟩
 ·show (sw a i ((i-1)/2)).length=n+1
  rw [lA];exact q1
 ·show (sw c i ((i-1)/2)).length=n+1
  rw [lA];exact q2
 ·exact (Ko (by omega) (by omega) (by omega) (by omega) x y).trans (q3 x y)
 ·exact ⟨rfl,rfl,rfl⟩
theorem Ua (n:Nat) (ks vs:List Int) (key val:Int) (h1:n≤ks.length) (h2:n≤vs.length) (hn:n≤8796093022208) {RR:St→Prop} (hR:∀ g,oM n ks vs key val g→∀ e b,RR ⟨e,hpB (n+1) g.1 g.2,b⟩) :
  aw (cxN Tryz.prog [0]) c123 RR (fun _ _=>False) RR ⟨aN 0 [.ptr 0 0 0,.i key,.i val],hpB n ks vs,0⟩:=by
 unfold c123 hpB
 have t1:yae n (ks.map encI)++[[V.i key]]=(ks.take n++[key]).map encI:=by rw [yau,List.map_take];rfl
 have t2:yae n (vs.map encI)++[[V.i val]]=(vs.take n++[val]).map encI:=by rw [yau,List.map_take];rfl
 have l1:(ks.take n++[key]).length=n+1:=by simp;omega
 have l2:(vs.take n++[val]).length=n+1:=by simp;omega
 simp -implicitDefEqProofs only [rX,↓rY,rdK,aA,cells?,splice,↓reduceIte,Nat.reduceEqDiff,Nat.reduceAdd,reduceCtorEq,aC,bZ,bP,bF,kill,bU,St.kill,isD,isC,Nat.reduceLT,Nat.reduceLeDiff,cxN,aN,t1,t2]
 have he:=Tp h1 h2 key val
 generalize ks.take n++[key]=ks' at *
 generalize vs.take n++[val]=vs' at *
 repeat' (first|omega|refine And.intro ?_ ?_|refine fun hm=>?_)
 all_goals first|(simp only [lo,hi,maxLen] at *;omega)|skip
 all_goals
  refine bA (Gz n) (fun g=>g.1≤n∧oM n ks vs key val g.2) (fun g=>g.1) (n,ks',vs') ⟨yaq _,l1,l2,he⟩ ?_ (acA n ks vs key val hn (fun g hg e b=>hR g hg e b))
  unfold Gz hpB
  simp -implicitDefEqProofs only [rX,↓reduceIte,reduceCtorEq,leE,leH,leB,leV,bD,aE,aB,wfE,wfB,wfV,wfL]
  omega
theorem afB (n:Nat) (ks vs:List Int) (key val:Int) (h1:n≤ks.length) (h2:n≤vs.length) (hn:n≤8796093022208) :
  OkN Tryz.prog 123 [.ptr 0 0 0,.i key,.i val] (hpB n ks vs) [1,2] (IsQ (oM n ks vs key val) (fun _=>.tup []) (fun g=>hpB (n+1) g.1 g.2)):=by
 refine eV pol [0] lw123 (by simp) ⟨trivial,trivial⟩ (by simp [hpB];omega) ?_
 refine Ua n ks vs key val h1 h2 hn fun g hg e b=>?_
 refine dV g hg ?_
 unfold hpB
 simp -implicitDefEqProofs only [rX,Nat.reduceAdd,aQ,aT,leH,leB,leV,bD,aE,aB,wfB,wfV,wfL]
end Go.Fx.P.K
namespace Go.Fx.P.K
open Go Go.Fx Go.Fx.E Go.Proofs
set_option maxRecDepth 20000
theorem Tq {n:Nat} {ks vs:List Int} (hn:0<n) (a b:Int):mC n ks vs a b↔(mC (n-1) ks vs a b∨(a=ks.getD (n-1) 0∧b=vs.getD (n-1) 0)):=by
 constructor
 ·rintro ⟨j,hj,q1,q2⟩
  by_cases e:j=n-1
  ·subst e;exact .inr ⟨q1.symm,q2.symm⟩
  ·exact .inl ⟨j,by omega,q1,q2⟩
 ·rintro (⟨j,hj,q1,q2⟩|⟨q1,q2⟩)
  ·exact ⟨j,by omega,q1,q2⟩
  ·exact ⟨n-1,by omega,q1.symm,q2.symm⟩
structure Xr (n:Nat) (E:Int→Int→Prop) (ks vs:List Int):Prop where
 h1:n≤ks.length
 h2:n≤vs.length
 he:∀ a b,mC n ks vs a b↔E a b
structure Xq (n:Nat) (ks vs:List Int) (g:(Int × Int) × List Int × List Int):Prop where
 hin:mC n ks vs g.1.1 g.1.2
 h1:n-1≤g.2.1.length
 h2:n-1≤g.2.2.length
 he:∀ a b,mC n ks vs a b↔(mC (n-1) g.2.1 g.2.2 a b∨(a=g.1.1∧b=g.1.2))
def e40 (key v:Int) (last i least:Nat):Env:=[(8,.i least),(7,.i i),(6,.i last),(5,.i v),(4,.i key),(0,.ptr 0 0 0)]
def h40 (last i:Nat) (ks vs:List Int):List Blk:=hpB last ks vs++[.arr 1 [[.i (2*i+1)],[.i (2*i+2)]]]
abbrev y7 (key v:Int) (last i:Nat) (ks vs:List Int) (g:Nat × Nat):St:=⟨(59,.i g.1)::(58,.i 2)::(57,.sl 3 0 2)::e40 key v last i g.2,h40 last i ks vs,0⟩
theorem Xh (key v:Int) (last i:Nat) (ks vs:List Int) (hl:last≤8796093022208) (hi0:i≤last) (h1:last≤ks.length) (h2:last≤vs.length) {RR:St→Prop} {X:Nat→St→Prop}
  (hX:∀ least:Nat,(least=i∨(i<least∧least<last))→∀ y z b,X 2 ⟨(60,y)::(59,z)::(58,.i 2)::(57,.sl 3 0 2)::e40 key v last i least,h40 last i ks vs,b⟩)
  (g:Nat × Nat) (hg:g.1≤2∧(g.2=i∨(i<g.2∧g.2<last))) :
  aw (cxN Tryz.prog [0,1,2]) c124l1 (fun s'=>∃ g':Nat × Nat,((g'.1≤2∧(g'.2=i∨(i<g'.2∧g'.2<last)))∧2-g'.1<2-g.1)∧leS [0,1,2] s' (y7 key v last i ks vs g')) X RR (y7 key v last i ks vs g):=by
 obtain ⟨j,least⟩:=g
 obtain ⟨hj,hleast⟩:=hg
 simp only at hj hleast
 unfold c124l1 y7 e40 h40 hpB
 have hex:=hX least hleast
 unfold e40 h40 hpB at hex
 have hj3:j=0∨j=1∨j=2:=by omega
 have t1:((2:Int)*i+1).toNat=2*i+1:=by omega
 have t2:((2:Int)*i+2).toNat=2*i+2:=by omega
 rcases hj3 with rfl|rfl|rfl
 ·simp -implicitDefEqProofs only [rX,↓rY,aA,↓reduceIte,Nat.reduceEqDiff,cS,Nat.reduceAdd,reduceCtorEq,leE,leH,leB,leV,bD,aE,aB,wfE,wfB,wfV,wfL,yac,cM,yaa,cxN,yai]
  simp only [br,decide_eq_true_eq,decide_eq_false_iff_not,lo,hi,maxLen] at *
  refine ⟨fun _=>⟨⟨by omega,by omega⟩,by simp,?_⟩,fun h=>absurd h (by decide)⟩
  simp only [Int.toNat_zero,ybb,yaN,qas,kZ,t1]
  refine ⟨trivial,fun hlt=>⟨⟨by omega,by omega⟩,by omega,⟨by omega,by omega⟩,by omega,fun _=>⟨by omega,(1,2*i+1),⟨⟨by simp,by right;show i<2*i+1∧2*i+1<last;omega⟩,by simp⟩,by simp,by simp⟩,fun _=>⟨by omega,(1,least),⟨⟨by simp,hleast⟩,by simp⟩,by simp,rfl⟩⟩,
   fun hge=>⟨by omega,(1,least),⟨⟨by simp,hleast⟩,by simp⟩,by simp,rfl⟩⟩
 ·simp -implicitDefEqProofs only [rX,↓rY,aA,↓reduceIte,Nat.reduceEqDiff,cS,Nat.reduceAdd,reduceCtorEq,leE,leH,leB,leV,bD,aE,aB,wfE,wfB,wfV,wfL,yac,cM,yaa,cxN,Int.natCast_one]
  simp only [br,decide_eq_true_eq,decide_eq_false_iff_not,lo,hi,maxLen] at *
  refine ⟨fun _=>⟨⟨by omega,by omega⟩,by simp,?_⟩,fun h=>absurd h (by decide)⟩
  simp only [Int.toNat_one,ybb,List.getElem_cons_succ,yaN,qas,kZ,t2]
  refine ⟨trivial,fun hlt=>⟨⟨by omega,by omega⟩,by omega,⟨by omega,by omega⟩,by omega,fun _=>⟨by omega,(2,2*i+2),⟨⟨by simp,by right;show i<2*i+2∧2*i+2<last;omega⟩,by simp⟩,by simp,by simp⟩,fun _=>⟨by omega,(2,least),⟨⟨by simp,hleast⟩,by simp⟩,by simp,rfl⟩⟩,
   fun hge=>⟨by omega,(2,least),⟨⟨by simp,hleast⟩,by simp⟩,by simp,rfl⟩⟩
 ·simp -implicitDefEqProofs only [rX,↓rY,aA,↓reduceIte,Nat.reduceEqDiff,cS,Nat.reduceAdd,reduceCtorEq,leE,leH,leB,leV,bD,aE,aB,wfE,wfB,wfV,wfL,Nat.reduceLT,yac,cM,yaa,cxN]
  simp only [br,decide_eq_true_eq,decide_eq_false_iff_not,lo,hi,maxLen] at *
  exact ⟨fun h=>absurd h (by decide),fun _=>hex _ _ _⟩
abbrev y6 (key v:Int) (last:Nat) (g:Nat × List Int × List Int):St:=⟨[(7,.i g.1),(6,.i last),(5,.i v),(4,.i key),(0,.ptr 0 0 0)],hpB last g.2.1 g.2.2,0⟩
theorem Xg (key v:Int) (last:Nat) (E:Int→Int→Prop) (hl:last≤8796093022208) {RR:St→Prop} {X:Nat→St→Prop} (hR:∀ ks vs,Xr last E ks vs→∀ e h b,RR ⟨(3,.i v)::(2,.i key)::e,hpB last ks vs++h,b⟩)
  (g:Nat × List Int × List Int) (hg:g.1≤last∧Xr last E g.2.1 g.2.2) :
  aw (cxN Tryz.prog [0,1,2]) c124l0 (fun s'=>∃ g':Nat × List Int × List Int,((g'.1≤last∧Xr last E g'.2.1 g'.2.2)∧last-g'.1<last-g.1)∧leS [0,1,2] s' (y6 key v last g')) X RR (y6 key v last g):=by
 obtain ⟨i,ks,vs⟩:=g
 obtain ⟨hi0,hP⟩:=hg
 simp only at hi0 hP
 have hRp:=hR ks vs hP
 unfold hpB at hRp
 unfold c124l0 y6 hpB
 simp -implicitDefEqProofs only [rX,↓rY,aA,cells?,↓reduceIte,Nat.reduceEqDiff,Nat.reduceAdd,aC,bZ,isD,Nat.reduceLT,cxN]
 refine ⟨by simp only [lo,hi];omega,by simp only [lo,hi];omega,by simp only [lo,hi];omega,by simp only [lo,hi];omega,?_⟩
 intro _
 refine bA (y7 key v last i ks vs) (fun g=>g.1≤2∧(g.2=i∨(i<g.2∧g.2<last))) (fun g=>2-g.1) (0,i) ⟨by simp,.inl rfl⟩ ?_ (Xh key v last i ks vs hl hi0 hP.h1 hP.h2 ?_)
 ·unfold y7 e40 h40 hpB
  simp -implicitDefEqProofs only [rX,↓reduceIte,Nat.reduceEqDiff,reduceCtorEq,leE,leH,leB,leV,bD,aE,aB,wfE,wfB,wfV,wfL,yai]
  rfl
 intro least hleast y z b
 unfold e40 h40 hpB
 simp -implicitDefEqProofs only [rX,↓rY,↓reduceIte,Nat.reduceEqDiff,Nat.reduceAdd,reduceCtorEq]
 simp only [br,beq_iff_eq,beq_eq_false_iff_ne]
 refine ⟨fun h=>hRp _ [_] _,fun h=>?_⟩
 have hne:least≠i:=by omega
 have hlt:i<least∧least<last:=by omega
 refine dA [0,1,2] [.ptr 0 0 0,.i i,.i least] (.tup []) (.tup []) (hpB last ks vs) (hpB last (sw ks i least) (sw vs i least)) (hpB last (sw ks i least) (sw vs i least)++[.arr 1 [[.i (2*i+1)],[.i (2*i+2)]]])
  (Rw last ks vs i least (by omega) (by omega) hP.h1 hP.h2) (by simp) rfl (by simp [aF,aK,aU,bG,wkL,wk,pos]) (by simp [hpB]) rfl rfl (by simp [aE,aB,hpB]) ?_
 unfold hpB
 simp -implicitDefEqProofs only [rX,↓reduceIte,Nat.reduceEqDiff,Nat.reduceAdd,reduceCtorEq,leE,leH,leB,leV,bD,aE,aB,wfE,wfB,wfV,wfL]
 refine ⟨(least,sw ks i least,sw vs i least),⟨⟨by show least≤last;omega,⟨by rw [lA];exact hP.h1,by rw [lA];exact hP.h2,fun a b=>?_⟩⟩,by show last-least<last-i;omega⟩,rfl,rfl,rfl⟩
 exact (Ko (by omega) (by omega) hP.h1 hP.h2 a b).trans (hP.he a b)
theorem afA (n:Nat) (ks vs:List Int) (h0:0<n) (h1:n≤ks.length) (h2:n≤vs.length) (hn:n≤8796093022208) :
  OkN Tryz.prog 124 [.ptr 0 0 0] (hpB n ks vs) [] (IsQ (Xq n ks vs) (fun g=>.tup [.i g.1.1,.i g.1.2]) (fun g=>hpB (n-1) g.2.1 g.2.2)):=by
 refine eV pol [0,1,2] lw124 (by simp) ⟨trivial,trivial,trivial,trivial⟩ (by simp [hpB];omega) ?_
 unfold c124 hpB
 have hn1:((n:Int)-1)=((n-1:Nat):Int):=by omega
 simp -implicitDefEqProofs only [rX,↓rY,aA,↓reduceIte,Nat.reduceEqDiff,cS,Nat.reduceAdd,reduceCtorEq,yac,cM,cxN,aN,hn1]
 refine ⟨⟨by omega,by omega⟩,by simp;omega,⟨by omega,by omega⟩,by simp;omega,fun _=>⟨by simp only [lo,hi,maxLen] at *;omega,?_⟩⟩
 refine dA [0,1,2] [.ptr 0 0 0,.i 0,.i (n-1:Nat)] (.tup []) (.tup []) (hpB n ks vs) (hpB n (sw ks 0 (n-1)) (sw vs 0 (n-1))) (hpB n (sw ks 0 (n-1)) (sw vs 0 (n-1)))
  (Rw n ks vs 0 (n-1) (by omega) (by omega) h1 h2) (by simp) rfl (by simp [aF,aK,aU,bG,wkL,wk,pos]) (by simp [hpB]) rfl rfl ⟨trivial,trivial,trivial,trivial⟩ ?_
 have k1:n≤(sw ks 0 (n-1)).length:=by rw [lA];exact h1
 have k2:n≤(sw vs 0 (n-1)).length:=by rw [lA];exact h2
 have g1:(sw ks 0 (n-1)).getD (n-1) 0=ks.getD 0 0:=by rw [yD (by omega) (by omega),if_pos rfl]
 have g2:(sw vs 0 (n-1)).getD (n-1) 0=vs.getD 0 0:=by rw [yD (by omega) (by omega),if_pos rfl]
 have hE:∀ a b,mC n ks vs a b↔(mC (n-1) (sw ks 0 (n-1)) (sw vs 0 (n-1)) a b∨(a=ks.getD 0 0∧b=vs.getD 0 0)):=by
  intro a b
  rw [←Ko (n:=n) (ks:=ks) (vs:=vs) (i:=0) (k:=n-1) (by omega) (by omega) h1 h2,Tq h0,g1,g2]
 generalize sw ks 0 (n-1)=ks1 at *
 generalize sw vs 0 (n-1)=vs1 at *
 have e1:ks.getD 0 0=ks[yaj 0]'(by simp;omega):=cC (by omega)
 have e2:vs.getD 0 0=vs[yaj 0]'(by simp;omega):=cC (by omega)
 rw [e1,e2] at hE
 have hin:mC n ks vs (ks[yaj 0]'(by simp;omega)) (vs[yaj 0]'(by simp;omega)):=⟨0,h0,e1,e2⟩
 generalize ks[yaj 0]'(by simp;omega)=key at *
 generalize vs[yaj 0]'(by simp;omega)=v at *
 unfold hpB
 simp -implicitDefEqProofs only [rX,↓rY,rdK,aA,cells?,splice,↓reduceIte,Nat.reduceEqDiff,cS,Nat.reduceAdd,reduceCtorEq,dR,isC,Nat.reduceLeDiff,yaa]
 refine ⟨by omega,by omega,?_⟩
 refine bA (y6 key v (n-1)) (fun g=>g.1≤n-1∧Xr (n-1) (mC (n-1) ks1 vs1) g.2.1 g.2.2) (fun g=>n-1-g.1) (0,ks1,vs1) ⟨by simp,by show n-1≤ks1.length;omega,by show n-1≤vs1.length;omega,fun a b=>Iff.rfl⟩ ?_ (Xg key v (n-1) _ (by omega) fun ks' vs' hP e h b=>?_)
 ·unfold y6 hpB
  simp -implicitDefEqProofs only [rX,↓reduceIte,Nat.reduceEqDiff,reduceCtorEq,leE,leH,leB,leV,bD,aE,aB,wfE,wfB,wfV,wfL,yai]
  exact ⟨rfl,rfl⟩
 refine dV ((key,v),ks',vs') ⟨hin,hP.h1,hP.h2,fun a b=>?_⟩ ?_
 ·rw [hE a b,←hP.he a b]
 unfold hpB
 simp -implicitDefEqProofs only [rX,↓reduceIte,Nat.reduceEqDiff,Nat.reduceAdd,aQ,aT,leH,leB,leV,bD,aE,aB,wfB,wfV,wfL]
end Go.Fx.P.K
namespace Go.Fx.P.K
open Go Go.Fx Go.Fx.E Go.Proofs
set_option maxRecDepth 20000
theorem agT {k:IntKind} {a c:Int} {K:V→Prop} {x:Bool}:cN .and x k a c K=K (.v (.int k (k.wrap ((yal k.bits a &&& yal k.bits c).toNat:Int)))):=rfl
theorem sh_r {k:IntKind} {a c:Int} {K:V→Prop}:bW .shr k a c K=(0≤c∧K (.v (.int k (a.fdiv (2 ^ (min c.toNat k.bits)))))):=rfl
theorem Bk {a:Nat} (h:a<4294967296):IntKind.wrap .u64 (((yal (IntKind.bits .u64) (a:Int) &&& yal (IntKind.bits .u64) 4294967295).toNat:Nat):Int)=(a:Int):=by
 have h1:(yal (IntKind.bits .u64) (a:Int) &&& yal (IntKind.bits .u64) 4294967295).toNat=a:=by
  rw [BitVec.toNat_and]
  have e1:(yal (IntKind.bits .u64) (a:Int)).toNat=a:=by
   rw [BitVec.toNat_ofInt]
   show (((a:Int)%((2 ^ 64:Nat):Int)).toNat)=a
   omega
  have e2:(yal (IntKind.bits .u64) 4294967295).toNat=2 ^ 32-1:=by decide
  rw [e1,e2,Nat.and_two_pow_sub_one_eq_mod]
  omega
 rw [h1]
 exact dH .u64 _ (by simp only [lo,hi];omega)
theorem Qo {a:Nat} (h:a<4294967296):(a:Int).fdiv (2 ^ (min (yaj 32) (IntKind.bits .u64)))=0:=by
 show (a:Int).fdiv (2 ^ 32)=0
 rw [ybc _ (by decide)]
 omega
theorem aeM (n:Nat) (h:n<1000000):Ok 155 [.v (.int .u64 ((1:Nat):Int)),.v (.int .u64 n)] (Is (.tup [.v (.int .u64 ((0:Nat):Int)),.v (.int .u64 n)])):=by
 refine ok_of lw155 (by simp) ?_
 unfold c155
 have e1:=Bk (a:=1) (by omega)
 have e0:=Bk (a:=0) (by omega)
 have en:=Bk (a:=n) (by omega)
 have s1:=Qo (a:=1) (by omega)
 have s0:=Qo (a:=0) (by omega)
 have sn:=Qo (a:=n) (by omega)
 have m1:((1:Nat):Int)*(n:Int)=n:=by simp
 have m0:(0:Int)*(n:Int)=0:=Int.zero_mul _
 have mz:((1:Nat):Int)*0=0:=rfl
 have zz:(0:Int)*0=0:=rfl
 have za:(0:Int)+0=0:=rfl
 have ez:IntKind.wrap .u64 (((yal (IntKind.bits .u64) (0:Int) &&& yal (IntKind.bits .u64) 4294967295).toNat:Nat):Int)=(0:Int):=e0
 have sz:(0:Int).fdiv (2 ^ (min (yaj 32) (IntKind.bits .u64)))=0:=s0
 have h32:(0:Int)≤32:=by omega
 have b0:(lo .u64≤(0:Int)∧(0:Int)≤hi .u64):=by simp only [lo,hi];omega
 have bn:(lo .u64≤(n:Int)∧(n:Int)≤hi .u64):=by simp only [lo,hi];omega
 simp -implicitDefEqProofs only [rX,↓rY,aA,↓reduceIte,Nat.reduceEqDiff,reduceCtorEq,aQ,aT,wfV,wfL,cxN,aN,↓agT,↓sh_r,e1,en,s1,sn,m1,m0,mz,zz,za,ez,sz,eq_true h32,eq_true b0,eq_true bn]
 first|rfl|trivial
theorem aeS (n:Nat) (h:n<1000000):Ok 144 [.v (.int .u64 ((1:Nat):Int)),.v (.int .u64 n)] (Is (.tup [.v (.int .u64 ((0:Nat):Int)),.v (.int .u64 n)])):=by
 refine ok_of lw144 (by simp) ?_
 unfold c144
 simp -implicitDefEqProofs only [rX,↓rY,aA,↓reduceIte,Nat.reduceEqDiff,reduceCtorEq,cxN,aN]
 refine aD (aeM n h) ?_ rfl trivial ?_
 ·simp [aF,aK,aU,bG,wkL,wk,pos]
 simp -implicitDefEqProofs only [rX,↓rY,↓reduceIte,Nat.reduceEqDiff,aQ,aT,wfV,wfL]
theorem Wc {n m:Nat} {x:List V}:yab n x++yab m x=yab (n+m) x:=by
 rw [List.replicate_append_replicate]
theorem afC (N:Nat) (x:Int) (h1:1≤N) (h2:N≤1000):Ok 122 [.bro 1 [encI x],.i N] (IsA (.sl 0 0 N) [.arr 1 (yab N (encI x))]):=by
 refine ok_of lw122 (by simp) ?_
 unfold c122
 have w1:IntKind.wrap .u64 (((1:Nat):Int))=((1:Nat):Int):=dH .u64 _ (by simp only [lo,hi];omega)
 have wn:IntKind.wrap .u64 (N:Int)=N:=dH .u64 _ (by simp only [lo,hi];omega)
 have wi:IntKind.wrap .i64 (N:Int)=N:=dH .i64 _ (by simp only [lo,hi];omega)
 have hneg:decide ((N:Int)<0)=false:=decide_eq_false (by omega)
 have hz:decide ((0:Int)<((0:Nat):Int))=false:=rfl
 have hbig:decide ((9223372036854775807:Int)<(N:Int))=false:=decide_eq_false (by omega)
 have hff:(if false=true then (lo .u64≤0∧0≤hi .u64) else False)=False:=by simp
 simp -implicitDefEqProofs only [rX,↓rY,aA,↓reduceIte,Nat.reduceEqDiff,reduceCtorEq,cxN,aN,hneg]
 intro _
 simp -implicitDefEqProofs only [w1,wn]
 refine aD (aeS N (by omega)) ?_ rfl trivial ?_
 ·simp [aF,aK,aU,bG,wkL,wk,pos,w1]
 simp -implicitDefEqProofs only [rX,↓rY,aA,↓reduceIte,Nat.reduceEqDiff,reduceCtorEq,aC,yaa,hz,hbig,wi]
 refine ⟨⟨⟨by omega,by omega⟩,by omega,by omega⟩,?_⟩
 have hmin:min 1 N=1:=by omega
 refine bA (fun n:Nat=>⟨[(8,.i n),(7,.sl 0 0 N)],[.arr 1 (yab n (encI x)++yab (N-n) (encI 0))],0⟩) (fun n=>1≤n∧n≤N) (fun n=>N-n) 1 (by omega) ?_ ?_
 ·simp -implicitDefEqProofs only [rX,↓reduceIte,Nat.reduceEqDiff,leE,leH,leB,aE,aB,wfE,wfB,wfV,hmin]
  have:yae N [encI x]=[encI x]:=yam (by simp;omega)
  rw [this,yaO]
  simp
  exact .inr rfl
 rintro n ⟨hn1,hn2⟩
 simp -implicitDefEqProofs only [rX,↓rY,↓reduceIte,Nat.reduceEqDiff,cS,dR,aQ,aT,leE,leH,leB,aE,aB,wfE,wfB,wfV,Nat.reduceLeDiff,yaa,cA]
 intro hmx
 simp only [br,decide_eq_true_eq,decide_eq_false_iff_not]
 refine ⟨fun h=>?_,fun h=>?_⟩
 ·have h00:yaj 0=0:=rfl
  have e1:yae n (yab n (encI x)++yab (N-n) (encI 0))=yab n (encI x):=by
   rw [List.take_append_of_le_length (by simp),yam (by simp)]
  simp only [h00,Nat.sub_zero,List.drop_zero,Nat.zero_add,e1,ybd]
  refine ⟨⟨⟨by omega,by omega⟩,by omega⟩,⟨⟨by omega,by omega⟩,by omega,by omega⟩,by omega,.inr trivial,⟨by simp only [lo];omega,by simp only [hi];omega⟩,n+min n (N-n),⟨⟨by omega,by omega⟩,by omega⟩,by omega,?_⟩
  have e2:List.drop (n+min n (N-n)) (yab n (encI x)++yab (N-n) (encI 0))=yab (N-(n+min n (N-n))) (encI 0):=by
   rw [List.drop_append,yaO,yaO,ybd,show n-(n+min n (N-n))=0 by omega,show N-n-(n+min n (N-n)-n)=N-(n+min n (N-n)) by omega]
   rfl
  rw [e2,List.take_replicate,Wc,show min (N-n) n=min n (N-n) by omega]
 ·have:N-n=0:=by omega
  have:n=N:=by omega
  subst this
  simp
end Go.Fx.P.K
namespace Go.Fx.P.K
open Go Go.Fx Go.Fx.E Go.Proofs
set_option maxRecDepth 20000
theorem Ws {α:Type} {a b c d f:α} {l:List α} {q:Nat}:(a::b::c::d::f::l)[q+5]?=l[q]?:=rfl
theorem acV {α:Type} {a b c d f x:α} {l:List α} {q:Nat}:(a::b::c::d::f::l).set (q+5) x=a::b::c::d::f::l.set q x:=rfl
def encR (l:List Nat):List (List V):=l.map Id
theorem tM {l:List Nat}:(encR l).length=l.length:=by simp [encR]
def iF (N:Nat) (L:Nat→List Nat):List (List V):=(yav N).map fun (v:Nat)=>[.sl (v+5) 0 (L v).length]
def dI (N:Nat) (L:Nat→List Nat):List Blk:=(yav N).map fun (v:Nat)=>.arr 1 (encR (L v))
section
variable {N:Nat} {L:Nat→List Nat}
theorem mI:(iF N L).length=N:=by simp [iF]
theorem fW:(dI N L).length=N:=by simp [dI]
theorem mJ {v:Nat} (h:v<(iF N L).length):(iF N L)[v]=[.sl (v+5) 0 (L v).length]:=by simp [iF]
theorem sP {v:Nat} {l:List Blk} (h:v<N):(dI N L++l)[v]?=some (.arr 1 (encR (L v))):=by
 rw [yaL (by rw [fW];exact h)]
 simp [dI,h]
theorem uF {q:Nat} {l:List Blk}:(dI N L++l)[N+q]?=l[q]?:=by
 rw [yaB (by rw [fW];omega),fW];congr 1;omega
theorem yN {l:List Blk}:(dI N L++l)[N]?=l[0]?:=uF (q:=0)
theorem uE {q:Nat} {l:List Blk} {x:Blk}:(dI N L++l).set (N+q) x=dI N L++l.set q x:=by
 rw [yaP _ _ (by rw [fW];omega),fW];congr 2;omega
theorem Jn {l:List Blk} {x:Blk}:(dI N L++l).set N x=dI N L++l.set 0 x:=uE (q:=0)
theorem Cm {v:Nat} {l:List Blk} {x:Blk} (h:v<N):(dI N L++l).set v x=(dI N L).set v x++l:=by
 rw [List.set_append_left _ _ (by rw [fW];exact h)]
theorem Jo {M:List Nat}:(dI N L).map (bF M)=dI N L:=by
 unfold dI
 rw [List.map_map]
 rfl
def app (L:Nat→List Nat) (v k:Nat):Nat→List Nat:=fun u=>if u=v then L u++[k] else L u
theorem rI {v:Nat} (k:Nat) (hv:v<N):((iF N L).map (bU [v+5])).set v [.sl (v+5) 0 ((L v).length+1)]=iF N (app L v k):=by
 apply yaw
 ·simp [iF]
 ·intro q h1 h2
  have hq:q<N:=by simpa [iF] using h2
  rw [yaQ,mJ]
  by_cases e:v=q
  ·subst e
   simp [app]
  ·rw [if_neg e,yac,mJ]
   have:¬(q+5=v+5):=by omega
   simp [bU,kill,this,app,Ne.symm e]
theorem rJ {v:Nat} (k:Nat) (hv:v<N):(dI N L).set v (.arr 1 (encR (L v)++[Id k]))=dI N (app L v k):=by
 apply yaw
 ·simp [dI]
 ·intro q h1 h2
  have hq:q<N:=by simpa [dI] using h2
  rw [yaQ]
  simp only [dI,yac,List.getElem_range]
  by_cases e:v=q
  ·subst e
   rw [if_pos rfl]
   simp [encR,app]
  ·rw [if_neg e];simp [app,Ne.symm e]
theorem Cn {Q:List Blk→Prop} (h0:Q []) (h1:∀ els r,Q r→Q (.arr 1 els::r)):Q (dI N L):=by
 have:∀ l:List Blk,(∀ b∈l,∃ els,b=.arr 1 els)→Q l:=by
  intro l
  induction l with
  | nil=>intro _;exact h0
  | cons b r ih =>
   intro h
   obtain ⟨els,rfl⟩:=h b List.mem_cons_self
   exact h1 _ _ (ih fun b hb=>h b (List.mem_cons_of_mem _ hb))
 refine this _ fun b hb=>?_
 unfold dI at hb
 rw [List.mem_map] at hb
 obtain ⟨v,_,rfl⟩:=hb
 exact ⟨_,rfl⟩
theorem yM {q:List Blk}:wfB q (dI N L):=Cn trivial fun _ _ h=>h
theorem uG {l:List Blk}:leH (dI N L++l) (dI N L):=Cn (Q:=fun m=>leH (m++l) m) (by unfold leH;trivial) fun _ _ h=>⟨rfl,h⟩
theorem yL {a b c d f:Blk}:wfL (a::b::c::d::f::dI N L) (iF N L).flatten:=by
 refine Dt fun x hx=>?_
 rw [List.mem_flatten] at hx
 obtain ⟨l,h1,h2⟩:=hx
 unfold iF at h1
 rw [List.mem_map] at h1
 obtain ⟨v,hv,rfl⟩:=h1
 rw [yaR] at hv
 rw [yar] at h2
 subst h2
 simp only [wfV,aB,Ws]
 have:=sP (L:=L) (l:=[]) hv
 rw [yap] at this
 rw [this]
 trivial
end
def Ar (N:Nat) (arcs:List Arc) (x:List Int) (L:Nat→List Nat):List Blk :=
 .arr 1 (x.map encI)::.var [.i N,.ro 4 (arcs.map Arc.enc)]::.arv 1 (iF N L)::.arr 1 (yab N (encI 0))::wB N x.length arcs 0 2 3::dI N L
def Hb (N:Nat) (arcs:List Arc) (x:List Int) (k:Nat):St :=
 ⟨[(21,.i k),(20,.i arcs.length),(19,.ro 4 (arcs.map Arc.enc)),(5,.ptr 4 0 0),(2,.ptr 1 0 0)],Ar N arcs x (fun v=>outs arcs v k),0⟩
theorem y9 {arcs:List Arc} {v k:Nat}:(outs arcs v k).length≤k:=by
 have:=List.length_filter_le (fun i=>decide ((gA arcs i).from_=v∨(gA arcs i).to=v)) (yav k)
 rwa [List.length_range] at this
theorem Ot {arcs:List Arc} {k f t:Nat} (hf:(gA arcs k).from_=f) (ht:(gA arcs k).to=t) (hft:f≠t):(fun v=>outs arcs v (k+1))=app (app (fun v=>outs arcs v k) f k) t k:=by
 funext v
 have h1:outs arcs v (k+1)=outs arcs v k++(if (gA arcs k).from_=v∨(gA arcs k).to=v then [k] else []):=by
  unfold outs
  rw [List.range_succ,yaS]
  congr 1
  by_cases h:(gA arcs k).from_=v∨(gA arcs k).to=v
  ·rw [if_pos h];simp only [List.filter_cons,List.filter_nil,h,decide_true];rfl
  ·rw [if_neg h];simp only [List.filter_cons,List.filter_nil,h,decide_false];rfl
 rw [h1,hf,ht]
 unfold app
 by_cases e1:v=t
 ·subst e1
  rw [if_pos rfl,if_neg (Ne.symm hft)]
  simp
 ·rw [if_neg e1]
  by_cases e2:v=f
  ·subst e2;simp
  ·rw [if_neg e2]
   have:¬((f:Int)=v∨(t:Int)=v):=by omega
   rw [if_neg this];simp
theorem acD (N:Nat) (arcs:List Arc) (x:List Int) (hV:Val N arcs) {RR:St→Prop} {X:Nat→St→Prop}
  (hX:∀ e b,get e 5=.ptr 4 0 0→X 0 ⟨e,Ar N arcs x (fun v=>outs arcs v arcs.length),b⟩) (k:Nat) (hk:k≤arcs.length) :
  aw (cxN Tryz.prog [0]) c89l0 (fun s'=>∃ g':Nat,(g'≤arcs.length∧arcs.length-g'<arcs.length-k)∧leS [0] s' (Hb N arcs x g')) X RR (Hb N arcs x k):=by
 have hL:=hV.hl
 have hfl:=fun v=>y9 (arcs:=arcs) (k:=k) (v:=v)
 have hnext:=fun f t=>Ot (arcs:=arcs) (k:=k) (f:=f) (t:=t)
 unfold c89l0 Hb Ar wB
 simp -implicitDefEqProofs only [rX,↓rY,rdK,aA,cells?,splice,↓reduceIte,Nat.reduceEqDiff,cS,Nat.reduceAdd,reduceCtorEq,aC,bZ,isD,Nat.reduceLT,yac,enc_len,fC,oJ,fR,yaa,cxN,Ws,acV,fW,uF,yN,uE,Jn,mI,yaC]
 simp only [br,decide_eq_true_eq,decide_eq_false_iff_not]
 refine ⟨fun h=>?_,fun h=>?_⟩
 ·have hk1:k<arcs.length:=by omega
  have hgk:gA arcs k=arcs[k]:=pB hk1
  have hva:=hV.at hk1
  rw [hgk] at hva hnext
  have hnx:=hnext arcs[k].from_.toNat arcs[k].to.toNat (by omega) (by omega) (by omega)
  have hf:arcs[k].from_.toNat<N:=by omega
  have ht:arcs[k].to.toNat<N:=by omega
  have if5:∀ (L:Nat→List Nat) (l:List Blk),(dI N L++l)[arcs[k].from_.toNat]?=some (.arr 1 (encR (L arcs[k].from_.toNat))):=fun L l=>sP hf
  have it5:∀ (L:Nat→List Nat) (l:List Blk),(dI N L++l)[arcs[k].to.toNat]?=some (.arr 1 (encR (L arcs[k].to.toNat))):=fun L l=>sP ht
  have tk:∀ l:List Nat,yae l.length (encR l)=encR l:=fun l=>yam (by rw [tM];omega)
  have ek:[V.v (Value.int IntKind.i64 (k:Int))]=Id k:=rfl
  have ke:∀ M:List Nat,bU M arcs[k].enc=arcs[k].enc:=fun M=>rfl
  have n0:(N=arcs[k].from_.toNat)=False:=eq_false (by omega)
  have n1:(N+1=arcs[k].from_.toNat)=False:=eq_false (by omega)
  have n2:(N=arcs[k].to.toNat)=False:=eq_false (by omega)
  have n3:(N+1=arcs[k].to.toNat)=False:=eq_false (by omega)
  have n4:(arcs[k].from_.toNat=N)=False:=eq_false (by omega)
  have n5:(arcs[k].to.toNat=N)=False:=eq_false (by omega)
  have n6:(N+3=arcs[k].to.toNat)=False:=eq_false (by omega)
  have n7:(arcs[k].from_.toNat=arcs[k].to.toNat)=False:=eq_false (by omega)
  have n8:(arcs[k].to.toNat=arcs[k].from_.toNat)=False:=eq_false (by omega)
  have eN:(Id k).length=1:=rfl
  have eD:(Id k).all isD=true:=rfl
  have hap:∀ (L:Nat→List Nat),app L arcs[k].from_.toNat k arcs[k].to.toNat=L arcs[k].to.toNat:=fun L=>by simp [app,n8]
  have mk:∀ (L:Nat→List Nat) (M:List Nat),((iF N L).map (bU M)).length=N:=fun L M=>by rw [List.length_map,mI]
  refine ⟨⟨by omega,h⟩,by omega,by omega,by omega,?_⟩
  simp -implicitDefEqProofs only [rX,↓rY,rdK,aA,cells?,splice,↓reduceIte,Nat.reduceEqDiff,cS,Nat.reduceAdd,reduceCtorEq,aC,bZ,leE,leH,leB,leV,bD,aE,aB,wfE,wfB,wfV,wfL,bP,bF,kill,bU,St.kill,isC,Nat.reduceLT,yac,oI,Ws,acV,fW,uF,yN,uE,mI,mJ,yaC,if5,it5,tk,ek,mk,tM,ke,n0,n1,n2,n3,n4,n5,n6,n7,eN,eD,hap,yau,Jo,Cm hf,Cm ht,fun L=>rI (L:=L) k hf,fun L=>rI (L:=L) k ht,fun L=>rJ (L:=L) k hf,fun L=>rJ (L:=L) k ht]
  have r1:=rI (L:=app (fun v=>outs arcs v k) arcs[k].from_.toNat k) k ht
  have r2:=rJ (L:=app (fun v=>outs arcs v k) arcs[k].from_.toNat k) k ht
  rw [hap] at r1 r2
  have o1:=hfl arcs[k].from_.toNat
  have o2:=hfl arcs[k].to.toNat
  refine ⟨by omega,hva.1,by omega,hva.2.1,by omega,by omega,hva.2.1,by omega,by simp only [lo,hi];omega,k+1,⟨by omega,by omega⟩,by omega,?_⟩
  rw [r1,r2,←hnx]
  exact ⟨⟨rfl,uG⟩,yL,yM⟩
 ·have hke:k=arcs.length:=by omega
  subst hke
  exact hX _ _ rfl
theorem Yi (N:Nat) (arcs:List Arc) (x:List Int) (hV:Val N arcs):OkN Tryz.prog 89 [net N arcs,.sl 0 0 x.length] [.arr 1 (x.map encI)] [] (IsA (.ptr 4 0 0) (Ar N arcs x (fun v=>outs arcs v arcs.length))):=by
 refine eV pol [0] lw89 (by simp) ⟨trivial,trivial⟩ (by simp) ?_
 have hL:=hV.hl
 have hN:=hV.hn
 unfold c89 net
 simp -implicitDefEqProofs only [rX,↓rY,rdK,aA,cells?,splice,↓reduceIte,Nat.reduceEqDiff,Nat.reduceAdd,reduceCtorEq,aC,bJ,Nat.reduceLeDiff,yaa,cxN,aN]
 have hrows:∀ v,outs arcs v 0=[]:=fun v=>rfl
 have e0:dI N (fun v=>outs arcs v 0)=yab N (.arr 1 []):=by
  apply yaw
  ·simp [dI]
  ·intro q h1 h2
   simp [dI,hrows,encR]
 have hnil:Ml (yab N [V.nil]) (iF N (fun v=>outs arcs v 0)):=by
  refine ⟨by simp [mI],fun i a b h1 h2=>?_⟩
  have hi:i<N:=by
   have:=(List.getElem?_eq_some_iff.1 h1).1
   simpa using this
  have ha:a=[V.nil]:=by
   rw [yaD,if_pos hi] at h1
   simpa using h1.symm
  have hb:b=[.sl (i+5) 0 0]:=by
   rw [yah (by rw [mI];exact hi),mJ] at h2
   simpa [hrows] using h2.symm
  subst ha hb
  refine ⟨rfl,fun j x y q1 q2=>?_⟩
  cases j with
  | zero =>
   simp only [yaN,Option.some.injEq] at q1 q2
   subst q1 q2
   exact .inr ⟨rfl,_,rfl⟩
  | succ j=>simp at q1
 have hfin:∀ e b,get e 5=.ptr 4 0 0→aw (cxN Tryz.prog [0]) ((LCode.reg 0 [{ dst:=some 63,op:=LOp.mov (Operand.tmp 5) },{ dst:=some 4,op:=LOp.mov (Operand.tmp 63) }]).seq LCode.ret)
   (eU [0] 1 [hJ.tmp 4] (IsA (V.ptr 4 0 0) (Ar N arcs x fun v=>outs arcs v arcs.length))) (fun x x_1=>False) (eU [0] 1 [hJ.tmp 4] (IsA (V.ptr 4 0 0) (Ar N arcs x fun v=>outs arcs v arcs.length))) ⟨e,Ar N arcs x fun v=>outs arcs v arcs.length,b⟩:=by
  intro e b he
  have hle:=uG (N:=N) (L:=fun v=>outs arcs v arcs.length) (l:=[])
  rw [yap] at hle
  unfold Ar wB
  simp -implicitDefEqProofs only [rX,↓reduceIte,aQ,aT,leH,leB,leV,bD,aE,aB,wfB,wfV,wfL,Nat.reduceLeDiff,cxN,he,cA,eq_true hle,eq_true yM,eq_true yL]
 refine ⟨⟨⟨by omega,by omega,by omega⟩,⟨by omega,by omega,by omega⟩,fun hm=>?_⟩,⟨by omega,by omega,by omega⟩,⟨by omega,by omega,by omega⟩,fun hm=>?_⟩
 all_goals
  refine fY (.virt N 1 (by decide) (.nilW 2 1 _ (iF N fun v=>outs arcs v 0) rfl hnil (.refl _))) (Hb N arcs x) (fun k=>k≤arcs.length) (fun k=>arcs.length-k) 0 (yak _) ?_ (acD N arcs x hV (fun e b he=>hfin e b he))
  unfold Hb Ar wB
  rw [e0]
  have hle:=uG (N:=N) (L:=fun v=>outs arcs v 0) (l:=[])
  rw [yap,e0] at hle
  have hwf:=fun q=>yM (N:=N) (L:=fun v=>outs arcs v 0) (q:=q)
  rw [e0] at hwf
  have hws:=fun a b c d f=>yL (N:=N) (L:=fun v=>outs arcs v 0) (a:=a) (b:=b) (c:=c) (d:=d) (f:=f)
  rw [e0] at hws
  simp -implicitDefEqProofs only [rX,↓reduceIte,Nat.reduceEqDiff,leE,leH,leB,leV,bD,aE,aB,wfE,wfB,wfV,wfL,yai,eq_true hle,fun q=>eq_true (hwf q),fun a b c d f=>eq_true (hws a b c d f)]
  rfl
theorem Jm {N:Nat} {L:Nat→List Nat} {a b c d f:Blk}:(iF N L).map (gvL (fun k=>decide (5≤k)) (a::b::c::d::f::dI N L))=(yav N).map fun (v:Nat)=>[.ro 1 (encR (L v))]:=by
 apply yaw
 ·simp [iF]
 ·intro v h1 h2
  have hv:v<N:=by simpa using h2
  rw [yac,mJ]
  have hb:blk (a::b::c::d::f::dI N L) (v+5)=.arr 1 (encR (L v)):=by
   unfold blk
   have:=sP (L:=L) (l:=[]) hv
   rw [yap] at this
   rw [yag,Ws,this];rfl
  simp only [gvL,gvV,hb]
  have:yae (L v).length (encR (L v))=encR (L v):=yam (by rw [tM];omega)
  simp [tM,this]
theorem ajJ (N:Nat) (arcs:List Arc) (x:List Int) (hV:Val N arcs):OkN Tryz.prog 89 [net N arcs,.sl 0 0 x.length] [.arr 1 (x.map encI)] [] (IsA (.ptr 4 0 0) [.arr 1 (x.map encI),.dead,.arv 1 (iP arcs N),.arr 1 (yab N (encI 0)),wB N x.length arcs 0 2 3]):=by
 refine ⟨(Yi N arcs x hV).1,Pq [0] (by simp) (by simp) (Yi N arcs x hV).2 ?_⟩
 rintro r hs ⟨rfl,rfl⟩
 refine ⟨by simp [aE,aB,Ar],_,_,⟨rfl,rfl⟩,by simp,?_⟩
 refine ⟨_,.give (fun k=>decide (5≤k)) (by simp) (.refl _),?_⟩
 have hg:=fun a b c d f=>Jm (N:=N) (L:=fun v=>outs arcs v arcs.length) (a:=a) (b:=b) (c:=c) (d:=d) (f:=f)
 have hO:((yav N).map fun (v:Nat)=>[V.ro 1 (encR (outs arcs v arcs.length))])=iP arcs N:=rfl
 unfold Ar wB
 simp only [St.give,gvH,gvB,gvE,gvV]
 simp -implicitDefEqProofs only [rX,↓reduceIte,Nat.reduceAdd,leE,leH,leB,leV,bD,aE,aB,wfE,wfB,wfV,wfL,Nat.reduceLeDiff,gvL,gvV,hg,hO,bY,Nat.reduceLeDiff,decide_false]
end Go.Fx.P.K
namespace Go.Fx.P.K
open Go Go.Fx Go.Fx.E Go.Proofs
set_option maxRecDepth 20000
theorem abW (i:Nat):(Id i)[0]?=some (.i i):=rfl
def cR (arcs:List Arc) (x:List Int) (v k:Nat):Int:=if (gA arcs k).from_=v then (gA arcs k).cap-x.getD k 0 else x.getD k 0
def lO (arcs:List Arc) (x:List Int) (v k:Nat):V :=
 if (gA arcs k).from_=v then .agg [.i k,.i (gA arcs k).to,.i ((gA arcs k).cap-x.getD k 0),.i (gA arcs k).cost,.b false]
 else .agg [.i k,.i (gA arcs k).from_,.i (x.getD k 0),.i (-(gA arcs k).cost),.b true]
def v8 (arcs:List Arc) (x:List Int) (v k:Nat):List V :=
 if (gA arcs k).from_=v then [.i k,.i (gA arcs k).to,.i ((gA arcs k).cap-x.getD k 0),.i (gA arcs k).cost,.b false]
 else [.i k,.i (gA arcs k).from_,.i (x.getD k 0),.i (-(gA arcs k).cost),.b true]
theorem abV {a:Arc} {q:List Blk}:wfL q a.enc:=by simp [Arc.enc,wfL,wfV]
structure EI (arcs:List Arc) (v k a b i:Nat) (e:Env):Prop where
 e0:get e 0=.itr k
 e1:get e 1=.ptr a 0 0
 e2:get e 2=.ptr b 0 0
 e14:get e 14=.ro 1 (encR (outs arcs v arcs.length))
 e15:get e 15=.i (outs arcs v arcs.length).length
 e16:get e 16=.i i
 e65:get e 65=.b true
structure ItH {G:Type} (hp:G→List Blk) (fl:G→List Int) (L N v:Nat) (arcs:List Arc) (k a b w fb ob pb:Nat) (fx:List Nat):Prop where
 hV:Val N arcs
 hv:v<N
 len:∀ g,(hp g).length=L
 ha:∀ g tl,(hp g++tl)[a]?=some (.var [.ptr w 0 0])
 hb:∀ g tl,(hp g++tl)[b]?=some (.var [.i v])
 hw:∀ g tl,(hp g++tl)[w]?=some (wB N arcs.length arcs fb ob pb)
 hf:∀ g tl,(hp g++tl)[fb]?=some (.arr 1 ((fl g).map encI))
 ho:∀ g tl,(hp g++tl)[ob]?=some (.arv 1 (iP arcs N))
 kp:∀ g,aE fx (hp g)
 wf:∀ g,wfB (hp g) (hp g)
 lk:∀ g,∃ t e,(hp g)[k]?=some (.rcd t e)
 fk:∀ g,(fl g).length=arcs.length∧∀ j,0≤(fl g).getD j 0∧(fl g).getD j 0≤1073741824
theorem leH_app:∀ (h l:List Blk),leH (h++l) h
 | [],_=>by unfold leH;trivial
 | b::h,l=>⟨aH b,leH_app h l⟩
abbrev nS {G:Type} (hp:G→List Blk) (arcs:List Arc) (v k a b:Nat) (g:Nat × G):St :=
 ⟨[(16,.i g.1),(15,.i (outs arcs v arcs.length).length),(14,.ro 1 (encR (outs arcs v arcs.length))),(2,.ptr b 0 0),(1,.ptr a 0 0),(0,.itr k)],hp g.2,0⟩
section
variable {G:Type} {hp:G→List Blk} {fl:G→List Int} {L N v:Nat} {arcs:List Arc} {k a b w fb ob pb:Nat} {fx:List Nat} {Y:Yt} {K:List Blk→Prop} {Inv:Nat→G→Prop}
theorem xF {i:Nat} (h:i<(outs arcs v arcs.length).length):(outs arcs v arcs.length)[i]<arcs.length∧((gA arcs (outs arcs v arcs.length)[i]).from_=v∨(gA arcs (outs arcs v arcs.length)[i]).to=v):=by
 have:=yad h
 unfold outs at this
 rw [List.mem_filter,yaR,decide_eq_true_eq] at this
 exact this
theorem Wl (H:ItH hp fl L N v arcs k a b w fb ob pb fx)
  (hskip:∀ i g (hi:i<(outs arcs v arcs.length).length),Inv i g→cR arcs (fl g) v (outs arcs v arcs.length)[i]≤0→Inv (i+1) g)
  (hY:∀ i g (hi:i<(outs arcs v arcs.length).length),Inv i g→0<cR arcs (fl g) v (outs arcs v arcs.length)[i]→∀ (e:Env) (bb:Nat) (Z:V→St→Prop),EI arcs v k a b i e →
   (∀ e' g' tl,EI arcs v k a b i e'→Inv (i+1) g'→Z (.b true) ⟨e',hp g'++tl,bb⟩)→(∀ e' hh,EI arcs v k a b i e'→K hh→Z (.b false) ⟨e',hh,bb⟩)→Y [lO arcs (fl g) v (outs arcs v arcs.length)[i]] ⟨e,hp g++[.var (gA arcs (outs arcs v arcs.length)[i]).enc,.var (v8 arcs (fl g) v (outs arcs v arcs.length)[i])],bb⟩ Z)
  (hK:∀ g,Inv (outs arcs v arcs.length).length g→K (hp g))
  (g:Nat × G) (hg:g.1≤(outs arcs v arcs.length).length∧Inv g.1 g.2) :
  aw ⟨C0 Tryz.prog,fx,[],I0 Tryz.prog,fun k' xs s Z=>k'=k∧Y xs s Z,none⟩ c146l0 (fun s'=>∃ g':Nat × G,((g'.1≤(outs arcs v arcs.length).length∧Inv g'.1 g'.2)∧(outs arcs v arcs.length).length-g'.1<(outs arcs v arcs.length).length-g.1)∧leS fx s' (nS hp arcs v k a b g'))
   (fun j s'=>if j=0 then K s'.h else False) (fun s=>K s.h) (nS hp arcs v k a b g):=by
 obtain ⟨i,g⟩:=g
 obtain ⟨hi,hI⟩:=hg
 simp only at hi hI
 have hL:=H.hV.hl
 have ha:=H.ha g
 have hb:=H.hb g
 have hw:=H.hw g
 have hf:=H.hf g
 have ho:=H.ho g
 have hlen:=H.len g
 have hk0:=hK g
 have go:∀ j tl,(hp g++tl)[L+j]?=tl[j]?:=fun j tl=>by
  rw [yaB (by omega),hlen];congr 1;omega
 have go0:∀ tl,(hp g++tl)[L]?=tl[0]?:=go 0
 have gs:∀ j tl B,(hp g++tl).set (L+j) B=hp g++tl.set j B:=fun j tl B=>by
  rw [yaP _ _ (by omega),hlen];congr 2;omega
 have gs0:∀ tl B,(hp g++tl).set L B=hp g++tl.set 0 B:=gs 0
 have a0:=ha []
 have b0:=hb []
 have w0:=hw []
 have f0:=hf []
 have o0:=ho []
 rw [yap] at a0 b0 w0 f0 o0
 generalize hrow:outs arcs v arcs.length=row at *
 unfold c146l0 nS
 rcases yas i row.length with hi1|hi1
 ·have hd:decide ((i:Int)<(row.length:Int))=true:=decide_eq_true (by omega)
  have hin:row[i]<arcs.length∧((gA arcs row[i]).from_=v∨(gA arcs row[i]).to=v):=by have:=xF (v:=v) (arcs:=arcs) (i:=i) (by rw [hrow];exact hi1);simp only [hrow] at this;exact this
  have hga:gA arcs row[i]=arcs[row[i]]'hin.1:=pB hin.1
  simp -implicitDefEqProofs only [rX,↓rY,rZ,↓rW,rdK,aA,cells?,splice,↓reduceIte,Nat.reduceEqDiff,cS,Nat.reduceAdd,reduceCtorEq,aC,bJ,leE,aB,wfE,wfV,isC,Nat.reduceLeDiff,yac,enc_len,fC,oJ,oI,p9,vR,fR,cM,yaa,hrow,hd,encR,abW,hlen,yaC,ha,hb,hw,hf,wB,go,go0,gs,gs0]
  have hrk:((row[i]:Nat):Int)<arcs.length:=by omega
  have hfk:=H.fk g
  have hfx:row[i]<(fl g).length:=by rw [hfk.1];exact hin.1
  have hfb:=hfk.2 row[i]
  have hva:=H.hV.at hin.1
  have hxe:(fl g).getD row[i] 0=(fl g)[row[i]]:=cC hfx
  have hlrow:row.length≤2048:=by rw [←hrow];exact Nat.le_trans y9 hL
  rw [hga] at hva
  have hwrap:IntKind.wrap .i64 (-arcs[row[i]].cost)=-arcs[row[i]].cost:=dH .i64 _ (by simp only [lo,Fx.hi];omega)
  rw [hxe] at hfb
  have hroom:cR arcs (fl g) v row[i]=if arcs[row[i]].from_=v then arcs[row[i]].cap-(fl g)[row[i]] else (fl g)[row[i]]:=by unfold cR;rw [hga,hxe]
  have hway:lO arcs (fl g) v row[i]=if arcs[row[i]].from_=v then .agg [.i row[i],.i arcs[row[i]].to,.i (arcs[row[i]].cap-(fl g)[row[i]]),.i arcs[row[i]].cost,.b false] else .agg [.i row[i],.i arcs[row[i]].from_,.i (fl g)[row[i]],.i (-arcs[row[i]].cost),.b true]:=by unfold lO;rw [hga,hxe]
  have hwc:v8 arcs (fl g) v row[i]=if arcs[row[i]].from_=v then [.i row[i],.i arcs[row[i]].to,.i (arcs[row[i]].cap-(fl g)[row[i]]),.i arcs[row[i]].cost,.b false] else [.i row[i],.i arcs[row[i]].from_,.i (fl g)[row[i]],.i (-arcs[row[i]].cost),.b true]:=by unfold v8;rw [hga,hxe]
  have hsk:=hskip i g hi1 hI
  have hy:=hY i g hi1 hI
  rw [hroom] at hsk hy
  rw [hway,hwc,hga] at hy
  simp only [hwrap]
  refine ⟨⟨by omega,by omega⟩,hi1,⟨by omega,hrk⟩,hin.1,⟨by omega,by omega⟩,hfx,by simp only [lo,Fx.hi];omega,?_⟩
  have hnext:∀ (g':G) (tl:List Blk) (e':Env),EI arcs v k a b i e'→Inv (i+1) g'→leS fx ⟨(16,.i ((i:Int)+1))::(71,.i ((i:Int)+1))::(70,.b false)::(69,.b false)::(65,.b true)::(68,.b true)::e',hp g'++tl,0⟩ (nS hp arcs v k a b (i+1,g')):=by
   intro g' tl e' he' hI'
   have la:=H.ha g' []
   have lb:=H.hb g' []
   obtain ⟨tk,ek,lk⟩:=H.lk g'
   rw [yap] at la lb
   have e1:=he'.e0;have e2:=he'.e1;have e3:=he'.e2;have e4:=he'.e14;have e5:=he'.e15
   unfold nS
   simp -implicitDefEqProofs only [rX,↓reduceIte,Nat.reduceEqDiff,reduceCtorEq,leE,aB,wfE,wfV,e1,e2,e3,e4,e5,eq_true (leH_app (hp g') tl),eq_true (H.kp g'),eq_true (H.wf g'),la,lb,lk]
   rfl
  by_cases hv:arcs[row[i]].from_=v
  ·have hb1:(arcs[row[i]].from_ != (v:Int))=false:=by simpa using hv
   simp only [if_pos hv] at hsk hy
   simp only [hb1,wd]
   simp only [br,decide_eq_true_eq,decide_eq_false_iff_not]
   refine ⟨fun hr=>?_,fun hr=>?_⟩
   ·refine ⟨rfl,?_⟩
    refine hy hr _ _ _ ⟨rfl,rfl,rfl,by rw [hrow];rfl,by rw [hrow];rfl,rfl,rfl⟩ ?_ ?_
    ·intro e' g' tl he' hI'
     simp -implicitDefEqProofs only [rX,↓rY,rZ,aA,↓reduceIte,Nat.reduceEqDiff,reduceCtorEq,leE,aB,wfE,wfV,he'.e65,he'.e16]
     refine ⟨by simp only [lo,Fx.hi];omega,(i+1,g'),⟨⟨by show i+1≤row.length;omega,hI'⟩,by show row.length-(i+1)<row.length-i;omega⟩,?_⟩
     have:=hnext g' tl e' he' hI'
     unfold nS at this
     simp -implicitDefEqProofs only [rX,↓reduceIte,Nat.reduceEqDiff,reduceCtorEq,leE,aB,wfE,wfV,hrow] at this ⊢
     exact this
    ·intro e' hh he' hK'
     simp -implicitDefEqProofs only [rX,↓rY,rZ,↓reduceIte,Nat.reduceEqDiff,he'.e65]
     exact hK'
   ·refine ⟨by simp only [lo,Fx.hi];omega,(i+1,g),⟨⟨by show i+1≤row.length;omega,hsk (by omega)⟩,by show row.length-(i+1)<row.length-i;omega⟩,?_⟩
    obtain ⟨tk,ek,lk⟩:=H.lk g
    simp only [a0,b0,lk]
    exact ⟨rfl,leH_app _ _,H.kp g,⟨trivial,trivial,trivial⟩,H.wf g⟩
  ·have hb1:(arcs[row[i]].from_ != (v:Int))=true:=by simpa using hv
   simp only [if_neg hv] at hsk hy
   simp only [hb1,wc]
   simp only [br,decide_eq_true_eq,decide_eq_false_iff_not]
   refine ⟨⟨by omega,hrk⟩,hfx,fun hr=>?_,fun hr=>?_⟩
   ·refine ⟨rfl,?_⟩
    refine hy hr _ _ _ ⟨rfl,rfl,rfl,by rw [hrow];rfl,by rw [hrow];rfl,rfl,rfl⟩ ?_ ?_
    ·intro e' g' tl he' hI'
     simp -implicitDefEqProofs only [rX,↓rY,rZ,aA,↓reduceIte,Nat.reduceEqDiff,reduceCtorEq,leE,aB,wfE,wfV,he'.e65,he'.e16]
     refine ⟨by simp only [lo,Fx.hi];omega,(i+1,g'),⟨⟨by show i+1≤row.length;omega,hI'⟩,by show row.length-(i+1)<row.length-i;omega⟩,?_⟩
     have:=hnext g' tl e' he' hI'
     unfold nS at this
     simp -implicitDefEqProofs only [rX,↓reduceIte,Nat.reduceEqDiff,reduceCtorEq,leE,aB,wfE,wfV,hrow] at this ⊢
     exact this
    ·intro e' hh he' hK'
     simp -implicitDefEqProofs only [rX,↓rY,rZ,↓reduceIte,Nat.reduceEqDiff,he'.e65]
     exact hK'
   ·refine ⟨by simp only [lo,Fx.hi];omega,(i+1,g),⟨⟨by show i+1≤row.length;omega,hsk (by omega)⟩,by show row.length-(i+1)<row.length-i;omega⟩,?_⟩
    obtain ⟨tk,ek,lk⟩:=H.lk g
    simp only [a0,b0,lk]
    exact ⟨rfl,leH_app _ _,H.kp g,⟨trivial,trivial,trivial⟩,H.wf g⟩
 ·have hd:decide ((i:Int)<(row.length:Int))=false:=decide_eq_false (by omega)
  have hie:i=row.length:=by omega
  subst hie
  have:=hk0 (by rw [←hrow] at *;exact hI)
  simp -implicitDefEqProofs only [rX,↓rY,↓reduceIte,Nat.reduceEqDiff,hd,hrow]
  first|exact this|simpa using this
theorem Za (H:ItH hp fl L N v arcs k a b w fb ob pb fx)
  (hskip:∀ i g (hi:i<(outs arcs v arcs.length).length),Inv i g→cR arcs (fl g) v (outs arcs v arcs.length)[i]≤0→Inv (i+1) g)
  (hY:∀ i g (hi:i<(outs arcs v arcs.length).length),Inv i g→0<cR arcs (fl g) v (outs arcs v arcs.length)[i]→∀ (e:Env) (bb:Nat) (Z:V→St→Prop),EI arcs v k a b i e →
   (∀ e' g' tl,EI arcs v k a b i e'→Inv (i+1) g'→Z (.b true) ⟨e',hp g'++tl,bb⟩)→(∀ e' hh,EI arcs v k a b i e'→K hh→Z (.b false) ⟨e',hh,bb⟩)→Y [lO arcs (fl g) v (outs arcs v arcs.length)[i]] ⟨e,hp g++[.var (gA arcs (outs arcs v arcs.length)[i]).enc,.var (v8 arcs (fl g) v (outs arcs v arcs.length)[i])],bb⟩ Z)
  (hK:∀ g,Inv (outs arcs v arcs.length).length g→K (hp g)) (g:G) (hg:Inv 0 g) :
  I0 Tryz.prog 146 [.itr k,.ptr a 0 0,.ptr b 0 0] fx k Y (hp g) K:=by
 refine Sr pol fx lw146 (by simp) ?_
 have hL:=H.hV.hl
 have hlen:=H.len g
 have a0:=H.ha g []
 have b0:=H.hb g []
 have w0:=H.hw g []
 have o0:=H.ho g []
 rw [yap] at a0 b0 w0 o0
 obtain ⟨tk,ek,lk⟩:=H.lk g
 have hv:=H.hv
 have hg2:v<(iP arcs N).length:=by rw [Hc];exact hv
 have hlrow:(outs arcs v arcs.length).length≤2048:=Nat.le_trans y9 hL
 unfold c146
 simp -implicitDefEqProofs only [rX,↓rY,aA,↓reduceIte,Nat.reduceEqDiff,cS,Nat.reduceAdd,reduceCtorEq,yaa,aN,a0,b0,w0,o0,wB,Hc,Rt]
 refine ⟨by omega,hv,fun _=>?_⟩
 refine bA (nS hp arcs v k a b) (fun g=>g.1≤(outs arcs v arcs.length).length∧Inv g.1 g.2) (fun g=>(outs arcs v arcs.length).length-g.1) (0,g) ⟨yak _,hg⟩ ?_ (Wl H hskip hY hK)
 unfold nS
 simp -implicitDefEqProofs only [rX,↓reduceIte,Nat.reduceEqDiff,reduceCtorEq,leE,aB,wfE,wfV,a0,b0,lk,yai,eq_true (H.kp g),eq_true (H.wf g),eq_true (aV (hp g)),encR]
end
end Go.Fx.P.K
namespace Go.Fx.Lb
theorem Hd:∀ (N:Nat) (l:List Nat),l.Nodup→(∀ x∈l,x<N)→l.length≤N
 | 0,l,_,h=>by
  cases l with
  | nil=>simp
  | cons x r=>exact absurd (h x (by simp)) (by omega)
 | N+1,l,hn,h=>by
  have h1:(l.erase N).Nodup:=hn.erase N
  have h2:∀ x∈l.erase N,x<N:=by
   intro x hx
   have h3:=h x (List.mem_of_mem_erase hx)
   have h4:x≠N:=fun e=>by subst e;exact (hn.mem_erase_iff.1 hx).1 rfl
   omega
  have h5:=Hd N _ h1 h2
  have h6:l.length≤(l.erase N).length+1:=by
   rw [List.length_erase];split<;>omega
  omega
def upd {α:Type} (f:Nat→α) (v:Nat) (x:α):Nat→α:=fun u=>if u=v then x else f u
theorem Jc {α:Type} (f:Nat→α) (v:Nat) (x:α):upd f v x v=x:=by simp [upd]
theorem upd_ne {α:Type} (f:Nat→α) {v u:Nat} (x:α) (h:u≠v):upd f v x u=f u:=by simp [upd,h]
structure Gr where
 N:Nat
 s:Nat
 src:Nat→Nat
 dst:Nat→Nat
 c:Nat→Int
 res:Nat→Prop
 π:Nat→Int
 hs:s<N
 hN:∀ i,res i→src i<N∧dst i<N
 hπ:∀ i,res i→0≤c i+π (src i)-π (dst i)
section
variable (G:Gr)
def PR:Nat→List Nat→Prop
 | v,[]=>v=G.s
 | v,i::r=>G.res i∧G.dst i=v∧PR (G.src i) r
def cs:List Nat→Int
 | []=>0
 | i::r=>G.c i+cs r
def vs:Nat→List Nat→List Nat
 | v,[]=>[v]
 | v,i::r=>v::vs (G.src i) r
def Dom (D:Nat→Int):Nat→List Nat→Prop
 | v,[]=>D v≤0
 | v,i::r=>D v≤cs G (i::r)∧Dom D (G.src i) r
variable {G}
theorem Py:∀ (v:Nat) (r:List Nat),(vs G v r).length=r.length+1
 | _,[]=>rfl
 | v,i::r=>by simp [vs,Py (G.src i) r]
theorem Ya:∀ (v:Nat) (r:List Nat),PR G v r→∀ u∈vs G v r,u<G.N
 | v,[],h,u,hu=>by
  simp only [vs,yar] at hu
  subst hu
  rw [show u=G.s from h];exact G.hs
 | v,i::r,h,u,hu=>by
  rcases List.mem_cons.1 hu with rfl|hu
  ·rw [←h.2.1];exact (G.hN i h.1).2
  ·exact Ya _ r h.2.2 u hu
theorem Dom.head {D:Nat→Int} {v:Nat} {r:List Nat} (h:Dom G D v r):D v≤cs G r:=by
 cases r with
 | nil=>exact h
 | cons i r=>exact h.1
theorem Dom.le {D D':Nat→Int} (hle:∀ u,D' u≤D u):∀ {v:Nat} {r:List Nat},Dom G D v r→Dom G D' v r
 | v,[],h=>yaE (hle v) h
 | v,i::r,h=>⟨yaE (hle v) h.1,Dom.le hle h.2⟩
theorem Tx {D:Nat→Int} {v:Nat}:∀ {u:Nat} {r:List Nat},PR G u r→Dom G D u r→v∈vs G u r→D v+(G.π u-G.π v)≤cs G r
 | u,[],_,hd,hv=>by
  simp only [vs,yar] at hv
  subst hv
  have:D v≤0:=hd
  simp only [cs];omega
 | u,i::r,hp,hd,hv=>by
  rcases List.mem_cons.1 hv with rfl|hv
  ·have:=hd.1;omega
  ·have ih:=Tx hp.2.2 hd.2 hv
   have:=G.hπ i hp.1
   have hdst:=hp.2.1
   rw [hdst] at this
   simp only [cs];omega
theorem Mj:∀ {u:Nat} {r:List Nat},PR G u r→0≤cs G r+G.π G.s-G.π u
 | u,[],h=>by rw [show u=G.s from h];simp only [cs];omega
 | u,i::r,h=>by
  have ih:=Mj h.2.2
  have:=G.hπ i h.1
  rw [h.2.1] at this
  simp only [cs];omega
structure Wp (G:Gr) (D:Nat→Int) (v:Nat) (r:List Nat):Prop where
 pr:PR G v r
 co:cs G r=D v
 nd:(vs G v r).Nodup
 dm:Dom G D v r
theorem Wp.len {D:Nat→Int} {v:Nat} {r:List Nat} (h:Wp G D v r):r.length<G.N:=by
 have:=Hd G.N _ h.nd (Ya v r h.pr)
 rw [Py] at this
 omega
theorem Ih {B C:Int} (hB:∀ i,G.res i→B≤G.c i∧G.c i≤C):∀ {v:Nat} {r:List Nat},PR G v r→(r.length:Int)*B≤cs G r∧cs G r≤(r.length:Int)*C
 | v,[],_=>by simp [cs]
 | v,i::r,h=>by
  have ih:=Ih hB h.2.2
  have:=hB i h.1
  simp only [cs,List.length_cons]
  have e1:((r.length+1:Nat):Int)*B=(r.length:Int)*B+B:=by rw [yaF,yaG];simp
  have e2:((r.length+1:Nat):Int)*C=(r.length:Int)*C+C:=by rw [yaF,yaG];simp
  rw [e1,e2]
  omega
structure Lab (G:Gr) (F:Int) (D:Nat→Int):Prop where
 h0:D G.s=0
 hw:∀ v,v<G.N→D v=F∨(D v<F∧∃ r,Wp G D v r)
theorem Lab.start {F:Int} (hF:0<F):Lab G F (fun v=>if v=G.s then 0 else F):=by
 refine ⟨by simp,fun v _=>?_⟩
 by_cases h:v=G.s
 ·right
  simp only [h,if_true]
  exact ⟨hF,[],rfl,by simp [cs],by simp [vs],by simp [Dom]⟩
 ·left;simp [h]
theorem Lab.relax {F:Int} {D:Nat→Int} (h:Lab G F D) {i:Nat} (hr:G.res i) (hu:D (G.src i)<F) (hlt:D (G.src i)+G.c i<D (G.dst i)):Lab G F (upd D (G.dst i) (D (G.src i)+G.c i))∧G.dst i≠G.s:=by
 obtain ⟨hsN,hdN⟩:=G.hN i hr
 obtain ⟨ru,hWu⟩:∃ r,Wp G D (G.src i) r:=by
  rcases h.hw _ hsN with he|⟨_,h⟩
  ·omega
  ·exact h
 have hπi:=G.hπ i hr
 have hle:∀ u,upd D (G.dst i) (D (G.src i)+G.c i) u≤D u:=by
  intro u
  unfold upd
  split
  ·rename_i e;rw [e];omega
  ·exact yaf _
 have hds:G.dst i≠G.s:=by
  intro e
  have h1:=Mj hWu.pr
  rw [hWu.co] at h1
  rw [e] at hπi hlt
  rw [h.h0] at hlt
  omega
 have hnot:G.dst i∉vs G (G.src i) ru:=by
  intro hm
  have:=Tx hWu.pr hWu.dm hm
  rw [hWu.co] at this
  omega
 have hdF:D (G.dst i)≤F:=by
  rcases h.hw _ hdN with he|⟨h1,_⟩<;>omega
 refine ⟨⟨by rw [upd_ne _ _ (Ne.symm hds)];exact h.h0,fun v hv=>?_⟩,hds⟩
 by_cases e:v=G.dst i
 ·subst e
  right
  rw [Jc]
  refine ⟨by omega,i::ru,⟨hr,rfl,hWu.pr⟩,?_,?_,?_⟩
  ·simp only [cs,Jc,hWu.co];omega
  ·exact List.nodup_cons.2 ⟨hnot,hWu.nd⟩
  ·refine ⟨?_,hWu.dm.le hle⟩
   rw [Jc];simp only [cs,hWu.co];omega
 ·rw [upd_ne _ _ e]
  rcases h.hw v hv with he|⟨h1,r,hW⟩
  ·exact .inl he
  ·exact .inr ⟨h1,r,hW.pr,by rw [upd_ne _ _ e];exact hW.co,hW.nd,hW.dm.le hle⟩
def Cl (G:Gr) (F:Int) (D:Nat→Int):Prop:=∀ i,G.res i→D (G.src i)<F→D (G.dst i)≤D (G.src i)+G.c i
theorem Nj {F:Int} {D:Nat→Int} (h0:D G.s=0) (hF:0<F) (hc:Cl G F D) (hfin:∀ i,G.res i→D (G.src i)<F→D (G.dst i)<F):∀ {v:Nat} {r:List Nat},PR G v r→D v≤cs G r∧D v<F
 | v,[],h=>by rw [show v=G.s from h,h0];simp only [cs];omega
 | v,i::r,h=>by
  have ih:=Nj h0 hF hc hfin h.2.2
  have h1:=hc i h.1 ih.2
  have h2:=hfin i h.1 ih.2
  rw [h.2.1] at h1 h2
  simp only [cs];omega
def Tight (G:Gr) (D:Nat→Int):Nat→List Nat→Prop
 | _,[]=>True
 | _,i::r=>D (G.dst i)=D (G.src i)+G.c i∧Tight G D (G.src i) r
theorem Gf {F:Int} {D:Nat→Int} (h0:D G.s=0) (hF:0<F) (hc:Cl G F D) (hfin:∀ i,G.res i→D (G.src i)<F→D (G.dst i)<F):∀ {v:Nat} {r:List Nat},PR G v r→cs G r=D v→Tight G D v r
 | v,[],_,_=>trivial
 | v,i::r,h,he=>by
  have h1:=Nj h0 hF hc hfin h.2.2
  have h2:=hc i h.1 h1.2
  have h3:cs G (i::r)=G.c i+cs G r:=rfl
  have hd:=h.2.1
  rw [h3] at he
  rw [hd] at h2
  refine ⟨by rw [hd];omega,Gf h0 hF hc hfin h.2.2 (by omega)⟩
end
end Go.Fx.Lb
namespace Go.Fx.P.K
open Go Go.Fx Go.Fx.E Go.Proofs
def ahA (arcs:List Arc) (x:List Int) (p:Nat→Int):Prop :=
 ∀ k,k<arcs.length→((gA arcs k).cost+p (gA arcs k).from_.toNat-p (gA arcs k).to.toNat<0→(gA arcs k).cap≤x.getD k 0)∧(0<(gA arcs k).cost+p (gA arcs k).from_.toNat-p (gA arcs k).to.toNat→x.getD k 0≤0)
theorem OkF.at {n:Int} {arcs:List Arc} {f t:Int} {x:List Int} (h:OkF n arcs f t x) {k:Nat} (hk:k<arcs.length):0≤x.getD k 0∧x.getD k 0≤(gA arcs k).cap:=by
 have hl:=h.hl
 have:=h.hp k (by omega) hk
 rw [pB hk,cC (by omega)]
 exact this
theorem Ci {g:Nat→Int}:∀ n,(∀ v,v<n→0≤g v)→0≤sm g n
 | 0,_=>yaf _
 | n+1,hh=>by
  have:=Ci n fun v hv=>hh v (by omega)
  have:=hh n (by omega)
  simp only [sm];omega
theorem OkC.cut {N:Nat} {arcs:List Arc} (hV:Val N arcs) {f t:Int} (hf:0≤f∧f<N) (ht:0≤t∧t<N) {x cut:List Int} (h:OkC N arcs f t x cut):∀ k,k<arcs.length→(hasB cut ((gA arcs k).from_.toNat:Int)=true→hasB cut ((gA arcs k).to.toNat:Int)=false→x.getD k 0=(gA arcs k).cap)∧(hasB cut ((gA arcs k).to.toNat:Int)=true→hasB cut ((gA arcs k).from_.toNat:Int)=false→x.getD k 0=0):=by
 intro k hk
 have hv:=hV.at hk
 have:=h.ha.h k hk hk
 rw [yat hv.1.1,yat hv.2.1.1,pB hk]
 exact this
end Go.Fx.P.K
namespace Go.Fx.P.K
open Go Go.Fx Go.Fx.E Go.Proofs
def wsrc (arcs:List Arc) (i:Nat):Nat:=if i%2=0 then (gA arcs (i/2)).from_.toNat else (gA arcs (i/2)).to.toNat
def wdst (arcs:List Arc) (i:Nat):Nat:=if i%2=0 then (gA arcs (i/2)).to.toNat else (gA arcs (i/2)).from_.toNat
def e7 (arcs:List Arc) (i:Nat):Int:=if i%2=0 then (gA arcs (i/2)).cost else -(gA arcs (i/2)).cost
def wrm (arcs:List Arc) (x:List Int) (i:Nat):Int:=if i%2=0 then (gA arcs (i/2)).cap-x.getD (i/2) 0 else x.getD (i/2) 0
def sF (arcs:List Arc) (x:List Int) (i:Nat):Prop:=i/2<arcs.length∧0<wrm arcs x i
def dL (arcs:List Arc) (p:Nat→Int) (i:Nat):Int:=e7 arcs i+p (wsrc arcs i)-p (wdst arcs i)
def NN (arcs:List Arc) (x:List Int) (p:Nat→Int):Prop:=∀ i,sF arcs x i→0≤dL arcs p i
theorem xX {N:Nat} {arcs:List Arc} (hV:Val N arcs) {i:Nat} (h:i/2<arcs.length):wsrc arcs i<N∧wdst arcs i<N∧wsrc arcs i≠wdst arcs i:=by
 have:=hV.at h
 unfold wsrc wdst
 split<;>omega
theorem t6 {N:Nat} {arcs:List Arc} (hV:Val N arcs) {i:Nat} (h:i/2<arcs.length):-1048576≤e7 arcs i∧e7 arcs i≤1048576:=by
 have:=hV.at h
 unfold e7
 split<;>omega
theorem Sb {arcs:List Arc} {x:List Int} {p:Nat→Int}:NN arcs x p↔ahA arcs x p:=by
 constructor
 ·intro h k hk
  refine ⟨fun h1=>?_,fun h1=>?_⟩
  ·apply Classical.byContradiction
   intro h2
   have:=h (2*k) ⟨by omega,by
    unfold wrm
    rw [if_pos (by omega),show 2*k/2=k by omega];omega⟩
   unfold dL e7 wsrc wdst at this
   rw [if_pos (by omega),if_pos (by omega),if_pos (by omega),show 2*k/2=k by omega] at this
   omega
  ·apply Classical.byContradiction
   intro h2
   have:=h (2*k+1) ⟨by omega,by
    unfold wrm
    rw [if_neg (by omega),show (2*k+1)/2=k by omega];omega⟩
   unfold dL e7 wsrc wdst at this
   rw [if_neg (by omega),if_neg (by omega),if_neg (by omega),show (2*k+1)/2=k by omega] at this
   omega
 ·intro h i ⟨hi,hr⟩
  have:=h _ hi
  unfold wrm at hr
  unfold dL e7 wsrc wdst
  split at hr
  ·rename_i h0
   rw [if_pos h0,if_pos h0,if_pos h0]
   have:=this.1
   apply Classical.byContradiction
   intro h3
   have:=this (by omega)
   omega
  ·rename_i h0
   rw [if_neg h0,if_neg h0,if_neg h0]
   have:=this.2
   apply Classical.byContradiction
   intro h3
   have:=this (by omega)
   omega
def wix (arcs:List Arc) (v k:Nat):Nat:=if (gA arcs k).from_=v then 2*k else 2*k+1
theorem fM {arcs:List Arc} {v k:Nat}:wix arcs v k/2=k:=by unfold wix;split<;>omega
theorem Dr {N:Nat} {arcs:List Arc} (hV:Val N arcs) {v k:Nat} (hk:k<arcs.length) (h:(gA arcs k).from_=v∨(gA arcs k).to=v):wsrc arcs (wix arcs v k)=v:=by
 have:=hV.at hk
 unfold wsrc
 rw [fM]
 unfold wix
 split
 ·rw [if_pos (by omega)];omega
 ·rw [if_neg (by omega)];omega
theorem xW {arcs:List Arc} {x:List Int} {v k:Nat}:wrm arcs x (wix arcs v k)=cR arcs x v k:=by
 unfold wrm cR
 rw [fM]
 unfold wix
 split
 ·rw [if_pos (by omega)]
 ·rw [if_neg (by omega)]
theorem Ll {N:Nat} {arcs:List Arc} (hV:Val N arcs) {i v:Nat} (hi:i/2<arcs.length) (hs:wsrc arcs i=v):i/2∈outs arcs v arcs.length∧wix arcs v (i/2)=i:=by
 have:=hV.at hi
 unfold wsrc at hs
 constructor
 ·unfold outs
  rw [List.mem_filter,yaR,decide_eq_true_eq]
  refine ⟨hi,?_⟩
  split at hs
  ·left;omega
  ·right;omega
 ·unfold wix
  split at hs
  ·rw [if_pos (by omega)];omega
  ·rw [if_neg (by omega)];omega
def grD (N:Nat) (arcs:List Arc) (x:List Int) (p:Nat→Int) (s:Nat) (hV:Val N arcs) (hs:s<N) (hn:NN arcs x p):Lb.Gr :=
 ⟨N,s,wsrc arcs,wdst arcs,dL arcs p,sF arcs x,fun _=>0,hs,fun i h=>⟨(xX hV h.1).1,(xX hV h.1).2.1⟩,fun i h=>by have:=hn i h;show 0≤dL arcs p i+0-0;omega⟩
def far:Int:=4611686018427387904
def KB:Int:=67711795200
def cn (d:Int):Int:=if d<far then KB+1-d else 0
structure DI (N:Nat) (G:Lb.Gr) (n:Nat) (ks vs D:List Int):Prop where
 lab:Lb.Lab G far (fun u=>D.getD u 0)
 len:D.length=N
 ent:∀ a b,mC n ks vs a b→(0≤b∧b<N)∧(0≤a∧a≤KB)∧D.getD b.toNat 0≤a
 cnt:(n:Int)≤sm (fun u=>cn (D.getD u 0)) N
 h1:n≤ks.length
 h2:n≤vs.length
def clN (G:Lb.Gr) (D:List Int) (u:Nat):Prop:=∀ i,G.res i→G.src i=u→D.getD (G.dst i) 0≤D.getD u 0+G.c i
def vE (N:Nat) (G:Lb.Gr) (n:Nat) (ks vs D:List Int) (Q:Nat→Prop):Prop:=∀ u,u<N→Q u→D.getD u 0<far→mC n ks vs (D.getD u 0) u∨clN G D u
section
variable {N:Nat} {arcs:List Arc} {x:List Int} {p:Nat→Int} {s:Nat} {hV:Val N arcs} {hs:s<N} {hn:NN arcs x p}
theorem Am (hN:N≤64) (hp:∀ j,0≤p j∧p j≤1073741824) {D:Nat→Int} (h:Lb.Lab (grD N arcs x p s hV hs hn) far D) {u:Nat} (hu:u<N):0≤D u∧(D u=far∨D u≤KB):=by
 rcases h.hw u hu with he|⟨_,r,hW⟩
 ·rw [he];exact ⟨by decide,.inl rfl⟩
 ·have h1:=Lb.Ih (G:=grD N arcs x p s hV hs hn) (B:=0) (C:=1074790400) (fun i hr=>by
   refine ⟨hn i hr,?_⟩
   have:=t6 hV hr.1
   have h2:=hp (wsrc arcs i)
   have h3:=hp (wdst arcs i)
   show e7 arcs i+p (wsrc arcs i)-p (wdst arcs i)≤_
   omega) hW.pr
  have hl:r.length<N:=hW.len
  rw [hW.co] at h1
  have:(r.length:Int)*1074790400≤63*1074790400:=yaH (by omega) (by omega)
  exact ⟨by omega,.inr (by unfold KB;omega)⟩
theorem n_b (hN:N≤64) {D:List Int} (hD:∀ u,u<N→0≤D.getD u 0) {n:Nat} (h:(n:Int)≤sm (fun u=>cn (D.getD u 0)) N):n≤8796093022207:=by
 have h1:sm (fun u=>cn (D.getD u 0)) N≤sm (fun _=>KB+1) N:=Ql N fun u hu=>by
  have:=hD u hu
  unfold cn
  split
  ·omega
  ·unfold KB;omega
 have h2:∀ m:Nat,sm (fun _=>KB+1) m=(m:Int)*(KB+1):=by
  intro m
  induction m with
  | zero=>simp [sm]
  | succ m ih =>
   simp only [sm,ih]
   rw [yaF,yaG];simp
 rw [h2] at h1
 have:(N:Int)*(KB+1)≤64*(KB+1):=yaH (by omega) (by decide)
 have e:(64:Int)*(KB+1)=4333554892864:=by decide
 omega
theorem Eb {g h:Nat→Int} {v:Nat}:∀ n,v<n→(∀ u,u<n→u≠v→g u=h u)→sm g n=sm h n+(g v-h v)
 | 0,hv,_=>by omega
 | n+1,hv,hh=>by
  simp only [sm]
  by_cases e:v=n
  ·subst e
   rw [Gi v fun u hu=>hh u (by omega) (by omega)];omega
  ·rw [Eb n (by omega) fun u hu hne=>hh u (by omega) hne,hh n (by omega) (Ne.symm e)];omega
end
end Go.Fx.P.K
namespace Go.Fx.P.K
open Go Go.Fx Go.Fx.E Go.Proofs
theorem gE {l:List Int} {i j:Nat} {x:Int} (h:i<l.length):(l.set i x).getD j 0=if j=i then x else l.getD j 0:=uU h
def meas (N n:Nat) (D:List Int):Nat:=2*(sm (fun u=>D.getD u 0) N).toNat+n
section
variable {N:Nat} {arcs:List Arc} {x:List Int} {p:Nat→Int} {s:Nat} {hV:Val N arcs} {hs:s<N} {hn:NN arcs x p}
theorem DI.nn {n:Nat} {ks vs D:List Int} (hN:N≤64) (hp:∀ j,0≤p j∧p j≤1073741824) (h:DI N (grD N arcs x p s hV hs hn) n ks vs D) {u:Nat} (hu:u<N):0≤D.getD u 0∧(D.getD u 0=far∨D.getD u 0≤KB):=Am hN hp h.lab hu
theorem DI.n_le {n:Nat} {ks vs D:List Int} (hN:N≤64) (hp:∀ j,0≤p j∧p j≤1073741824) (h:DI N (grD N arcs x p s hV hs hn) n ks vs D):n≤8796093022207:=n_b hN (fun u hu=>(h.nn hN hp hu).1) h.cnt
theorem DI.push {n:Nat} {ks vs D ks' vs':List Int} (hN:N≤64) (hp:∀ j,0≤p j∧p j≤1073741824) (h:DI N (grD N arcs x p s hV hs hn) n ks vs D) {i:Nat} (hr:sF arcs x i) (hu:D.getD (wsrc arcs i) 0<far) (hlt:D.getD (wsrc arcs i) 0+dL arcs p i<D.getD (wdst arcs i) 0)
  (hq:oM n ks vs (D.getD (wsrc arcs i) 0+dL arcs p i) (wdst arcs i:Nat) (ks',vs')) :
  DI N (grD N arcs x p s hV hs hn) (n+1) ks' vs' (D.set (wdst arcs i) (D.getD (wsrc arcs i) 0+dL arcs p i))∧meas N (n+1) (D.set (wdst arcs i) (D.getD (wsrc arcs i) 0+dL arcs p i))<meas N n D:=by
 obtain ⟨w1,w2,w3⟩:=xX hV hr.1
 obtain ⟨hl,hds⟩:=h.lab.relax (i:=i) hr hu hlt
 have hdl:wdst arcs i<D.length:=by rw [h.len];exact w2
 have efn:(fun u=>(D.set (wdst arcs i) (D.getD (wsrc arcs i) 0+dL arcs p i)).getD u 0)=Lb.upd (fun u=>D.getD u 0) (wdst arcs i) (D.getD (wsrc arcs i) 0+dL arcs p i):=by
  funext u
  rw [gE hdl];rfl
 have hl':Lb.Lab (grD N arcs x p s hV hs hn) far (fun u=>(D.set (wdst arcs i) (D.getD (wsrc arcs i) 0+dL arcs p i)).getD u 0):=by rw [efn];exact hl
 have hnew:0≤D.getD (wsrc arcs i) 0+dL arcs p i:=by
  have:=(h.nn hN hp w1).1
  have:=hn i hr
  omega
 have hold:=h.nn hN hp w2
 have hlow:D.getD (wsrc arcs i) 0+dL arcs p i<far:=by
  rcases hold.2 with e|e
  ·omega
  ·have:KB<far:=by decide
   omega
 have hkb:D.getD (wsrc arcs i) 0+dL arcs p i≤KB:=by
  have:=Am hN hp hl' w2
  rw [gE hdl,if_pos rfl] at this
  rcases this.2 with e|e
  ·omega
  ·exact e
 generalize hnv:D.getD (wsrc arcs i) 0+dL arcs p i=nv at *
 have hge:∀ u,(D.set (wdst arcs i) nv).getD u 0=if u=wdst arcs i then nv else D.getD u 0:=fun u=>gE hdl
 refine ⟨⟨hl',by rw [yaz];exact h.len,fun a b hab=>?_,?_,by have:=hq.h1;simp only at this;omega,by have:=hq.h2;simp only at this;omega⟩,?_⟩
 ·rw [hge]
  rcases (hq.he a b).1 hab with h1|⟨rfl,rfl⟩
  ·obtain ⟨q1,q2,q3⟩:=h.ent a b h1
   refine ⟨q1,q2,?_⟩
   split
   ·rename_i e;rw [e] at q3;omega
   ·exact q3
  ·refine ⟨⟨by omega,by omega⟩,⟨hnew,hkb⟩,?_⟩
   rw [if_pos (by omega)];exact yaf _
 ·have hc:=h.cnt
  rw [Eb (v:=wdst arcs i) (h:=fun u=>cn (D.getD u 0)) N w2 (fun u _ hne=>by simp only [hge,if_neg hne])]
  simp only [hge,if_true]
  have:cn (D.getD (wdst arcs i) 0)+1≤cn nv:=by
   unfold cn
   rw [if_pos hlow]
   split
   ·omega
   ·omega
  omega
 ·unfold meas
  rw [Eb (v:=wdst arcs i) (h:=fun u=>D.getD u 0) N w2 (fun u _ hne=>by simp only [hge,if_neg hne])]
  simp only [hge,if_true]
  have h1:0≤sm (fun u=>(D.set (wdst arcs i) nv).getD u 0) N:=Ci N fun u hu=>(Am hN hp hl' hu).1
  rw [Eb (v:=wdst arcs i) (h:=fun u=>D.getD u 0) N w2 (fun u _ hne=>by simp only [hge,if_neg hne])] at h1
  simp only [hge,if_true] at h1
  omega
theorem vE.push {n:Nat} {ks vs D ks' vs':List Int} {Q:Nat→Prop} {G:Lb.Gr} (h:vE N G n ks vs D Q) {t:Nat} {nv:Int} (ht:t<D.length) (hlt:nv<D.getD t 0) (hq:oM n ks vs nv (t:Nat) (ks',vs')):vE N G (n+1) ks' vs' (D.set t nv) Q:=by
 intro u hu hQ hf
 have hge:∀ u,(D.set t nv).getD u 0=if u=t then nv else D.getD u 0:=fun u=>gE ht
 rw [hge] at hf ⊢
 by_cases e:u=t
 ·subst e
  rw [if_pos rfl]
  exact .inl ((hq.he _ _).2 (.inr ⟨rfl,rfl⟩))
 ·rw [if_neg e] at hf ⊢
  rcases h u hu hQ hf with h1|h1
  ·exact .inl ((hq.he _ _).2 (.inl h1))
  ·right
   intro i hi hsrc
   have:=h1 i hi hsrc
   rw [hge,hge,if_neg e]
   split
   ·rename_i e2;rw [e2] at this;omega
   ·exact this
theorem DI.pop {n:Nat} {ks vs D:List Int} {G:Lb.Gr} (h:DI N G n ks vs D) (hn0:0<n) {g:(Int × Int) × List Int × List Int} (hq:Xq n ks vs g):DI N G (n-1) g.2.1 g.2.2 D∧meas N (n-1) D<meas N n D :=
 ⟨⟨h.lab,h.len,fun a b hab=>h.ent a b ((hq.he a b).2 (.inl hab)),by have:=h.cnt;omega,hq.h1,hq.h2⟩,by unfold meas;omega⟩
theorem vE.pop {n:Nat} {ks vs D:List Int} {G:Lb.Gr} (h:vE N G n ks vs D fun _=>True) {g:(Int × Int) × List Int × List Int} (hq:Xq n ks vs g):vE N G (n-1) g.2.1 g.2.2 D fun u=>¬(g.1.1=D.getD u 0∧g.1.2=u):=by
 intro u hu hQ hf
 rcases h u hu trivial hf with h1|h1
 ·rcases (hq.he _ _).1 h1 with h2|⟨h2,h3⟩
  ·exact .inl h2
  ·exact absurd ⟨h2.symm,h3.symm⟩ hQ
 ·exact .inr h1
theorem vE.done {n:Nat} {ks vs D:List Int} {G:Lb.Gr} {v:Nat} (h:vE N G n ks vs D fun u=>u≠v) (hc:clN G D v):vE N G n ks vs D fun _=>True:=by
 intro u hu _ hf
 by_cases e:u=v
 ·subst e;exact .inr hc
 ·exact h u hu e hf
structure Bq (N:Nat) (G:Lb.Gr) (D:List Int):Prop where
 lab:Lb.Lab G far (fun u=>D.getD u 0)
 len:D.length=N
 cl:Lb.Cl G far (fun u=>D.getD u 0)
theorem DI.fin {ks vs D:List Int} (h:DI N (grD N arcs x p s hV hs hn) 0 ks vs D) (hP:vE N (grD N arcs x p s hV hs hn) 0 ks vs D fun _=>True):Bq N (grD N arcs x p s hV hs hn) D:=by
 refine ⟨h.lab,h.len,fun i hr hf=>?_⟩
 rcases hP (wsrc arcs i) (xX hV hr.1).1 trivial hf with ⟨j,hj,_⟩|h1
 ·omega
 ·exact h1 i hr rfl
theorem DI.start {ks vs:List Int} (hq:oM 0 [] [] 0 (s:Nat) (ks,vs)):DI N (grD N arcs x p s hV hs hn) 1 ks vs ((yab N far).set s 0)∧vE N (grD N arcs x p s hV hs hn) 1 ks vs ((yab N far).set s 0) fun _=>True:=by
 have hsl:s<(yab N far).length:=by simpa using hs
 have hge:∀ u,u<N→((yab N far).set s 0).getD u 0=if u=s then 0 else far:=by
  intro u hu
  rw [gE hsl]
  split
  ·rfl
  ·rw [yag,yaD,if_pos hu];rfl
 have hlab:=Lb.Lab.start (G:=grD N arcs x p s hV hs hn) (F:=far) (by decide)
 have hent:∀ a b,mC 1 ks vs a b→a=0∧b=s:=by
  intro a b h
  rcases (hq.he a b).1 h with ⟨j,hj,_⟩|h
  ·omega
  ·exact h
 refine ⟨⟨⟨?_,fun v hv=>?_⟩,by simp,fun a b hab=>?_,?_,by have:=hq.h1;simp only at this;omega,by have:=hq.h2;simp only at this;omega⟩,fun u hu _ hf=>?_⟩
 ·show ((yab N far).set s 0).getD s 0=0
  rw [hge s hs,if_pos rfl]
 ·rw [hge v hv]
  rcases hlab.hw v hv with h1|⟨h1,r,hW⟩
  ·exact .inl h1
  ·right
   by_cases e:v=s
   ·subst e
    rw [if_pos rfl]
    refine ⟨by decide,[],rfl,?_,by simp [Lb.vs],?_⟩
    ·show (0:Int)=_
     simp only [hge v hv,if_true]
    ·show ((yab N far).set v 0).getD v 0≤0
     rw [hge v hv,if_pos rfl];exact yaf _
   ·simp only [show ((grD N arcs x p s hV hs hn).s)=s from rfl,if_neg e] at h1
    exact absurd h1 (yaI _)
 ·obtain ⟨rfl,rfl⟩:=hent a b hab
  refine ⟨⟨by omega,by omega⟩,⟨yaf _,by decide⟩,?_⟩
  rw [yaa,hge s hs,if_pos rfl];exact yaf _
 ·have h1:sm (fun u=>if u=s then (1:Int) else 0) N≤sm (fun u=>cn (((yab N far).set s 0).getD u 0)) N:=by
   refine Ql N fun u hu=>?_
   rw [hge u hu]
   split
   ·decide
   ·unfold cn;rw [if_neg (by omega)];exact yaf _
  rw [Qk,if_pos hs] at h1
  simpa using h1
 ·rw [hge u hu] at hf
  left
  split at hf
  ·rename_i e
   subst e
   rw [hge u hu,if_pos rfl]
   exact (hq.he _ _).2 (.inr ⟨rfl,rfl⟩)
  ·exact absurd hf (yaI _)
end
end Go.Fx.P.K
namespace Go.Fx.P.K
open Go Go.Fx Go.Fx.E Go.Proofs
theorem Db {d:List Bool} {i j:Nat} {b:Bool} (h:i<d.length):(d.set i b).getD j false=if j=i then b else d.getD j false:=by
 rw [yag,yag,List.getElem?_set]
 by_cases e:i=j
 ·subst e;simp [h]
 ·rw [if_neg e,if_neg (Ne.symm e)]
theorem Cg {arcs:List Arc} {x:List Int} {k:Nat} {v:Int} (u:Int) (hk:k<x.length):∀ m,valTo arcs u (x.set k v) m=valTo arcs u x m+(if k<m then (if (gA arcs k).from_=u then v-x.getD k 0 else 0)-(if (gA arcs k).to=u then v-x.getD k 0 else 0) else 0)
 | 0=>by simp [valTo]
 | m+1=>by
  have e1:∀ y:List Int,valTo arcs u y (m+1)=valTo arcs u y m+(if (gA arcs m).from_=u then y.getD m 0 else 0)-(if (gA arcs m).to=u then y.getD m 0 else 0):=fun _=>rfl
  rw [e1,e1,Cg u hk m,gE hk]
  by_cases e:m=k
  ·subst e
   rw [if_pos rfl,if_neg (Nat.lt_irrefl _),if_pos (Nat.lt_succ_self _)]
   split<;>split<;>omega
  ·rw [if_neg e]
   generalize valTo arcs u x m=V
   generalize (if (gA arcs m).from_=u then x.getD m 0 else 0)=F
   generalize (if (gA arcs m).to=u then x.getD m 0 else 0)=G
   generalize (if (gA arcs k).from_=u then v-x.getD k 0 else 0)=A
   generalize (if (gA arcs k).to=u then v-x.getD k 0 else 0)=B
   by_cases e2:k<m
   ·rw [if_pos e2,if_pos (by omega)];omega
   ·rw [if_neg e2,if_neg (by omega)];omega
structure XB (arcs:List Arc) (x:List Int):Prop where
 hl:x.length=arcs.length
 hb:∀ k,k<arcs.length→0≤x.getD k 0∧x.getD k 0≤(gA arcs k).cap
def vd (v:Nat) (n:Int) (w:Nat):Int:=if w=v then n else 0
theorem Dv {v w:Nat} {a b:Int}:vd v (a+b) w=vd v a w+vd v b w:=by unfold vd;split<;>omega
theorem Vn {v w:Nat}:vd v 0 w=0:=by unfold vd;split<;>rfl
structure FI (arcs:List Arc) (x:List Int) (p:Nat→Int) (to:Nat) (d:List Bool) (v:Nat) (n:Int) (x':List Int) (d':List Bool):Prop where
 xb:XB arcs x'
 dl:d'.length=d.length
 val:∀ w:Nat,valTo arcs w x' arcs.length=valTo arcs w x arcs.length+vd v n w-vd to n w
 tig:∀ k,k<arcs.length→x'.getD k 0≠x.getD k 0→dL arcs p (2*k)=0
 mono:∀ u,d.getD u false=true→d'.getD u false=true
 kept:∀ k,k<arcs.length→(d.getD (gA arcs k).from_.toNat false=true∨d.getD (gA arcs k).to.toNat false=true)→x'.getD k 0=x.getD k 0
def CLo (arcs:List Arc) (x:List Int) (p:Nat→Int) (to:Nat) (d:List Bool) (u:Nat):Prop:=u≠to∧∀ i,sF arcs x i→wsrc arcs i=u→dL arcs p i=0→d.getD (wdst arcs i) false=true
theorem CLo.mono {arcs:List Arc} {x:List Int} {p:Nat→Int} {to u:Nat} {d d':List Bool} (h:CLo arcs x p to d u) (hm:∀ u,d.getD u false=true→d'.getD u false=true):CLo arcs x p to d' u :=
 ⟨h.1,fun i h1 h2 h3=>hm _ (h.2 i h1 h2 h3)⟩
structure FQ (arcs:List Arc) (x:List Int) (p:Nat→Int) (to:Nat) (d:List Bool) (v:Nat) (most:Int) (r:Int × List Int × List Bool):Prop where
 fi:FI arcs x p to d v r.1 r.2.1 r.2.2
 n0:0≤r.1∧r.1≤most
 zero:r.1=0→0<most→r.2.1=x∧r.2.2.getD v false=true∧∀ u,r.2.2.getD u false=true→d.getD u false=false→CLo arcs x p to r.2.2 u
structure FN (N:Nat) (arcs:List Arc) (x:List Int) (p:Nat→Int) (to:Nat) (d:List Bool) (v:Nat) (most:Int) (i:Nat) (g:Int × List Int × List Bool):Prop where
 fi:FI arcs x p to d v g.1 g.2.1 g.2.2
 n0:0≤g.1∧g.1≤most
 nd:g.2.2.getD v false=true
 zero:g.1=0→g.2.1=x∧(∀ u,g.2.2.getD u false=true→d.getD u false=false→u≠v→CLo arcs x p to g.2.2 u) ∧
  ∀ j (hj:j<(outs arcs v arcs.length).length),j<i→0<cR arcs x v (outs arcs v arcs.length)[j]→dL arcs p (wix arcs v (outs arcs v arcs.length)[j])=0→g.2.2.getD (wdst arcs (wix arcs v (outs arcs v arcs.length)[j])) false=true
section
variable {N:Nat} {arcs:List Arc} {x:List Int} {p:Nat→Int} {to:Nat} {d:List Bool} {v:Nat} {most:Int}
theorem FQ.base (hx:XB arcs x) (hm:0≤most) (h:v=to∨most=0):FQ arcs x p to d v most (most,x,d):=by
 refine ⟨⟨hx,rfl,fun w=>?_,fun k _ hk=>absurd rfl hk,fun u hu=>hu,fun k _ _=>rfl⟩,⟨hm,yaf _⟩,fun h1 h2=>absurd h1 (by simp only;omega)⟩
 rcases h with h|h
 ·subst h;simp only;omega
 ·subst h;simp only [Vn];omega
theorem FN.start (hx:XB arcs x) (hm:0≤most) (hv:v<d.length):FN N arcs x p to d v most 0 (0,x,d.set v true):=by
 have hg:∀ u,(d.set v true).getD u false=if u=v then true else d.getD u false:=fun u=>Db hv
 refine ⟨⟨hx,by simp,fun w=>by simp only [Vn];omega,fun k _ hk=>absurd rfl hk,fun u hu=>?_,fun k _ _=>rfl⟩,⟨yaf _,hm⟩,?_,fun _=>⟨rfl,fun u h1 h2 h3=>?_,fun j _ hj=>by omega⟩⟩
 ·show (d.set v true).getD u false=true
  rw [hg];split
  ·rfl
  ·exact hu
 ·show (d.set v true).getD v false=true
  rw [hg,if_pos rfl]
 ·rw [show ((0,x,d.set v true):Int × List Int × List Bool).2.2=d.set v true from rfl,hg,if_neg h3] at h1
  rw [h2] at h1;cases h1
theorem FN.skip {i:Nat} {g:Int × List Int × List Bool} (h:FN N arcs x p to d v most i g) (hi:i<(outs arcs v arcs.length).length)
  (hs:g.1=0→0<cR arcs x v (outs arcs v arcs.length)[i]→dL arcs p (wix arcs v (outs arcs v arcs.length)[i])=0→g.2.2.getD (wdst arcs (wix arcs v (outs arcs v arcs.length)[i])) false=true):FN N arcs x p to d v most (i+1) g:=by
 refine ⟨h.fi,h.n0,h.nd,fun h0=>?_⟩
 obtain ⟨z1,z2,z3⟩:=h.zero h0
 refine ⟨z1,z2,fun j hj hlt hr hc=>?_⟩
 by_cases e:j=i
 ·subst e;exact hs h0 hr hc
 ·exact z3 j hj (by omega) hr hc
theorem Ri {k:Nat}:dL arcs p (2*k+1)=- dL arcs p (2*k):=by
 unfold dL e7 wsrc wdst
 rw [if_neg (by omega),if_neg (by omega),if_neg (by omega),if_pos (by omega),if_pos (by omega),if_pos (by omega),show (2*k+1)/2=k by omega,show 2*k/2=k by omega]
 omega
theorem Om {i:Nat} (h:dL arcs p i=0):dL arcs p (2*(i/2))=0:=by
 by_cases e:i%2=0
 ·rwa [show 2*(i/2)=i by omega]
 ·have:i=2*(i/2)+1:=by omega
  rw [this,Ri] at h
  omega
def dlt (arcs:List Arc) (v k:Nat) (n:Int):Int:=if (gA arcs k).from_=v then n else -n
theorem FN.step (hV:Val N arcs) (hvd:d.getD v false=false) (hm:0<most) {i:Nat} {s:Int} {x1:List Int} {d1:List Bool} (h:FN N arcs x p to d v most i (s,x1,d1)) {k:Nat} (hi:i<(outs arcs v arcs.length).length) (hk:(outs arcs v arcs.length)[i]=k)
  (hd:d1.getD (wdst arcs (wix arcs v k)) false=false) (hc:dL arcs p (wix arcs v k)=0) (hr:0<cR arcs x1 v k) (hne:s≠most) {n:Int} {x2:List Int} {d2:List Bool}
  (hq:FQ arcs x1 p to d1 (wdst arcs (wix arcs v k)) (min (cR arcs x1 v k) (most-s)) (n,x2,d2)) :
  FN N arcs x p to d v most (i+1) (s+n,x2.set k (x2.getD k 0+dlt arcs v k n),d2):=by
 obtain ⟨hj,hend⟩:=xF hi
 rw [hk] at hj hend
 have hsrc:=Dr hV hj hend
 obtain ⟨w1,w2,w3⟩:=xX hV (i:=wix arcs v k) (by rw [fM];exact hj)
 rw [hsrc] at w1 w3
 have hva:=hV.at hj
 have hfi:=h.fi
 have hqi:=hq.fi
 simp only at hfi hqi
 have hn:=hq.n0
 have hs:=h.n0
 simp only at hn hs
 have hmin:=yaT (cR arcs x1 v k) (most-s)
 have hmin2:=yaA (cR arcs x1 v k) (most-s)
 have hkl:k<x2.length:=by rw [hqi.xb.hl];exact hj
 have hge:∀ j w,(x2.set k w).getD j 0=if j=k then w else x2.getD j 0:=fun j w=>gE hkl
 have hnd:d1.getD v false=true:=h.nd
 have hk2:x2.getD k 0=x1.getD k 0:=hqi.kept k hj (by
  rcases hend with e|e
  ·left;rw [e];exact hnd
  ·right;rw [e];exact hnd)
 have hends:(gA arcs k).from_=v∧(gA arcs k).to.toNat=wdst arcs (wix arcs v k)∨((gA arcs k).from_≠v∧(gA arcs k).to=v∧(gA arcs k).from_.toNat=wdst arcs (wix arcs v k)):=by
  unfold wdst
  rw [fM]
  unfold wix
  by_cases e:(gA arcs k).from_=v
  ·left;rw [if_pos e,if_pos (by omega)];exact ⟨e,rfl⟩
  ·right;rw [if_neg e,if_neg (by omega)]
   refine ⟨e,?_,rfl⟩
   rcases hend with e2|e2
   ·exact absurd e2 e
   ·exact e2
 have hx1k:=hfi.xb.hb k hj
 have hroom:cR arcs x1 v k=if (gA arcs k).from_=v then (gA arcs k).cap-x1.getD k 0 else x1.getD k 0:=rfl
 generalize hu:wdst arcs (wix arcs v k)=u at *
 refine ⟨⟨⟨by rw [yaz];exact hqi.xb.hl,fun j hj2=>?_⟩,hqi.dl.trans hfi.dl,fun w=>?_,fun j hj2 hne2=>?_,fun w hw=>hqi.mono w (hfi.mono w hw),fun j hj2 hdd=>?_⟩,⟨by simp only;omega,by simp only;omega⟩,hqi.mono v hnd,fun h0=>?_⟩
 ·show 0≤(x2.set k _).getD j 0∧_
  simp only
  rw [hge]
  split
  ·rename_i e
   subst e
   rw [hk2]
   unfold dlt
   split
   ·rename_i e;rw [if_pos e] at hroom;omega
   ·rename_i e;rw [if_neg e] at hroom;omega
  ·exact hqi.xb.hb j hj2
 ·have e1:=hqi.val w
  have e2:=hfi.val w
  simp only at e1 e2 ⊢
  rw [Cg w hkl,if_pos hj,e1,e2,Dv,Dv]
  have:x2.getD k 0+dlt arcs v k n-x2.getD k 0=dlt arcs v k n:=by omega
  rw [this]
  unfold dlt vd
  rcases hends with ⟨q1,q2⟩|⟨q1,q2,q3⟩
  ·rw [if_pos q1,q1]
   have t1:((v:Int)=w)↔w=v:=by omega
   have t2:((gA arcs k).to=w)↔w=u:=by omega
   simp only [t1,t2]
   split<;>split<;>split<;>omega
  ·rw [if_neg q1,q2]
   have t1:((v:Int)=w)↔w=v:=by omega
   have t2:((gA arcs k).from_=w)↔w=u:=by omega
   simp only [t1,t2]
   split<;>split<;>split<;>omega
 ·simp only at hne2
  rw [hge] at hne2
  by_cases e:j=k
  ·subst e
   have:=Om hc
   rwa [fM] at this
  ·rw [if_neg e] at hne2
   by_cases e2:x2.getD j 0=x1.getD j 0
   ·exact hfi.tig j hj2 (by rw [←e2];exact hne2)
   ·exact hqi.tig j hj2 e2
 ·simp only
  rw [hge]
  by_cases e:j=k
  ·subst e
   exfalso
   have a1:d.getD u false=true→False:=fun h1=>by rw [hfi.mono u h1] at hd;cases hd
   rcases hends with ⟨q1,q2⟩|⟨q1,q2,q3⟩
   ·rw [q1,q2,yaa,hvd] at hdd
    rcases hdd with h1|h1
    ·cases h1
    ·exact a1 h1
   ·rw [q2,q3,yaa,hvd] at hdd
    rcases hdd with h1|h1
    ·exact a1 h1
    ·cases h1
  ·rw [if_neg e]
   rw [←hfi.kept j hj2 hdd]
   exact hqi.kept j hj2 (hdd.imp (hfi.mono _) (hfi.mono _))
 ·simp only at h0
  have s0:s=0:=by omega
  have n0:n=0:=by omega
  obtain ⟨z1,z2,z3⟩:=h.zero s0
  obtain ⟨y1,y2,y3⟩:=hq.zero n0 (by
   rw [s0] at hne ⊢
   exact Int.lt_min.2 ⟨hr,by omega⟩)
  simp only at z1 z2 z3 y1 y2 y3 ⊢
  have ex:x2.set k (x2.getD k 0+dlt arcs v k n)=x:=by
   have:dlt arcs v k n=0:=by unfold dlt;rw [n0];split<;>rfl
   rw [this,Int.add_zero,y1,z1]
   rw [yag,yah (by rw [←z1,←y1];exact hkl),Option.getD_some,List.set_getElem_self]
  refine ⟨ex,fun w h1 h2 h3=>?_,fun j hj2 hlt hro hcz=>?_⟩
  ·by_cases e:d1.getD w false=true
   ·exact (z2 w e h2 h3).mono hqi.mono
   ·rw [Bool.not_eq_true] at e
    have:=y3 w h1 e
    rwa [z1] at this
  ·by_cases e:j=i
   ·subst e
    rw [hk,hu]
    exact y2
   ·exact hqi.mono _ (z3 j hj2 (by omega) hro hcz)
theorem FN.done (hV:Val N arcs) (hv:v<d.length) (hvt:v≠to) (hvd:d.getD v false=false) (hm:0<most) {i:Nat} {g:Int × List Int × List Bool} (h:FN N arcs x p to d v most i g) (hi:i=(outs arcs v arcs.length).length∨g.1=most) :
  FQ arcs x p to d v most (g.1,g.2.1,g.2.2.set v (decide (g.1<most))):=by
 obtain ⟨s,x1,d1⟩:=g
 have hfi:=h.fi
 have hn:=h.n0
 simp only at hfi hn hi ⊢
 have hl:v<d1.length:=by rw [hfi.dl];exact hv
 have hg:∀ u b,(d1.set v b).getD u false=if u=v then b else d1.getD u false:=fun u b=>Db hl
 refine ⟨⟨hfi.xb,by rw [yaz];exact hfi.dl,hfi.val,hfi.tig,fun u hu=>?_,hfi.kept⟩,hn,fun h0 hmm=>?_⟩
 ·show (d1.set v _).getD u false=true
  rw [hg]
  by_cases e:u=v
  ·subst e;rw [hvd] at hu;cases hu
  ·rw [if_neg e];exact hfi.mono u hu
 ·simp only at h0
  obtain ⟨z1,z2,z3⟩:=h.zero h0
  simp only at z1 z2 z3 ⊢
  have hnd:d1.getD v false=true:=h.nd
  have hd:decide (s<most)=true:=decide_eq_true (by omega)
  have hsub:∀ u,d1.getD u false=true→(d1.set v (decide (s<most))).getD u false=true:=fun u hu=>by
   rw [hg];split
   ·exact hd
   ·exact hu
  refine ⟨z1,by rw [hg,if_pos rfl];exact hd,fun u h1 h2=>?_⟩
  by_cases e:u=v
  ·subst e
   refine ⟨hvt,fun w hw hsrc hc=>hsub _ ?_⟩
   obtain ⟨q1,q2⟩:=Ll hV hw.1 hsrc
   obtain ⟨j,hj,hje⟩:=yan q1
   have:=z3 j hj (by omega) (by rw [hje,←xW,q2];exact hw.2) (by rw [hje,q2];exact hc)
   rwa [hje,q2] at this
  ·rw [hg,if_neg e] at h1
   exact (z2 u h1 h2 e).mono hsub
theorem Ub:∀ {a b:List Bool},a.length=b.length→(∀ u,a.getD u false=true→b.getD u false=true)→b.count false≤a.count false
 | [],b,hl,_=>by cases b<;>simp_all
 | x::a,[],hl,_=>by simp at hl
 | x::a,y::b,hl,h=>by
  have h0:=h 0
  have:=Ub (a:=a) (b:=b) (by simpa using hl) fun u hu=>by have:=h (u+1);simpa using this (by simpa using hu)
  simp only [yaU]
  cases x<;>cases y<;>simp at*<;> omega
theorem cnt_lt:∀ {a b:List Bool} {v:Nat},a.length=b.length→(∀ u,a.getD u false=true→b.getD u false=true)→v<a.length→a.getD v false=false→b.getD v false=true→b.count false<a.count false
 | [],b,v,hl,_,hv,_,_=>by simp at hv
 | x::a,[],v,hl,_,_,_,_=>by simp at hl
 | x::a,y::b,0,hl,h,hv,h1,h2=>by
  have:=Ub (a:=a) (b:=b) (by simpa using hl) fun u hu=>by have:=h (u+1);simpa using this (by simpa using hu)
  simp only [yaU]
  simp at h1 h2
  subst h1 h2
  simp;omega
 | x::a,y::b,v+1,hl,h,hv,h1,h2=>by
  have h0:=h 0
  have:=cnt_lt (a:=a) (b:=b) (v:=v) (by simpa using hl) (fun u hu=>by have:=h (u+1);simpa using this (by simpa using hu)) (by simpa using hv) (by simpa using h1) (by simpa using h2)
  simp only [yaU]
  cases x<;>cases y<;>simp at*<;> omega
end
end Go.Fx.P.K
namespace Go.Fx.P.K
open Go Go.Fx Go.Fx.E Go.Proofs
set_option maxRecDepth 20000
abbrev G28:Type:=Nat × List Int × List Int × List Int
def hpD (N:Nat) (arcs:List Arc) (x p:List Int) (g:G28):List Blk :=
 [wB N x.length arcs 1 2 3,.arr 1 (x.map encI),.arv 1 (iP arcs N),.arr 1 (p.map encI),.var [.ptr 0 0 0],.dead,.var [.sl 7 0 N],.arr 1 (g.2.2.2.map encI),.var [.sl 10 0 g.1,.sl 11 0 g.1],.var [.ptr 8 0 0],.arr 1 (g.2.1.map encI),.arr 1 (g.2.2.1.map encI)]
def Kq:Env:=[(8,.ptr 13 0 0),(7,.ptr 12 0 0),(6,.ptr 9 0 0),(5,.ptr 6 0 0),(2,.ptr 4 0 0)]
def hpI (N:Nat) (arcs:List Arc) (x p:List Int) (key:Int) (v:Nat) (g:G28):List Blk :=
 hpD N arcs x p g++[.var [.i key],.var [.i v],.var [.ptr 0 0 0],.var [.i v],.rcd .ready Kq]
section
variable {N:Nat} {arcs:List Arc} {x p:List Int} {s:Nat} {hs:s<N}
structure Inn (G:Lb.Gr) (N:Nat) (arcs:List Arc) (x:List Int) (key:Int) (v M0:Nat) (i:Nat) (g:G28):Prop where
 di:DI N G g.1 g.2.1 g.2.2.1 g.2.2.2
 kv:g.2.2.2.getD v 0=key
 kf:key<far
 pe:vE N G g.1 g.2.1 g.2.2.1 g.2.2.2 fun u=>u≠v
 cl:∀ j (hj:j<(outs arcs v arcs.length).length),j<i→0<cR arcs x v (outs arcs v arcs.length)[j]→g.2.2.2.getD (G.dst (wix arcs v (outs arcs v arcs.length)[j])) 0≤key+G.c (wix arcs v (outs arcs v arcs.length)[j])
 ms:meas N g.1 g.2.2.2<M0
theorem afZ (hW:WOk N arcs x p) {key:Int} {v:Nat} (hv:v<N) (hx:∀ j,0≤x.getD j 0∧x.getD j 0≤1073741824):ItH (hpI N arcs x p key v) (fun _=>x) 17 N v arcs 16 14 15 0 1 2 3 [16,0,1,2,3]:=by
 have hxl:=hW.hx
 refine ⟨hW.hV,hv,fun g=>rfl,fun g tl=>rfl,fun g tl=>rfl,fun g tl=>by rw [←hxl];rfl,fun g tl=>rfl,fun g tl=>rfl,fun g=>⟨trivial,trivial,trivial,trivial,trivial,trivial⟩,fun g=>?_,fun g=>⟨_,_,rfl⟩,fun g=>⟨hxl,hx⟩⟩
 unfold hpI hpD wB Kq
 simp -implicitDefEqProofs only [rX,aB,wfE,wfB,wfV,wfL,bY]
theorem Nw {v k a b i:Nat} {e:Env} {M:List Nat} (h1:k∉M) (h2:a∉M) (h3:b∉M) (h:EI arcs v k a b i e):EI arcs v k a b i (bP M e):=by
 refine ⟨?_,?_,?_,?_,?_,?_,?_⟩<;>rw [eS]
 ·rw [h.e0];simp [kill,h1]
 ·rw [h.e1];simp [kill,h2]
 ·rw [h.e2];simp [kill,h3]
 ·rw [h.e14];rfl
 ·rw [h.e15];rfl
 ·rw [h.e16];rfl
 ·rw [h.e65];rfl
theorem adK (hW:WOk N arcs x p) (hn:NN arcs x fun u=>p.getD u 0) {key:Int} {v M0 i:Nat} {g:G28} (hv:v<N) (hi:i<(outs arcs v arcs.length).length) (hI:Inn (grD N arcs x (fun u=>p.getD u 0) s hW.hV hs hn) N arcs x key v M0 i g)
  (hr:0<cR arcs x v (outs arcs v arcs.length)[i]) {e:Env} {bb:Nat} {Z:V→St→Prop} (he:EI arcs v 16 14 15 i e)
  (hT:∀ e' g' tl,EI arcs v 16 14 15 i e'→Inn (grD N arcs x (fun u=>p.getD u 0) s hW.hV hs hn) N arcs x key v M0 (i+1) g'→Z (.b true) ⟨e',hpI N arcs x p key v g'++tl,bb⟩) :
  yR (cxN Tryz.prog [0,1,2,3]) [46] c90a0 c90r0 16 [lO arcs x v (outs arcs v arcs.length)[i]] ⟨e,hpI N arcs x p key v g++[.var (gA arcs (outs arcs v arcs.length)[i]).enc,.var (v8 arcs x v (outs arcs v arcs.length)[i])],bb⟩ Z:=by
 have hVV:=hW.hV
 obtain ⟨hj,hend⟩:=xF hi
 generalize hk:(outs arcs v arcs.length)[i]=k at *
 have hsrc:=Dr hVV hj hend
 have hroom:wrm arcs x (wix arcs v k)=cR arcs x v k:=xW
 have hres:sF arcs x (wix arcs v k):=⟨by rw [fM];exact hj,by rw [hroom];exact hr⟩
 obtain ⟨w1,w2,w3⟩:=xX hVV hres.1
 have hcb:=t6 hVV hres.1
 have hway:lO arcs x v k=.agg [.i k,.i (wdst arcs (wix arcs v k):Nat),.i (cR arcs x v k),.i (e7 arcs (wix arcs v k)),.b (decide (¬(gA arcs k).from_=v))]:=by
  have:=hVV.at hj
  unfold lO cR wdst e7
  rw [fM]
  unfold wix
  by_cases h:(gA arcs k).from_=v
  ·simp only [if_pos h]
   rw [if_pos (by omega),if_pos (by omega),show (((gA arcs k).to.toNat:Nat):Int)=(gA arcs k).to by omega,show decide (¬(gA arcs k).from_=v)=false from decide_eq_false (by simpa using h)]
  ·simp only [if_neg h]
   rw [if_neg (by omega),if_neg (by omega),show (((gA arcs k).from_.toNat:Nat):Int)=(gA arcs k).from_ by omega,show decide (¬(gA arcs k).from_=v)=true from decide_eq_true h]
 have hwc:cells? (lO arcs x v k)=some (v8 arcs x v k):=by unfold lO v8;split<;>rfl
 have hwc2:v8 arcs x v k=[.i k,.i (wdst arcs (wix arcs v k):Nat),.i (cR arcs x v k),.i (e7 arcs (wix arcs v k)),.b (decide (¬(gA arcs k).from_=v))]:=by
  rw [hway] at hwc
  simpa [cells?] using hwc.symm
 obtain ⟨n,ks,vs,D⟩:=g
 rw [hway,hwc2]
 generalize decide (¬(gA arcs k).from_=v)=bk at *
 generalize cR arcs x v k=rm at *
 have hKill:∀ M,bU M (gA arcs k).enc=(gA arcs k).enc:=fun M=>rfl
 generalize (gA arcs k).enc=encA at *
 have hcall:=Yn N arcs x p v (wdst arcs (wix arcs v k):Nat) (e7 arcs (wix arcs v k)) (.i k) (.i rm) (.b bk) hW (by omega) (by omega) hcb
 have hrc:e7 arcs (wix arcs v k)+p.getD (v:Int).toNat 0-p.getD ((wdst arcs (wix arcs v k):Nat):Int).toNat 0=dL arcs (fun u=>p.getD u 0) (wix arcs v k):=by
  unfold dL
  rw [hsrc,yaa,yaa]
 rw [hrc] at hcall
 have hc0:=hn _ hres
 have hp1:=hW.hb v
 have hp2:=hW.hb (wdst arcs (wix arcs v k))
 have hcB:dL arcs (fun u=>p.getD u 0) (wix arcs v k)≤1074790400:=by
  unfold dL
  rw [hsrc]
  show e7 arcs (wix arcs v k)+p.getD v 0-p.getD (wdst arcs (wix arcs v k)) 0≤_
  omega
 have hDl:D.length=N:=hI.di.len
 have hkey:=hI.di.nn hW.hN (fun j=>hW.hb j) hv
 have hkv:D.getD v 0=key:=hI.kv
 rw [show ((n,ks,vs,D):G28).2.2.2=D from rfl,hkv] at hkey
 have hkf:=hI.kf
 have hkB:key≤KB:=by
  rcases hkey.2 with e|e
  ·omega
  ·exact e
 refine Lj 19 rfl rfl rfl ?_
 unfold hpI hpD wB Kq c90a0
 simp -implicitDefEqProofs only [rX,↓rY,rZ,↓rW,aA,cells?,splice,↓reduceIte,Nat.reduceEqDiff,Nat.reduceAdd,aC,isC,cxN,mE]
 unfold c90r0
 simp -implicitDefEqProofs only [rX,↓rY,rdK,↓reduceIte,Nat.reduceEqDiff,Nat.reduceAdd]
 generalize hcc:dL arcs (fun u=>p.getD u 0) (wix arcs v k)=c at *
 generalize hto:wdst arcs (wix arcs v k)=to at *
 refine dA [0,1,2,3] [.ptr 0 0 0,.i v,.agg [.i k,.i (to:Nat),.i rm,.i (e7 arcs (wix arcs v k)),.b bk]] (.i c) (.i c) (wH N arcs x p) (wH N arcs x p) _ hcall (by simp) (by simp [wH,wB,blk,bX,cO,ren,pos,cJ]) (by simp [aF,aK,aU,bG,wkL,wk,pos]) (by simp [wH]) rfl rfl (by simp [aE,aB,wH,wB,bO,bX]) ?_
 simp -implicitDefEqProofs only [rX,↓rY,rZ,↓rW,cells?,splice,↓reduceIte,Nat.reduceEqDiff,cS,Nat.reduceAdd,isD,isC,yac,cM,yaa,fJ,wH,wB,bO,bX,cO,ren,cJ,back]
 have hDt:D.getD to 0=D[to]'(by omega):=cC (by omega)
 have hKBv:KB=67711795200:=rfl
 have hEI:=he
 have hcl:∀ (D':List Int),D'.getD v 0=key→(∀ u,D'.getD u 0≤D.getD u 0)→D'.getD to 0≤key+c →
   ∀ j (hj:j<(outs arcs v arcs.length).length),j<i+1→0<cR arcs x v (outs arcs v arcs.length)[j]→D'.getD ((grD N arcs x (fun u=>p.getD u 0) s hW.hV hs hn).dst (wix arcs v (outs arcs v arcs.length)[j])) 0≤key+(grD N arcs x (fun u=>p.getD u 0) s hW.hV hs hn).c (wix arcs v (outs arcs v arcs.length)[j]):=by
  intro D' e1 e2 e3 j hj2 hlt hro
  by_cases e:j=i
  ·subst e
   show D'.getD (wdst arcs (wix arcs v (outs arcs v arcs.length)[j])) 0≤key+dL arcs (fun u=>p.getD u 0) (wix arcs v (outs arcs v arcs.length)[j])
   rw [hk,hto,hcc]
   exact e3
  ·exact yaE (e2 _) (hI.cl j hj2 (by omega) hro)
 refine ⟨by simp only [lo,Fx.hi];omega,⟨by omega,by omega⟩,by omega,?_⟩
 simp only [br,decide_eq_true_eq,decide_eq_false_iff_not]
 refine ⟨fun hlt=>⟨⟨by omega,by omega⟩,by omega,?_⟩,fun hge=>?_⟩
 ·have hnle:=hI.di.n_le hW.hN (fun j=>hW.hb j)
  simp only at hnle
  refine fD (oM n ks vs (key+c) (to:Nat)) [8,10,11] [1,2] [10,11] [.ptr 0 0 0,.i (key+c),.i to] (fun _=>.tup []) (hpB n ks vs) (fun g=>hpB (n+1) g.1 g.2) (afB n ks vs (key+c) to hI.di.h1 hI.di.h2 (by omega)) (by simp) (by simp) (by simp [hpB,blk,bX,cO,ren,pos]) (by simp [aF,aK,aU,bG,wkL,wk,pos]) fun g hg=>⟨by simp [aE,aB,hpB,bO,bX,bF],?_⟩
  obtain ⟨ks2,vs2⟩:=g
  have hpush:=hI.di.push (i:=wix arcs v k) (ks':=ks2) (vs':=vs2) hW.hN (fun j=>hW.hb j) hres
  have hpe:=hI.pe.push (t:=to) (nv:=key+c) (by rw [hI.di.len];exact w2) (by show key+c<D.getD to 0;rw [hDt];exact hlt) hg
  simp only [hsrc,hto,hcc,hkv,hDt] at hpush
  obtain ⟨hd1,hd2⟩:=hpush hkf hlt hg
  simp -implicitDefEqProofs only [rX,rZ,↓rW,↓reduceIte,Nat.reduceEqDiff,Nat.reduceAdd,reduceCtorEq,bP,bF,kill,bU,St.kill,hpB,bO,bX,cO,ren,back,fX,mX,hKill]
  have hge:∀ u,(D.set to (key+c)).getD u 0=if u=to then key+c else D.getD u 0:=fun u=>gE (by omega)
  have hvt:¬v=to:=by rw [←hsrc];exact w3
  refine hT (bP [10,11] e) (n+1,ks2,vs2,D.set to (key+c)) [.var encA,.var [.i k,.i to,.i rm,.i (e7 arcs (wix arcs v k)),.b bk],.dead,.var [.i k,.i to,.i rm,.i (e7 arcs (wix arcs v k)),.b bk]] (Nw (by simp) (by simp) (by simp) he) ⟨hd1,?_,hkf,hpe,hcl _ ?_ ?_ ?_,Nat.lt_trans hd2 hI.ms⟩
  ·show (D.set to (key+c)).getD v 0=key
   rw [hge,if_neg hvt];exact hkv
  ·show (D.set to (key+c)).getD v 0=key
   rw [hge,if_neg hvt];exact hkv
  ·intro u
   show (D.set to (key+c)).getD u 0≤D.getD u 0
   rw [hge]
   split
   ·rename_i e;rw [e,hDt];omega
   ·exact yaf _
  ·show (D.set to (key+c)).getD to 0≤key+c
   rw [hge,if_pos rfl];exact yaf _
 ·exact hT e (n,ks,vs,D) [.var encA,.var [.i k,.i to,.i rm,.i (e7 arcs (wix arcs v k)),.b bk],.dead,.var [.i k,.i to,.i rm,.i (e7 arcs (wix arcs v k)),.b bk]] he ⟨hI.di,hkv,hkf,hI.pe,hcl D hkv (fun u=>yaf _) (by rw [hDt];omega),hI.ms⟩
end
end Go.Fx.P.K
namespace Go.Fx.P.K
open Go Go.Fx Go.Fx.E Go.Proofs
set_option maxRecDepth 20000
section
variable {N:Nat} {arcs:List Arc} {x p:List Int} {s:Nat} {hs:s<N}
abbrev Ha (N:Nat) (arcs:List Arc) (x p:List Int) (g:G28):St:=⟨[(6,.ptr 9 0 0),(5,.ptr 6 0 0),(2,.ptr 4 0 0)],hpD N arcs x p g,0⟩
structure Ur (G:Lb.Gr) (N:Nat) (g:G28):Prop where
 di:DI N G g.1 g.2.1 g.2.2.1 g.2.2.2
 pe:vE N G g.1 g.2.1 g.2.2.1 g.2.2.2 fun _=>True
theorem acC (hW:WOk N arcs x p) (hn:NN arcs x fun u=>p.getD u 0) (hx:∀ j,0≤x.getD j 0∧x.getD j 0≤1073741824) {RR:St→Prop} {X:Nat→St→Prop}
  (hX:∀ D ks vs,Bq N (grD N arcs x (fun u=>p.getD u 0) s hW.hV hs hn) D→∀ e b,get e 5=.ptr 6 0 0→X 0 ⟨e,hpD N arcs x p (0,ks,vs,D),b⟩) (g:G28) (hg:Ur (grD N arcs x (fun u=>p.getD u 0) s hW.hV hs hn) N g) :
  aw (cxN Tryz.prog [0,1,2,3]) c90l0 (fun s'=>∃ g':G28,(Ur (grD N arcs x (fun u=>p.getD u 0) s hW.hV hs hn) N g'∧meas N g'.1 g'.2.2.2<meas N g.1 g.2.2.2)∧leS [0,1,2,3] s' (Ha N arcs x p g')) X RR (Ha N arcs x p g):=by
 obtain ⟨n,ks,vs,D⟩:=g
 obtain ⟨hD,hP⟩:=hg
 simp only at hD hP
 have hnle:=hD.n_le hW.hN (fun j=>hW.hb j)
 have hDl:D.length=N:=hD.len
 unfold c90l0 Ha hpD wB
 rcases Nat.eq_zero_or_pos n with h0|h0
 ·subst h0
  have hfin:=hD.fin hP
  have:=hX D ks vs hfin
  unfold hpD wB at this
  simp -implicitDefEqProofs only [rX,↓rY,aA,↓reduceIte,Nat.reduceEqDiff,Nat.reduceAdd,cxN]
  intro _
  have hd:decide ((0:Int)<((0:Nat):Int))=false:=by decide
  simp -implicitDefEqProofs only [↓rY,hd]
  exact this _ _ rfl
 have hd:decide ((0:Int)<(n:Int))=true:=decide_eq_true (by omega)
 simp -implicitDefEqProofs only [rX,↓rY,aA,↓reduceIte,Nat.reduceEqDiff,Nat.reduceAdd,cxN,hd]
 intro _
 refine fD (Xq n ks vs) [8,10,11] [] [] [.ptr 0 0 0] (fun g=>.tup [.i g.1.1,.i g.1.2]) (hpB n ks vs) (fun g=>hpB (n-1) g.2.1 g.2.2) (afA n ks vs h0 hD.h1 hD.h2 (by omega)) (by simp) (by simp) (by simp [hpB,blk,bX,cO,ren,pos]) (by simp [aF,aK,aU,bG,wkL,wk,pos]) fun g hg=>⟨by simp [aE,aB,hpB,bO,bX,bF],?_⟩
 obtain ⟨⟨key,v0⟩,ks2,vs2⟩:=g
 have hent:=hD.ent _ _ hg.hin
 simp only at hent
 obtain ⟨v,rfl⟩:∃ v:Nat,v0=v:=⟨v0.toNat,by omega⟩
 rw [yaa] at hent
 have hvN:v<N:=by omega
 obtain ⟨hD2,hM2⟩:=hD.pop h0 hg
 have hP2:=hP.pop hg
 simp only at hD2 hM2 hP2
 have hDv:D.getD v 0=D[v]'(by omega):=cC (by omega)
 simp -implicitDefEqProofs only [rX,↓rY,aA,cells?,splice,↓reduceIte,Nat.reduceEqDiff,cS,Nat.reduceAdd,aC,leE,leH,leB,leV,bD,aE,aB,wfE,wfB,wfV,wfL,bP,bF,kill,bU,St.kill,isC,yac,cM,yaa,hpB,bO,bX,cO,ren,back,fX]
 refine ⟨⟨by omega,by omega⟩,by omega,?_⟩
 simp only [br,decide_eq_true_eq,decide_eq_false_iff_not]
 refine ⟨fun hgt=>?_,fun hle=>?_⟩
 ·refine ⟨(n-1,ks2,vs2,D),⟨⟨hD2,fun u hu hQ hf=>hP2 u hu ?_ hf⟩,hM2⟩,?_⟩
  ·rintro ⟨e1,e2⟩
   have:u=v:=by omega
   subst this
   omega
  ·exact ⟨⟨rfl,⟨rfl,rfl⟩,rfl,rfl⟩,xG⟩
 have hkey:D.getD v 0=key:=by omega
 refine dA [0,1,2,3] [.ptr 0 0 0,.i v] (.clo 146 [.ptr 4 0 0,.ptr 5 0 0]) (.clo 146 [.ptr 14 0 0,.ptr 15 0 0]) (wH N arcs x p) (wH N arcs x p++[Blk.var [V.ptr 0 0 0],Blk.var [V.i v]]) (hpD N arcs x p (n-1,ks2,vs2,D)++[Blk.var [V.i key],Blk.var [V.i v],Blk.var [V.ptr 0 0 0],Blk.var [V.i v]]) (Yo N arcs x p v) (by simp) (by simp [wH,wB,blk,bX,cO,ren,pos,cJ]) (by simp [aF,aK,aU,bG,wkL,wk,pos]) (by simp [wH]) (by simp [hpD,wH,wB,bO,bX,cO,ren,cJ,back]) (by simp [ren,cO,back]) (by simp [aE,aB,hpD,wB]) ?_
 unfold hpD wB
 simp -implicitDefEqProofs only [rX]
 refine Ee 16 rfl rfl trivial ?_
 have hkf:key<far:=by
  have:KB<far:=by decide
  omega
 have hI0:Inn (grD N arcs x (fun u=>p.getD u 0) s hW.hV hs hn) N arcs x key v (meas N n D) 0 (n-1,ks2,vs2,D):=by
  refine ⟨hD2,hkey,hkf,fun u hu hQ hf=>hP2 u hu ?_ hf,fun j hj h=>by omega,hM2⟩
  rintro ⟨e1,e2⟩
  omega
 refine Uu (h':=hpI N arcs x p key v (n-1,ks2,vs2,D)) ?_ ?_ ?_ ?_ (Za (Inv:=Inn (grD N arcs x (fun u=>p.getD u 0) s hW.hV hs hn) N arcs x key v (meas N n D)) (afZ hW hvN hx) ?_ ?_ ?_ _ hI0)
 ·unfold hpI hpD wB Kq
  simp -implicitDefEqProofs only [rX,↓reduceIte,Nat.reduceEqDiff,leE,leH,leB,leV,bD,or_true]
 ·simp [aE,aB,hpI,hpD,wB]
 ·unfold hpI hpD wB Kq
  simp -implicitDefEqProofs only [rX,aB,wfE,wfB,wfV,wfL,bY]
 ·unfold hpI hpD wB Kq
  simp -implicitDefEqProofs only [rX,aB,wfV,wfL]
 ·rintro i g hi ⟨g1,g2,g3,g4,g5,g6⟩ hr
  refine ⟨g1,g2,g3,g4,fun j hj hlt hro=>?_,g6⟩
  by_cases e:j=i
  ·subst e
   exact absurd hro (by omega)
  ·exact g5 j hj (by omega) hro
 ·intro i g hi hI hr e bb Z he hT hF
  exact adK hW hn hvN hi hI hr he hT
 ·rintro ⟨n3,ks3,vs3,D3⟩ ⟨g1,g2,g3,g4,g5,g6⟩
  simp only at g1 g2 g3 g4 g5 g6
  have hcl:clN (grD N arcs x (fun u=>p.getD u 0) s hW.hV hs hn) D3 v:=by
   intro i hi hsrc
   obtain ⟨q1,q2⟩:=Ll hW.hV hi.1 hsrc
   obtain ⟨j,hj,hje⟩:=yan q1
   have hres:sF arcs x i:=hi
   have:=g5 j hj hj (by rw [hje,←xW,q2];exact hres.2)
   rw [hje,q2] at this
   rw [g2]
   exact this
  unfold hpI hpD wB Kq
  simp -implicitDefEqProofs only [rX,rZ,↓rW,↓reduceIte,Nat.reduceEqDiff,leE,leH,leB,leV,bD,aE,aB,wfE,wfB,wfV,wfL,bY]
  refine ⟨(n3,ks3,vs3,D3),⟨⟨g1,g4.done hcl⟩,g6⟩,?_⟩
  exact ⟨rfl,⟨rfl,rfl⟩,rfl,rfl⟩
theorem Gs {N:Nat} {x:Int}:yab N (encI x)=(yab N x).map encI:=by simp
theorem aaX (key val:Int):OkN Tryz.prog 123 [.ptr 0 0 0,.i key,.i val] [.var [.nil,.nil]] [] (IsQ (oM 0 [] [] key val) (fun _=>.tup []) (fun g=>hpB 1 g.1 g.2)):=by
 refine Wg pol [0] lw123 (by simp) ⟨trivial,trivial⟩ (by simp) (s0:=⟨aN 0 [.ptr 0 0 0,.i key,.i val],hpB 0 [] [],0⟩) ?_ ?_
 ·refine ⟨_,.virt 2 1 (by decide) (.nilB 0 [.nil,.nil] [.sl 1 0 0,.sl 2 0 0] rfl ⟨rfl,fun i a b h1 h2=>?_⟩ (.refl _)),?_⟩
  ·match i with
   | 0=>simp at h1 h2;subst h1 h2;exact .inr ⟨rfl,_,rfl⟩
   | 1=>simp at h1 h2;subst h1 h2;exact .inr ⟨rfl,_,rfl⟩
   | i+2=>simp at h1
  ·unfold hpB
   simp -implicitDefEqProofs only [rX,↓reduceIte,Nat.reduceEqDiff,Nat.reduceAdd,reduceCtorEq,leE,leH,leB,leV,bD,aE,aB,wfE,wfB,wfV,wfL,aN]
 ·refine Ua 0 [] [] key val (by simp) (by simp) (by omega) fun g hg e b=>?_
  refine dV g hg ?_
  unfold hpB
  simp -implicitDefEqProofs only [rX,Nat.reduceAdd,aQ,aT,leH,leB,leV,bD,aE,aB,wfB,wfV,wfL,Nat.reduceLeDiff]
theorem ajI (hW:WOk N arcs x p) (hn:NN arcs x fun u=>p.getD u 0) (hx:∀ j,0≤x.getD j 0∧x.getD j 0≤1073741824) :
  OkN Tryz.prog 90 [.ptr 0 0 0,.i s] (wH N arcs x p) [] (IsQ (Bq N (grD N arcs x (fun u=>p.getD u 0) s hW.hV hs hn)) (fun _=>.sl 7 0 N) (fun D=>wH N arcs x p++[.dead,.dead,.dead,.arr 1 (D.map encI)])):=by
 refine eV pol [0,1,2,3] lw90 (by simp) ⟨trivial,trivial,trivial,trivial,trivial⟩ (by simp [wH];omega) ?_
 have hN:=hW.hV.hn
 unfold c90 wH wB
 simp -implicitDefEqProofs only [rX,↓rY,aA,cells?,↓reduceIte,Nat.reduceEqDiff,Nat.reduceAdd,aC,bZ,isD,Nat.reduceLT,cxN,aN]
 refine dG [.bro 1 [encI far],.i N] (.sl 0 0 N) (.sl 7 0 N) [.arr 1 (yab N (encI far))] [.arr 1 (yab N (encI far))] (afC N far (by omega) (by omega)) (by simp [aF,aK,aU,bG,wkL,wk,wkB,blk,far,encI]) rfl rfl (by simp [aE,aB]) ?_
 rw [Gs]
 simp -implicitDefEqProofs only [rX,↓rY,aA,cells?,splice,↓reduceIte,Nat.reduceEqDiff,cS,Nat.reduceAdd,reduceCtorEq,aC,bJ,isD,isC,yac,yaa,fJ,mX]
 refine ⟨⟨by omega,by omega⟩,by omega,?_⟩
 refine fD (oM 0 [] [] 0 (s:Nat)) [8] [] [] [.ptr 0 0 0,.i 0,.i s] (fun _=>.tup []) [Blk.var [.nil,.nil]] (fun g=>hpB 1 g.1 g.2) (aaX 0 s) (by simp) (by simp) (by simp [blk,bX,cO,ren,pos]) (by simp [aF,aK,aU,bG,wkL,wk,pos]) fun g hg=>⟨by simp [aE,aB,hpB,bO,bX,bF],?_⟩
 obtain ⟨ks,vs⟩:=g
 obtain ⟨h1,h2⟩:=DI.start (N:=N) (arcs:=arcs) (x:=x) (p:=fun u=>p.getD u 0) (s:=s) (hV:=hW.hV) (hs:=hs) (hn:=hn) hg
 simp -implicitDefEqProofs only [rX,↓reduceIte,Nat.reduceAdd,bP,bF,kill,bU,St.kill,hpB,bO,bX,cO,ren,back,fX]
 refine bA (Ha N arcs x p) (Ur (grD N arcs x (fun u=>p.getD u 0) s hW.hV hs hn) N) (fun g=>meas N g.1 g.2.2.2) (1,ks,vs,(yab N far).set s 0) ⟨h1,h2⟩ ?_ (acC hW hn hx fun D ks vs hQ e b he=>?_)
 ·unfold Ha hpD wB
  simp -implicitDefEqProofs only [rX,↓reduceIte,Nat.reduceEqDiff,leE,leH,leB,leV,bD,aE,aB,wfE,wfB,wfV,wfL,bY]
  exact ⟨rfl,rfl⟩
 ·unfold hpD wB
  simp -implicitDefEqProofs only [rX,↓rY,↓reduceIte,Nat.reduceAdd,he]
  refine dV D hQ ?_
  simp -implicitDefEqProofs only [rX,↓reduceIte,Nat.reduceAdd,aQ,aT,leH,leB,leV,bD,aE,aB,wfB,wfV,wfL,Nat.reduceLeDiff,bY]
end
end Go.Fx.P.K
namespace Go.Fx.P.K
open Go Go.Fx Go.Fx.E Go.Proofs
set_option maxRecDepth 20000
def h44 (N:Nat) (arcs:List Arc) (p:List Int) (to:Nat) (x:List Int) (d:List Bool):List Blk :=
 [wB N arcs.length arcs 1 2 3,.arr 1 (x.map encI),.arv 1 (iP arcs N),.arr 1 (p.map encI),.var [.ptr 0 0 0],.var [.i to],.arr 1 (d.map w6),.var [.sl 6 0 N],.var [.clo 128 [.ptr 5 0 0,.ptr 7 0 0,.ptr 4 0 0,.ptr 8 0 0]]]
abbrev G44 (arcs:List Arc):Type:={ g:Int × List Int × List Bool // XB arcs g.2.1 }
def w7:Env:=[(9,.ptr 11 0 0),(7,.ptr 10 0 0),(6,.ptr 9 0 0),(5,.ptr 8 0 0),(4,.ptr 4 0 0),(3,.ptr 7 0 0)]
def hpF (N:Nat) (arcs:List Arc) (p:List Int) (to v:Nat) (most:Int) (g:Int × List Int × List Bool):List Blk :=
 h44 N arcs p to g.2.1 g.2.2++[.var [.i v],.var [.i most],.var [.i g.1],.var [.ptr 0 0 0],.var [.i v],.rcd .ready w7]
theorem Dc {l:List Bool} {k:Nat} (h:k<l.length):l.getD k false=l[k]:=by
 rw [yag,yah h];rfl
theorem XB.bd {N:Nat} {arcs:List Arc} {x:List Int} (hV:Val N arcs) (h:XB arcs x) (j:Nat):0≤x.getD j 0∧x.getD j 0≤1073741824:=by
 by_cases hj:j<arcs.length
 ·have:=h.hb j hj
  have:=hV.at hj
  omega
 ·rw [yag,yay (by have:=h.hl;omega)];simp
def Us (N:Nat) (arcs:List Arc) (p:List Int) (to:Nat) (x:List Int) (d:List Bool) (v:Nat) (most:Int):Prop :=
 OkN Tryz.prog 128 [.i v,.i most,.ptr 5 0 0,.ptr 7 0 0,.ptr 4 0 0,.ptr 8 0 0] (h44 N arcs p to x d) [] (IsQ (FQ arcs x (fun u=>p.getD u 0) to d v most) (fun g=>.i g.1) (fun g=>h44 N arcs p to g.2.1 g.2.2))
section
variable {N:Nat} {arcs:List Arc} {x p:List Int} {to v:Nat} {d:List Bool} {most:Int}
theorem afY (hV:Val N arcs) (hv:v<N):ItH (fun g:G44 arcs=>hpF N arcs p to v most g.1) (fun g=>g.1.2.1) 15 N v arcs 14 12 13 0 1 2 3 [14,0,1,2,3,4,5,6,7,8]:=by
 refine ⟨hV,hv,fun g=>rfl,fun g tl=>rfl,fun g tl=>rfl,fun g tl=>rfl,fun g tl=>rfl,fun g tl=>rfl,fun g=>⟨trivial,trivial,trivial,trivial,trivial,trivial,trivial,trivial,trivial,trivial,trivial⟩,fun g=>?_,fun g=>⟨_,_,rfl⟩,fun g=>⟨g.2.hl,fun j=>g.2.bd hV j⟩⟩
 unfold hpF h44 wB w7
 simp -implicitDefEqProofs only [rX,aB,wfE,wfB,wfV,wfL,bY]
theorem adJ (hW:∀ x,XB arcs x→WOk N arcs x p) (hvd:d.getD v false=false) (hdl:d.length=N) (hto:to<N) (hm:0<most∧most≤4611686018427387904) {i:Nat} {g:Int × List Int × List Bool} (hv:v<N) (hi:i<(outs arcs v arcs.length).length)
  (IH:∀ (x1:List Int) (d1:List Bool) (v1:Nat) (m1:Int),d1.count false<d.count false→XB arcs x1→d1.length=N→v1<N→d1.getD v1 false=false→0≤m1∧m1≤4611686018427387904→Us N arcs p to x1 d1 v1 m1)
  (hI:FN N arcs x (fun u=>p.getD u 0) to d v most i g)
  (hr:0<cR arcs g.2.1 v (outs arcs v arcs.length)[i]) {e:Env} {bb:Nat} {Z:V→St→Prop} {NX RX:St→Prop} {XX:Nat→St→Prop} (he:EI arcs v 14 12 13 i e)
  (hN:∀ e' h',(∃ (g:Int × List Int × List Bool) (tl:List Blk),FN N arcs x (fun u=>p.getD u 0) to d v most i g∧g.1=most∧e'=w7∧h'=(hpF N arcs p to v most g).set 14 .dead++tl)→XX 0 ⟨e',h',0⟩)
  (hT:∀ e' g' tl,EI arcs v 14 12 13 i e'→FN N arcs x (fun u=>p.getD u 0) to d v most (i+1) g'→Z (.b true) ⟨e',hpF N arcs p to v most g'++tl,bb⟩)
  (hF:∀ e' hh,EI arcs v 14 12 13 i e'→tL 14 NX XX RX hh→Z (.b false) ⟨e',hh,bb⟩) :
  yR (cxN Tryz.prog [0,1,2,3,4,5,6,7,8]) [26] c128a0 c128r0 14 [lO arcs g.2.1 v (outs arcs v arcs.length)[i]] ⟨e,hpF N arcs p to v most g++[.var (gA arcs (outs arcs v arcs.length)[i]).enc,.var (v8 arcs g.2.1 v (outs arcs v arcs.length)[i])],bb⟩ Z:=by
 obtain ⟨sent,x1,d1⟩:=g
 have hfi:=hI.fi
 have hn0:=hI.n0
 simp only at hfi hn0 hr ⊢
 have hx1:=hfi.xb
 have hWx:=hW x1 hx1
 have hVV:=hWx.hV
 obtain ⟨hj,hend⟩:=xF hi
 generalize hk:(outs arcs v arcs.length)[i]=k at *
 have hsrc:=Dr hVV hj hend
 obtain ⟨w1,w2,w3⟩:=xX hVV (i:=wix arcs v k) (by rw [fM];exact hj)
 have hcb:=t6 hVV (i:=wix arcs v k) (by rw [fM];exact hj)
 have hway:lO arcs x1 v k=.agg [.i k,.i (wdst arcs (wix arcs v k):Nat),.i (cR arcs x1 v k),.i (e7 arcs (wix arcs v k)),.b (decide (¬(gA arcs k).from_=v))]:=by
  have:=hVV.at hj
  unfold lO cR wdst e7
  rw [fM]
  unfold wix
  by_cases h:(gA arcs k).from_=v
  ·simp only [if_pos h]
   rw [if_pos (by omega),if_pos (by omega),show (((gA arcs k).to.toNat:Nat):Int)=(gA arcs k).to by omega,show decide (¬(gA arcs k).from_=v)=false from decide_eq_false (by simpa using h)]
  ·simp only [if_neg h]
   rw [if_neg (by omega),if_neg (by omega),show (((gA arcs k).from_.toNat:Nat):Int)=(gA arcs k).from_ by omega,show decide (¬(gA arcs k).from_=v)=true from decide_eq_true h]
 have hwc:cells? (lO arcs x1 v k)=some (v8 arcs x1 v k):=by unfold lO v8;split<;>rfl
 have hwc2:v8 arcs x1 v k=[.i k,.i (wdst arcs (wix arcs v k):Nat),.i (cR arcs x1 v k),.i (e7 arcs (wix arcs v k)),.b (decide (¬(gA arcs k).from_=v))]:=by
  rw [hway] at hwc
  simpa [cells?] using hwc.symm
 rw [hway,hwc2]
 have hdlt:∀ n,dlt arcs v k n=if decide (¬(gA arcs k).from_=v)=true then -n else n:=by
  intro n
  unfold dlt
  by_cases h:(gA arcs k).from_=v
  ·rw [if_pos h,if_neg (by simpa using h)]
  ·rw [if_neg h,if_pos (by simpa using h)]
 have hcap:=hVV.at hj
 have hx1b:=hx1.hb k hj
 have hrmb:cR arcs x1 v k≤1073741824:=by unfold cR;split<;>omega
 have hdltr:∀ n,0≤n→n≤cR arcs x1 v k→0≤x1.getD k 0+dlt arcs v k n∧x1.getD k 0+dlt arcs v k n≤1073741824:=by
  intro n h1 h2
  unfold cR at h2
  unfold dlt
  split
  ·rename_i e;rw [if_pos e] at h2;omega
  ·rename_i e;rw [if_neg e] at h2;omega
 generalize hbk:decide (¬(gA arcs k).from_=v)=bk at *
 generalize hrm:cR arcs x1 v k=rm at *
 have hKill:∀ M,bU M (gA arcs k).enc=(gA arcs k).enc:=fun M=>rfl
 have hWf:∀ q,wfL q (gA arcs k).enc=True:=fun q=>eq_true abV
 generalize (gA arcs k).enc=encA at *
 have hcall:=Yn N arcs x1 p v (wdst arcs (wix arcs v k):Nat) (e7 arcs (wix arcs v k)) (.i k) (.i rm) (.b bk) hWx (by omega) (by omega) hcb
 have hrc:e7 arcs (wix arcs v k)+p.getD (v:Int).toNat 0-p.getD ((wdst arcs (wix arcs v k):Nat):Int).toNat 0=dL arcs (fun u=>p.getD u 0) (wix arcs v k):=by
  unfold dL
  rw [hsrc,yaa,yaa]
 rw [hrc] at hcall
 have hxl:=hx1.hl
 have hd1:d1.length=N:=hfi.dl.trans hdl
 have hst:=fun (hd:d1.getD (wdst arcs (wix arcs v k)) false=false) (hc:dL arcs (fun u=>p.getD u 0) (wix arcs v k)=0)=>hI.step hVV hvd hm.1 hi hk hd hc
 have hsk:=hI.skip hi
 rw [hk] at hsk
 rw [hrm] at hst
 generalize hcc:dL arcs (fun u=>p.getD u 0) (wix arcs v k)=c at *
 generalize hto2:wdst arcs (wix arcs v k)=u at *
 have hud:u<d1.length:=by omega
 have hdu:d1.getD u false=d1[u]:=Dc hud
 refine Lj 17 rfl rfl rfl ?_
 unfold hpF h44 wB w7 c128a0
 simp -implicitDefEqProofs only [rX,↓rY,rZ,↓rW,aA,cells?,splice,↓reduceIte,Nat.reduceEqDiff,Nat.reduceAdd,aC,isC,cxN,mE]
 unfold c128r0
 simp -implicitDefEqProofs only [rX,↓rY,rZ,↓rW,aA,↓reduceIte,Nat.reduceEqDiff,cS,Nat.reduceAdd,reduceCtorEq,yac,u4,yaa]
 simp only [br,decide_eq_true_eq,decide_eq_false_iff_not]
 refine ⟨fun heq=>?_,fun hne=>?_⟩
 ·have heq':sent=most:=by simpa using heq
  refine hF e _ he ?_
  simp -implicitDefEqProofs only [rX,rZ,↓rW,aB,wfE,wfB,wfV,wfL,bY,hWf]
  exact hN _ _ ⟨(sent,x1,d1),[.var encA,.var [.i k,.i u,.i rm,.i (e7 arcs (wix arcs v k)),.b bk],.dead,.var [.i k,.i u,.i rm,.i (e7 arcs (wix arcs v k)),.b bk]],hI,heq',rfl,rfl⟩
 ·have hne':sent≠most:=by simpa using hne
  refine ⟨⟨by omega,by omega⟩,by omega,?_⟩
  refine ⟨fun hdead=>?_,fun hlive=>?_⟩
  ·exact hT e _ [.var encA,.var [.i k,.i u,.i rm,.i (e7 arcs (wix arcs v k)),.b bk],.dead,.var [.i k,.i u,.i rm,.i (e7 arcs (wix arcs v k)),.b bk]] he (hsk fun _ _ _=>by rw [hdu];exact hdead)
  ·refine dA [0,1,2,3] [.ptr 0 0 0,.i v,.agg [.i k,.i (u:Nat),.i rm,.i (e7 arcs (wix arcs v k)),.b bk]] (.i c) (.i c) (wH N arcs x1 p) (wH N arcs x1 p) _ hcall (by simp) (by simp [wH,wB,blk,bX,cO,ren,pos,cJ,hxl]) (by simp [aF,aK,aU,bG,wkL,wk,pos]) (by simp [wH]) rfl rfl (by simp [aE,aB,wH,wB,bO,bX]) ?_
   simp -implicitDefEqProofs only [rX,↓rY,rZ,↓rW,aA,↓reduceIte,Nat.reduceEqDiff,Nat.reduceAdd,wH,wB,bO,bX,cO,ren,cJ,back,hxl]
   simp only [br,decide_eq_true_eq,decide_eq_false_iff_not]
   refine ⟨fun hc=>hT e _ [.var encA,.var [.i k,.i u,.i rm,.i (e7 arcs (wix arcs v k)),.b bk],.dead,.var [.i k,.i u,.i rm,.i (e7 arcs (wix arcs v k)),.b bk]] he (hsk fun _ _ h0=>absurd h0 (by simpa using hc)),fun hc=>⟨by simp only [lo,Fx.hi];omega,?_⟩⟩
   have hc0:c=0:=by simpa using hc
   have hstep:=@hst (by rw [hdu];exact hlive) hc0 hr hne'
   have hm1:0<min rm (most-sent)∧min rm (most-sent)≤rm∧min rm (most-sent)≤most-sent:=⟨Int.lt_min.2 ⟨hr,by omega⟩,yaT _ _,yaA _ _⟩
   generalize min rm (most-sent)=m1 at *
   refine fD (FQ arcs x1 (fun u=>p.getD u 0) to d1 u m1) [0,1,2,3,4,5,6,7,8] [] [] [.i u,.i m1,.ptr 5 0 0,.ptr 7 0 0,.ptr 4 0 0,.ptr 8 0 0] (fun g=>.i g.1) (h44 N arcs p to x1 d1) (fun g=>h44 N arcs p to g.2.1 g.2.2)
    (IH x1 d1 u m1 (cnt_lt (hdl.trans hd1.symm) hfi.mono (by omega) hvd hI.nd) hx1 hd1 w2 (by rw [hdu];exact hlive) (by omega)) (by simp) (by simp) (by simp [h44,wB,blk,bX,cO,ren,pos,cJ]) (by simp [aF,aK,aU,bG,wkL,wk,pos]) fun g hg=>⟨by simp [aE,aB,h44,wB,bO,bX,bF],?_⟩
   obtain ⟨n,x2,d2⟩:=g
   have hN3:=hstep hg
   have hqi:=hg.fi
   have hn:=hg.n0
   simp only at hqi hn
   have hk2:x2.getD k 0=x1.getD k 0:=hqi.kept k hj (by
    have:d1.getD v false=true:=hI.nd
    rcases hend with e|e
    ·left;rw [e];exact this
    ·right;rw [e];exact this)
   have hkl:k<x2.length:=by rw [hqi.xb.hl];exact hj
   have hx2e:x2.getD k 0=x2[k]:=cC hkl
   have hdr:=hdltr n hn.1 (by omega)
   rw [←hk2,hx2e,hdlt] at hdr
   rw [hx2e,hdlt] at hN3
   have hmax:max n (-n)=n:=Int.max_eq_left (by omega)
   have hmax2:max (-n) n=n:=Int.max_eq_right (by omega)
   simp -implicitDefEqProofs only [rX,↓rY,rZ,↓rW,rdK,cells?,splice,↓reduceIte,Nat.reduceEqDiff,cS,Nat.reduceAdd,bP,bF,kill,bU,St.kill,isD,isC,yac,cM,yaa,fJ,h44,wB,bO,bX,cO,ren,back,cJ,fX,hKill]
   have hw1:IntKind.wrap .i64 (-n)=-n:=dH .i64 _ (by simp only [lo,Fx.hi];omega)
   have hw2:IntKind.wrap .i64 (- -n)=n:=by rw [Int.neg_neg];exact dH .i64 _ (by simp only [lo,Fx.hi];omega)
   have hZ:=hT (bP [] e) _ [.var encA,.var [.i k,.i u,.i rm,.i (e7 arcs (wix arcs v k)),.b bk],.dead,.var [.i k,.i u,.i rm,.i (e7 arcs (wix arcs v k)),.b bk]] (Nw (by simp) (by simp) (by simp) he) hN3
   unfold hpF h44 wB w7 at hZ
   cases bk
   ·simp -implicitDefEqProofs only [↓rY,hw1,hmax,mX]
    simp only [if_neg (show ¬(false=true) by decide)] at hZ hdr
    exact ⟨⟨by omega,by omega⟩,by omega,by simp only [lo,Fx.hi];omega,⟨by omega,by omega⟩,by omega,by simp only [lo,Fx.hi];omega,hZ⟩
   ·simp -implicitDefEqProofs only [↓rY,hw1,hw2,hmax2,mX]
    simp only [if_pos] at hZ hdr
    exact ⟨⟨by omega,by omega⟩,by omega,by simp only [lo,Fx.hi];omega,⟨by omega,by omega⟩,by omega,by simp only [lo,Fx.hi];omega,hZ⟩
end
end Go.Fx.P.K
namespace Go.Fx.P.K
open Go Go.Fx Go.Fx.E Go.Proofs
set_option maxRecDepth 20000
section
variable {N:Nat} {arcs:List Arc} {p:List Int} {to:Nat}
theorem Tv {l:List Bool} {k:Nat} {b:Bool}:(l.map w6).set k [.b b]=(l.set k b).map w6:=by
 rw [List.map_set];rfl
def hpE (N:Nat) (arcs:List Arc) (p:List Int) (to v:Nat) (most:Int) (g:Int × List Int × List Bool) (tl:List Blk):List Blk :=
 h44 N arcs p to g.2.1 g.2.2++[.var [.i v],.var [.i most],.var [.i g.1],.var [.ptr 0 0 0],.var [.i v],.dead]++tl
theorem adI (hV:Val N arcs) (hW:∀ x,XB arcs x→WOk N arcs x p) (hto:to<N) {x:List Int} {d:List Bool} {v:Nat} {most:Int} {Q:Int × List Int × List Bool→Prop} (hx:XB arcs x) (hdl:d.length=N) (hv:v<N) (hvt:v≠to) (hvd:d.getD v false=false) (hm:0<most∧most≤4611686018427387904)
  (IH:∀ (x1:List Int) (d1:List Bool) (v1:Nat) (m1:Int),d1.count false<d.count false→XB arcs x1→d1.length=N→v1<N→d1.getD v1 false=false→0≤m1∧m1≤4611686018427387904→Us N arcs p to x1 d1 v1 m1)
  {NX RX:St→Prop} {XX:Nat→St→Prop} (hX:∀ s,NX s→XX 0 s) (hQ:Q=FQ arcs x (fun u=>p.getD u 0) to d v most)
  (hfin:∀ (g:Int × List Int × List Bool) tl,Q (g.1,g.2.1,g.2.2.set v (decide (g.1<most)))→g.2.2.length=N→NX ⟨w7,hpE N arcs p to v most g tl,0⟩) :
  I0 Tryz.prog 146 [.itr 14,.ptr 12 0 0,.ptr 13 0 0] [14,0,1,2,3,4,5,6,7,8] 14 (yR (cxN Tryz.prog [0,1,2,3,4,5,6,7,8]) [26] c128a0 c128r0 14) (hpF N arcs p to v most (0,x,d.set v true)) (tL 14 NX XX RX):=by
 subst hQ
 have hvl:v<d.length:=by omega
 refine Za (Inv:=fun i (g:G44 arcs)=>FN N arcs x (fun u=>p.getD u 0) to d v most i g.1) (afY (p:=p) (to:=to) (most:=most) hV hv) ?_ ?_ ?_ ⟨(0,x,d.set v true),hx⟩ (FN.start hx (Int.le_of_lt hm.1) hvl)
 ·rintro i ⟨⟨s,x1,d1⟩,hg⟩ hi hI hr
  refine hI.skip hi fun h0 h1=>?_
  obtain ⟨z1,_⟩:=hI.zero h0
  simp only at z1 hr
  subst z1
  omega
 ·rintro i ⟨g,hg⟩ hi hI hr e bb Z he hT hF
  refine adJ hW hvd hdl hto hm hv hi IH hI hr he ?_ ?_ hF
  ·rintro e' h' ⟨g',tl,h1,h2,rfl,rfl⟩
   refine hX _ (hfin g' tl (h1.done hV hvl hvt hvd hm.1 (.inr h2)) (h1.fi.dl.trans hdl))
  ·intro e' g' tl he' hI'
   exact hT e' ⟨g',hI'.fi.xb⟩ tl he' hI'
 ·rintro ⟨g,hg⟩ hI
  have:=hfin g [] (hI.done hV hvl hvt hvd hm.1 (.inl rfl)) (hI.fi.dl.trans hdl)
  obtain ⟨s,x1,d1⟩:=g
  unfold hpF h44 wB w7
  unfold hpE h44 wB w7 at this
  simp -implicitDefEqProofs only [rX,rZ,↓rW,aB,wfE,wfB,wfV,wfL,bY] at this ⊢
  exact this
theorem Ym (hV:Val N arcs) (hW:∀ x,XB arcs x→WOk N arcs x p) (hto:to<N):∀ (c:Nat) (x:List Int) (d:List Bool) (v:Nat) (most:Int),d.count false<c→XB arcs x→d.length=N→v<N→d.getD v false=false→0≤most∧most≤4611686018427387904→Us N arcs p to x d v most
 | 0,_,d,_,_,hc,_,_,_,_,_=>by omega
 | c+1,x,d,v,most,hc,hx,hdl,hv,hvd,hm=>by
  have IH:=Ym hV hW hto c
  have hxl:=hx.hl
  have hWx:=hW x hx
  have hvl:v<d.length:=by omega
  have hN:=hWx.hN
  unfold Us
  have hbase:=FQ.base (p:=fun u=>p.getD u 0) (to:=to) (d:=d) (v:=v) hx hm.1
  generalize hQ:FQ arcs x (fun u=>p.getD u 0) to d v most=Q at *
  refine eV pol [0,1,2,3,4,5,6,7,8] lw128 (by simp) ⟨trivial,trivial,trivial,trivial,trivial,trivial,trivial,trivial,trivial,trivial⟩ (by simp [h44];omega) ?_
  unfold c128 h44 wB
  simp -implicitDefEqProofs only [rX,↓rY,aA,cells?,splice,↓reduceIte,Nat.reduceEqDiff,cS,Nat.reduceAdd,reduceCtorEq,aC,isD,isC,yac,yaa,j5,cxN,aN]
  simp only [br]
  refine ⟨fun h1=>?_,fun h1=>⟨fun h2=>?_,fun h2=>?_⟩⟩
  ·refine dV _ (hbase (.inl (Int.ofNat.inj (by simpa using h1)))) ?_
   simp -implicitDefEqProofs only [rX,↓reduceIte,Nat.reduceAdd,aQ,aT,leH,leB,leV,bD,aE,aB,wfB,wfV,wfL,bY]
  ·refine dV _ (hbase (.inr (by simpa using h2))) ?_
   simp -implicitDefEqProofs only [rX,↓reduceIte,Nat.reduceAdd,aQ,aT,leH,leB,leV,bD,aE,aB,wfB,wfV,wfL,bY]
  have hvt:v≠to:=by
   have:¬((v:Int)=to):=by simpa using h1
   omega
  have hm0:0<most:=by
   have:¬most=0:=by simpa using h2
   omega
  refine ⟨⟨by omega,by omega⟩,by omega,?_⟩
  refine dA [0,1,2,3] [.ptr 0 0 0,.i v] (.clo 146 [.ptr 4 0 0,.ptr 5 0 0]) (.clo 146 [.ptr 12 0 0,.ptr 13 0 0]) (wH N arcs x p) (wH N arcs x p++[Blk.var [V.ptr 0 0 0],Blk.var [V.i v]]) (h44 N arcs p to x (d.set v true)++[Blk.var [V.i v],Blk.var [V.i most],Blk.var [V.i 0],Blk.var [V.ptr 0 0 0],Blk.var [V.i v]]) (Yo N arcs x p v) (by simp) (by simp [wH,wB,blk,bX,cO,ren,pos,cJ,hxl]) (by simp [aF,aK,aU,bG,wkL,wk,pos]) (by simp [wH]) (by simp [h44,wH,wB,bO,bX,cO,ren,cJ,back,hxl,w6]) (by simp [ren,cO,back]) (by simp [aE,aB,h44,wB]) ?_
  unfold h44 wB
  simp -implicitDefEqProofs only [rX]
  refine Ee 14 rfl rfl trivial ?_
  refine Uu (h':=hpF N arcs p to v most (0,x,d.set v true)) ?_ ?_ ?_ ?_ (adI hV hW hto hx hdl hv hvt hvd ⟨hm0,hm.2⟩ (fun x1 d1 v1 m1 hlt=>IH x1 d1 v1 m1 (by omega)) ?_ hQ.symm ?_)
  ·unfold hpF h44 wB w7
   simp -implicitDefEqProofs only [rX,↓reduceIte,Nat.reduceEqDiff,reduceCtorEq,leE,leH,leB,leV,bD,or_true]
  ·simp [aE,aB,hpF,h44,wB]
  ·unfold hpF h44 wB w7
   simp -implicitDefEqProofs only [rX,aB,wfE,wfB,wfV,wfL,bY]
  ·unfold hpF h44 wB w7
   simp -implicitDefEqProofs only [rX,aB,wfV,wfL]
  ·intro s hs
   exact hs
  ·rintro ⟨s,x1,d1⟩ tl hq hl
   simp only at hl
   unfold hpE h44 wB w7
   simp -implicitDefEqProofs only [rX,↓rY,cells?,splice,↓reduceIte,Nat.reduceEqDiff,cS,isD,isC,yac,yaa,j5,hl]
   refine ⟨⟨by omega,by omega⟩,hv,dV _ hq ?_⟩
   simp -implicitDefEqProofs only [rX,↓reduceIte,Nat.reduceAdd,aQ,aT,leH,leB,leV,bD,aE,aB,wfB,wfV,wfL,bY,Tv]
end
end Go.Fx.P.K
namespace Go.Fx.P.K
open Go Go.Fx Go.Fx.E Go.Proofs
set_option maxRecDepth 20000
section
variable {N:Nat} {arcs:List Arc} {p:List Int} {to:Nat}
theorem ajH (hV:Val N arcs) (hW:∀ x,XB arcs x→WOk N arcs x p) (hto:to<N) (x:List Int) (v:Nat) (most:Int) (hx:XB arcs x) (hv:v<N) (hm:0≤most∧most≤4611686018427387904) :
  OkN Tryz.prog 92 [.ptr 0 0 0,.i v,.i to,.i most] (wH N arcs x p) [] (IsQ (FQ arcs x (fun u=>p.getD u 0) to (yab N false) v most) (fun g=>.i g.1) (fun g=>wH N arcs g.2.1 p)):=by
 have hWx:=hW x hx
 have hN:=hWx.hN
 have hxl:=hx.hl
 have hfree:(yab N false).getD v false=false:=by rw [Dc (by simpa using hv)];simp
 have hcall:=Ym hV hW hto (N+1) x (yab N false) v most (by simp) hx (by simp) hv hfree hm
 unfold Us at hcall
 generalize hQ:FQ arcs x (fun u=>p.getD u 0) to (yab N false) v most=Q at *
 refine eV pol [0,1,2,3] lw92 (by simp) ⟨trivial,trivial,trivial,trivial,trivial⟩ (by simp [wH];omega) ?_
 unfold c92 wH wB
 simp -implicitDefEqProofs only [rX,↓rY,aA,cells?,splice,↓reduceIte,Nat.reduceEqDiff,Nat.reduceAdd,reduceCtorEq,aC,isC,yaa,cxN,aN]
 refine ⟨⟨⟨by omega,by omega⟩,by omega,by omega⟩,?_⟩
 refine fD Q [0,1,2,3,4,5,6,7,8] [] [] [.i v,.i most,.ptr 5 0 0,.ptr 7 0 0,.ptr 4 0 0,.ptr 8 0 0] (fun g=>.i g.1) (h44 N arcs p to x (yab N false)) (fun g=>h44 N arcs p to g.2.1 g.2.2) hcall (by simp) (by simp) (by simp [h44,wB,blk,bX,cO,ren,pos,cJ,hxl,w6]) (by simp [aF,aK,aU,bG,wkL,wk,pos]) fun g hg=>⟨by simp [aE,aB,h44,wB,bO,bX,bF],?_⟩
 obtain ⟨n,x2,d2⟩:=g
 have hx2:x2.length=arcs.length:=by
  rw [←hQ] at hg
  exact hg.fi.xb.hl
 simp -implicitDefEqProofs only [rX,↓reduceIte,Nat.reduceAdd,bP,bF,kill,bU,St.kill,h44,wB,bO,bX,cO,ren,back,cJ,fX]
 refine dV _ hg ?_
 simp -implicitDefEqProofs only [rX,↓reduceIte,Nat.reduceAdd,aQ,aT,leH,leB,leV,bD,aE,aB,wfB,wfV,wfL,bY,hx2]
end
end Go.Fx.P.K
namespace Go.Fx.P.K
open Go Go.Fx Go.Fx.E Go.Proofs
set_option maxRecDepth 20000
section
variable {N:Nat} {arcs:List Arc} {p x:List Int}
theorem aeZ (hW:WOk N arcs x p) (hx:XB arcs x):OkN Tryz.prog 127 [.ptr 0 0 0] (wH N arcs x p) [] (IsA (.i (d8 arcs x arcs.length)) (wH N arcs x p)):=by
 have hV:=hW.hV
 have hN:=hW.hN
 have hxl:=hW.hx
 have hal:=hV.hl
 refine eV pol [0,1,2,3] lw127 (by simp) ⟨trivial,trivial,trivial,trivial,trivial⟩ (by simp [wH];omega) ?_
 unfold c127 wH wB
 simp -implicitDefEqProofs only [rX,↓rY,aA,↓reduceIte,Nat.reduceAdd,reduceCtorEq,cxN,aN]
 intro hm
 have hf:∀ y∈x,0≤y∧y≤1073741824:=fun y hy=>by
  obtain ⟨i,hi,rfl⟩:=yan hy
  rw [←cC hi]
  exact hx.bd hV i
 have ha:∀ a∈arcs,0≤a.cost∧a.cost≤1048576:=fun a h=>(hV.ha a h).2.2.2.2
 refine bA (fun k:Nat=>(⟨[(12,.i k),(11,.i arcs.length),(10,.ro 4 (arcs.map Arc.enc)),(3,.i (d8 arcs x k)),(0,.ptr 0 0 0)],[.var [.i N,.ro 4 (arcs.map Arc.enc),.sl 1 0 x.length,.sl 2 0 N,.sl 3 0 N],.arr 1 (x.map encI),.arv 1 (iP arcs N),.arr 1 (p.map encI)],0⟩:St)) (fun k=>k≤arcs.length) (fun k=>arcs.length-k) 0 (yak _) ?_ fun k hk=>?_
 ·simp -implicitDefEqProofs only [rX,↓reduceIte,Nat.reduceEqDiff,reduceCtorEq,leE,leH,leB,leV,bD,aE,aB,wfE,wfB,wfV,wfL,bY,d8,yai]
 ·rcases yas k arcs.length with h|h
  ·have hd:decide ((k:Int)<arcs.length)=true:=decide_eq_true (by omega)
   simp -implicitDefEqProofs only [rX,↓rY,aA,cells?,splice,↓reduceIte,Nat.reduceEqDiff,cS,Nat.reduceAdd,reduceCtorEq,aC,leE,leH,leB,leV,bD,aE,aB,wfE,wfB,wfV,wfL,yac,enc_len,fC,vR,fR,cM,yaa,hd]
   have hk2:k<x.length:=by omega
   have hfk:=hf x[k] (yad hk2)
   have hak:=ha arcs[k] (yad h)
   have hvb:=vG arcs x hf ha k
   have hst:=yB h hk2
   have hmb:=Mt hfk hak
   rw [Int.mul_comm] at hst hmb
   refine ⟨⟨by omega,by omega⟩,h,⟨by omega,by omega⟩,hk2,by simp only [lo,hi];omega,by simp only [lo,hi];omega,by simp only [lo,hi];omega,k+1,⟨by omega,by omega⟩,?_⟩
   simp -implicitDefEqProofs only [rX,bY,hst]
   trivial
  ·have hd:decide ((k:Int)<arcs.length)=false:=decide_eq_false (by omega)
   have:k=arcs.length:=by omega
   subst this
   simp -implicitDefEqProofs only [rX,↓rY,↓reduceIte,Nat.reduceEqDiff,Nat.reduceAdd,aQ,aT,leH,leB,leV,bD,aE,aB,wfB,wfV,wfL,hd,cA,bY]
end
end Go.Fx.P.K
namespace Go.Fx.P.K
open Go Go.Fx Go.Fx.E Go.Proofs
structure SI (N:Nat) (arcs:List Arc) (f t:Nat) (am:Int) (x p:List Int) (sent:Int):Prop where
 xb:XB arcs x
 val:∀ w:Nat,valTo arcs w x arcs.length=vd f sent w-vd t sent w
 nn:NN arcs x fun u=>p.getD u 0
 pl:p.length=N
 p0:p.getD f 0=0
 pb:∀ j,0≤p.getD j 0∧p.getD j 0≤p.getD t 0
 pt:p.getD t 0≤((N:Int)-1)*1048576
 s0:0≤sent∧sent≤am
def Reach (arcs:List Arc) (x p:List Int) (f t:Nat):Prop:=∀ S:Nat→Prop,S f→(∀ i,sF arcs x i→dL arcs (fun u=>p.getD u 0) i=0→S (wsrc arcs i)→S (wdst arcs i))→S t
section
variable {N:Nat} {arcs:List Arc} {f t:Nat} {am sent:Int} {x p:List Int}
theorem SI.pmax (hN:1≤N∧N≤64) (h:SI N arcs f t am x p sent) (j:Nat):0≤p.getD j 0∧p.getD j 0≤1073741824:=by
 have h1:=h.pb j
 have h2:=h.pt
 have:((N:Int)-1)*1048576≤63*1048576:=yaH (by omega) (by omega)
 omega
theorem SI.wok (hV:Val N arcs) (hN:N≤64) (h:SI N arcs f t am x p sent) (y:List Int) (hy:XB arcs y):WOk N arcs y p :=
 ⟨hV,hN,hy.hl,h.pl,h.pmax ⟨hV.hn.1,hN⟩⟩
theorem Tz (hV:Val N arcs) {hs:f<N} {hn:NN arcs x fun u=>p.getD u 0}:∀ {v:Nat} {r:List Nat},Lb.PR (grD N arcs x (fun u=>p.getD u 0) f hV hs hn) v r→Lb.cs (grD N arcs x (fun u=>p.getD u 0) f hV hs hn) r+p.getD v 0≤(r.length:Int)*1048576+p.getD f 0
 | v,[],h=>by
  rw [show v=f from h]
  simp [Lb.cs]
 | v,i::r,h=>by
  have ih:=Tz hV h.2.2
  have hi:sF arcs x i:=h.1
  have hd:wdst arcs i=v:=h.2.1
  have hc:=t6 hV hi.1
  have e:Lb.cs (grD N arcs x (fun u=>p.getD u 0) f hV hs hn) (i::r)=dL arcs (fun u=>p.getD u 0) i+Lb.cs (grD N arcs x (fun u=>p.getD u 0) f hV hs hn) r:=rfl
  have ihs:Lb.cs (grD N arcs x (fun u=>p.getD u 0) f hV hs hn) r+p.getD (wsrc arcs i) 0≤(r.length:Int)*1048576+p.getD f 0:=ih
  rw [e]
  unfold dL
  rw [hd,List.length_cons,yaF,yaG]
  simp only [Int.natCast_one,Int.one_mul]
  omega
theorem SI.price (hV:Val N arcs) (hf:f<N) (ht:t<N) (h:SI N arcs f t am x p sent) {D:List Int} (hD:Bq N (grD N arcs x (fun u=>p.getD u 0) f hV hf h.nn) D) (hN:N≤64) (hdt:D.getD t 0≠far) {p':List Int} (hl:p'.length=N) (hp:∀ k,k<N→p'.getD k 0=p.getD k 0+min (D.getD k 0) (D.getD t 0)) :
  SI N arcs f t am x p' sent∧Reach arcs x p' f t:=by
 have hb:∀ u,u<N→0≤D.getD u 0∧(D.getD u 0=far∨D.getD u 0≤KB):=fun u hu=>Am hN (fun j=>h.pmax ⟨hV.hn.1,hN⟩ j) hD.lab hu
 have hKB:KB<far:=by decide
 have hDf:D.getD f 0=0:=hD.lab.h0
 have hbt:=hb t ht
 have hcl:∀ i,sF arcs x i→D.getD (wsrc arcs i) 0<far→D.getD (wdst arcs i) 0≤D.getD (wsrc arcs i) 0+dL arcs (fun u=>p.getD u 0) i:=fun i hi hlt=>hD.cl i hi hlt
 have hr':∀ i,sF arcs x i→dL arcs (fun u=>p'.getD u 0) i=dL arcs (fun u=>p.getD u 0) i+min (D.getD (wsrc arcs i) 0) (D.getD t 0)-min (D.getD (wdst arcs i) 0) (D.getD t 0):=by
  intro i hi
  obtain ⟨w1,w2,_⟩:=xX hV hi.1
  unfold dL
  simp only
  rw [hp _ w1,hp _ w2]
  omega
 have hout:∀ j,¬j<N→p'.getD j 0=0∧p.getD j 0=0:=by
  intro j hj
  have h1:=h.pl
  rw [yag,yag,yay (by omega),yay (by omega)]
  exact ⟨rfl,rfl⟩
 obtain ⟨r,hW⟩:∃ r,Lb.Wp (grD N arcs x (fun u=>p.getD u 0) f hV hf h.nn) (fun u=>D.getD u 0) t r:=by
  rcases hD.lab.hw t ht with he|⟨_,h⟩
  ·exact absurd he hdt
  ·exact h
 have hpt':=hp t ht
 rw [Int.min_self] at hpt'
 refine ⟨⟨h.xb,h.val,fun i hi=>?_,hl,?_,fun j=>?_,?_,h.s0⟩,?_⟩
 ·rw [hr' i hi]
  have h1:=h.nn i hi
  have hm1:=yaA (D.getD (wdst arcs i) 0) (D.getD t 0)
  have hm2:=yaT (D.getD (wdst arcs i) 0) (D.getD t 0)
  rcases Int.le_total (D.getD t 0) (D.getD (wsrc arcs i) 0) with h2|h2
  ·rw [Int.min_eq_right h2];omega
  ·rw [yaJ h2]
   have:=hcl i hi (by rcases hbt.2 with e|e<;>omega)
   omega
 ·rw [hp f hf,h.p0,hDf,yaJ hbt.1];rfl
 ·by_cases hj:j<N
  ·rw [hp j hj,hpt']
   have h1:=h.pb j
   have h2:=hb j hj
   have hm1:=yaA (D.getD j 0) (D.getD t 0)
   have hm2:0≤min (D.getD j 0) (D.getD t 0):=Int.le_min.2 ⟨h2.1,hbt.1⟩
   omega
  ·rw [(hout j hj).1,hpt']
   have:=h.pb t
   omega
 ·rw [hpt']
  have h1:=Tz hV hW.pr
  have h2:=hW.len
  rw [hW.co,h.p0] at h1
  have h3:r.length<N:=h2
  have h4:(r.length:Int)*1048576≤((N:Int)-1)*1048576:=yaH (by omega) (by omega)
  have h1':D.getD t 0+p.getD t 0≤(r.length:Int)*1048576+0:=h1
  omega
 ·intro S hS hstep
  have hCl:Lb.Cl (grD N arcs x (fun u=>p.getD u 0) f hV hf h.nn) far (fun u=>D.getD u 0):=fun i hi hlt=>hcl i hi hlt
  have hfin:∀ i,(grD N arcs x (fun u=>p.getD u 0) f hV hf h.nn).res i→D.getD (wsrc arcs i) 0<far→D.getD (wdst arcs i) 0<far:=by
   intro i hi hlt
   have hi':sF arcs x i:=hi
   obtain ⟨w1,w2,_⟩:=xX hV hi'.1
   have h1:=hcl i hi' hlt
   have h2:=hb _ w1
   have h3:=t6 hV hi'.1
   have h4:=h.pmax ⟨hV.hn.1,hN⟩ (wsrc arcs i)
   have h5:=h.pmax ⟨hV.hn.1,hN⟩ (wdst arcs i)
   unfold dL at h1
   simp only at h1
   have:KB+1048576+1073741824<far:=by decide
   rcases h2.2 with e|e<;>omega
  have hti:=Lb.Gf hDf (by decide:(0:Int)<far) hCl hfin hW.pr hW.co
  have key:∀ (v:Nat) (r:List Nat),Lb.PR (grD N arcs x (fun u=>p.getD u 0) f hV hf h.nn) v r→Lb.Tight (grD N arcs x (fun u=>p.getD u 0) f hV hf h.nn) (fun u=>D.getD u 0) v r→D.getD v 0≤D.getD t 0→S v:=by
   intro v r
   induction r generalizing v with
   | nil=>intro h1 _ _;rw [show v=f from h1];exact hS
   | cons i r ih =>
    intro h1 h2 h3
    have hi:sF arcs x i:=h1.1
    have hd:wdst arcs i=v:=h1.2.1
    have ht1:D.getD (wdst arcs i) 0=D.getD (wsrc arcs i) 0+dL arcs (fun u=>p.getD u 0) i:=h2.1
    have h0:=h.nn i hi
    rw [←hd] at h3 ⊢
    refine hstep i hi ?_ (ih (wsrc arcs i) h1.2.2 h2.2 (by omega))
    rw [hr' i hi,yaJ h3,yaJ (by omega)]
    omega
  exact key t r hW.pr hti (yaf _)
theorem SI.fill (h:SI N arcs f t am x p sent) (hf:f<N) {n:Int} {x':List Int} {d':List Bool} (hq:FQ arcs x (fun u=>p.getD u 0) t (yab N false) f (am-sent) (n,x',d')) :
  SI N arcs f t am x' p (sent+n)∧0≤n∧(Reach arcs x p f t→sent<am→0<n):=by
 have hfi:=hq.fi
 have hn:=hq.n0
 simp only at hfi hn
 have hs:=h.s0
 refine ⟨⟨hfi.xb,fun w=>?_,fun i hi=>?_,h.pl,h.p0,h.pb,h.pt,by omega⟩,hn.1,fun hR hlt=>?_⟩
 ·rw [hfi.val,h.val,Dv,Dv];omega
 ·by_cases e:x'.getD (i/2) 0=x.getD (i/2) 0
  ·refine h.nn i ⟨hi.1,?_⟩
   have:=hi.2
   unfold wrm at this ⊢
   rw [e] at this
   exact this
  ·have h0:=hfi.tig (i/2) hi.1 e
   by_cases e2:i%2=0
   ·rw [show 2*(i/2)=i by omega] at h0
    omega
   ·have h1:=Ri (arcs:=arcs) (p:=fun u=>p.getD u 0) (k:=i/2)
    rw [show 2*(i/2)+1=i by omega] at h1
    omega
 ·apply Classical.byContradiction
  intro hz
  have h0:n=0:=by omega
  obtain ⟨z1,z2,z3⟩:=hq.zero h0 (by omega)
  simp only at z1 z2 z3
  have hfr:∀ u,(yab N false).getD u false=false:=by
   intro u
   rw [yag,yaD]
   split<;>rfl
  have:d'.getD t false=true:=hR (fun u=>d'.getD u false=true) z2 fun i hi hc hu=>(z3 _ hu (hfr _)).2 i hi rfl hc
  exact (z3 t this (hfr t)).1 rfl
def fK (D:List Int):Nat→List Int
 | 0=>[]
 | k+1=>if D.getD k 0<far then fK D k++[(k:Int)] else fK D k
theorem pF {D:List Int} {v:Int}:∀ {k:Nat},v∈fK D k↔(0≤v∧v<k)∧D.getD v.toNat 0<far
 | 0=>by
  simp only [fK,List.not_mem_nil,false_iff]
  omega
 | k+1=>by
  have ih:=pF (D:=D) (v:=v) (k:=k)
  unfold fK
  by_cases e:v=k
  ·subst e
   rw [yaa] at ih ⊢
   split
   ·rename_i h
    rw [yaK,yar]
    exact ⟨fun _=>⟨by omega,h⟩,fun _=>.inr rfl⟩
   ·rename_i h
    rw [ih]
    exact ⟨fun h2=>absurd h2.2 h,fun h2=>absurd h2.2 h⟩
  ·split
   ·rw [yaK,ih,yar]
    constructor
    ·rintro (h1|h1)
     ·exact ⟨⟨h1.1.1,by omega⟩,h1.2⟩
     ·exact absurd h1 e
    ·intro h1
     exact .inl ⟨⟨h1.1.1,by omega⟩,h1.2⟩
   ·rw [ih]
    constructor
    ·intro h1
     exact ⟨⟨h1.1.1,by omega⟩,h1.2⟩
    ·intro h1
     exact ⟨⟨h1.1.1,by omega⟩,h1.2⟩
theorem If {D:List Int}:∀ {k:Nat},(fK D k).length≤k
 | 0=>by simp [fK]
 | k+1=>by
  have:=If (D:=D) (k:=k)
  unfold fK
  split<;>simp<;>omega
theorem Nh {D:List Int} {n:Int}:∀ {k:Nat},(k:Int)≤n→OkS n (fK D k) (fK D k).length
 | 0,_=>⟨fun j h=>by simp [fK] at h⟩
 | k+1,hk=>by
  have ih:=Nh (D:=D) (n:=n) (k:=k) (by omega)
  have hm:=fun v=>pF (D:=D) (v:=v) (k:=k)
  unfold fK
  split
  ·refine ⟨fun j hj _=>?_⟩
   rw [yaV,yaW] at hj
   by_cases e:j<(fK D k).length
   ·rw [yaX e]
    have:=ih.h j e e
    refine ⟨this.1,fun h0=>?_⟩
    have h2:=this.2 h0
    rw [cC (by omega)] at h2
    rw [cC (by rw [yaV,yaW];omega),yaX (by omega)]
    exact h2
   ·have ej:j=(fK D k).length:=by omega
    subst ej
    rw [List.getElem_append_right (yaq _)]
    simp only [Nat.sub_self,List.getElem_singleton]
    refine ⟨by omega,fun h0=>?_⟩
    rw [cC (by rw [yaV,yaW];omega),yaX (by omega)]
    have:=((hm _).1 (yad (l:=fK D k) (n:=(fK D k).length-1) (by omega))).1
    omega
  ·exact ih
theorem SI.okF (hf:f<N) (ht:t<N) (h:SI N arcs f t am x p sent):OkF N arcs f t x:=by
 refine ⟨h.xb.hl,fun i h1 h2=>?_,fun j h1 h2 h3 h4=>?_⟩
 ·have:=h.xb.hb i h2
  rw [pB h2,cC h1] at this
  exact this
 ·have:=h.val j.toNat
  rw [yat h1] at this
  rw [this]
  unfold vd
  rw [if_neg (by omega),if_neg (by omega)];rfl
theorem SI.okP (hV:Val N arcs) (hN:N≤64) (h:SI N arcs f t am x p sent):OkP N arcs f x p:=by
 have hs:=Sb.1 h.nn
 refine ⟨h.pl,by rw [yaa];exact h.p0,fun j hj=>?_,fun k hk=>?_⟩
 ·rw [←cC hj];exact h.pmax ⟨hV.hn.1,hN⟩ j
 ·have:=hs k hk
  rw [pB hk] at this
  exact this
theorem SI.okv (hft:f≠t) (h:SI N arcs f t am x p sent):valTo arcs f x arcs.length=sent:=by
 rw [h.val]
 unfold vd
 rw [if_pos rfl,if_neg hft];omega
theorem SI.all (hV:Val N arcs) (hN:N≤64) (hf:f<N) (ht:t<N) (hft:f≠t) (h:SI N arcs f t am x p sent) (he:sent=am):OkAc N arcs f t am ⟨sent,d8 arcs x arcs.length,x,p,[]⟩ :=
 ⟨h.okF hf ht,h.s0,h.okv hft,rfl,h.okP hV hN,by simp only;rw [if_pos he];trivial⟩
theorem SI.cut (hV:Val N arcs) (hN:N≤64) (hf:f<N) (ht:t<N) (hft:f≠t) (h:SI N arcs f t am x p sent) (he:sent<am) {D:List Int} (hD:Bq N (grD N arcs x (fun u=>p.getD u 0) f hV hf h.nn) D) (hdt:D.getD t 0=far):OkAc N arcs f t am ⟨sent,d8 arcs x arcs.length,x,p,fK D N⟩:=by
 have hKB:KB<far:=by decide
 have hb:∀ u,u<N→0≤D.getD u 0∧(D.getD u 0=far∨D.getD u 0≤KB):=fun u hu=>Am hN (fun j=>h.pmax ⟨hV.hn.1,hN⟩ j) hD.lab hu
 have hDf:D.getD f 0=0:=hD.lab.h0
 have hcl:∀ i,sF arcs x i→D.getD (wsrc arcs i) 0<far→D.getD (wdst arcs i) 0<far:=by
  intro i hi hlt
  obtain ⟨w1,w2,_⟩:=xX hV hi.1
  have h1:D.getD (wdst arcs i) 0≤D.getD (wsrc arcs i) 0+dL arcs (fun u=>p.getD u 0) i:=hD.cl i hi hlt
  have h2:=hb _ w1
  have h3:=t6 hV hi.1
  have h4:=h.pmax ⟨hV.hn.1,hN⟩ (wsrc arcs i)
  have h5:=h.pmax ⟨hV.hn.1,hN⟩ (wdst arcs i)
  unfold dL at h1
  simp only at h1
  have:KB+1048576+1073741824<far:=by decide
  rcases h2.2 with e|e<;>omega
 have hh:∀ v:Int,hasB (fK D N) v=true↔((0≤v∧v<N)∧D.getD v.toNat 0<far):=by
  intro v
  unfold hasB
  rw [decide_eq_true_eq,pF]
 have hfalse:∀ v:Int,0≤v∧v<N→hasB (fK D N) v=false→¬D.getD v.toNat 0<far:=by
  intro v hv h1 h2
  rw [(hh v).2 ⟨hv,h2⟩] at h1
  cases h1
 refine ⟨h.okF hf ht,h.s0,h.okv hft,rfl,h.okP hV hN,?_⟩
 simp only
 rw [if_neg (by omega)]
 refine ⟨Nh (yaf _),(hh _).2 ⟨by omega,by rw [yaa,hDf];decide⟩,?_,⟨fun j hj _=>?_⟩⟩
 ·rw [←Bool.not_eq_true,hh,yaa,hdt]
  exact fun h1=>absurd h1.2 (yaI _)
 ·have hva:=hV.at hj
  have hxb:=h.xb.hb j hj
  rw [pB hj] at hva hxb
  refine ⟨fun h1 h2=>?_,fun h1 h2=>?_⟩
  ·have h3:=((hh _).1 h1).2
   have h4:=hfalse _ hva.2.1 h2
   apply Classical.byContradiction
   intro h5
   have:=hcl (2*j) ⟨by omega,by
    unfold wrm
    rw [if_pos (by omega),show 2*j/2=j by omega,pB hj];omega⟩
   unfold wsrc wdst at this
   rw [if_pos (by omega),if_pos (by omega),show 2*j/2=j by omega,pB hj] at this
   exact h4 (this h3)
  ·have h3:=((hh _).1 h1).2
   have h4:=hfalse _ hva.1 h2
   apply Classical.byContradiction
   intro h5
   have:=hcl (2*j+1) ⟨by omega,by
    unfold wrm
    rw [if_neg (by omega),show (2*j+1)/2=j by omega];omega⟩
   unfold wsrc wdst at this
   rw [if_neg (by omega),if_neg (by omega),show (2*j+1)/2=j by omega,pB hj] at this
   exact h4 (this h3)
end
end Go.Fx.P.K
namespace Go.Fx.P.K
open Go Go.Fx Go.Fx.E Go.Proofs
set_option maxRecDepth 20000
section
variable {N:Nat} {arcs:List Arc} {p x:List Int}
abbrev vO (N:Nat) (arcs:List Arc) (x p D:List Int) (sent tot:Int) (k:Nat):St :=
 ⟨[(24,.i k),(23,.i D.length),(22,.bro 1 (D.map encI)),(7,.ptr 5 0 0),(6,.ptr 4 0 0)],[wB N x.length arcs 1 2 3,.arr 1 (x.map encI),.arv 1 (iP arcs N),.arr 1 (p.map encI),.var [.i 0,.i 0,.nil,.nil,.nil],.var [.i sent,.i tot,.sl 1 0 x.length,.sl 3 0 N,.sl 6 0 (fK D k).length],.arr 1 ((fK D k).map encI)],0⟩
theorem acB (D:List Int) (hD:D.length≤64) (sent tot:Int) {RR:St→Prop} {X:Nat→St→Prop}
  (hX:∀ e b,get e 7=.ptr 5 0 0→get e 6=.ptr 4 0 0→X 0 ⟨e,(vO N arcs x p D sent tot D.length).h,b⟩) (k:Nat) (hk:k≤D.length) :
  aw (cxN Tryz.prog [0,1,2,3]) c91l0 (fun s'=>∃ k':Nat,(k'≤D.length∧D.length-k'<D.length-k)∧leS [0,1,2,3] s' (vO N arcs x p D sent tot k')) X RR (vO N arcs x p D sent tot k):=by
 have hcl:=If (D:=D) (k:=k)
 unfold c91l0 vO wB
 rcases yas k D.length with h|h
 ·have hd:decide ((k:Int)<D.length)=true:=decide_eq_true (by omega)
  simp -implicitDefEqProofs only [rX,↓rY,aA,cells?,splice,↓reduceIte,Nat.reduceEqDiff,Nat.reduceAdd,reduceCtorEq,aC,bZ,leE,leH,leB,leV,bD,aE,aB,wfE,wfB,wfV,wfL,bP,bF,kill,bU,St.kill,isD,isC,Nat.reduceLT,yac,cM,yaa,cxN,hd,fX]
  have hDk:D.getD k 0=D[k]:=cC h
  simp only [br,decide_eq_true_eq,decide_eq_false_iff_not]
  refine ⟨⟨by omega,by omega⟩,h,⟨fun hf=>?_,fun hf=>?_⟩⟩
  ·have hcs:fK D (k+1)=fK D k++[(k:Int)]:=by
    show (if D.getD k 0<far then _ else _)=_
    rw [if_pos (by rw [hDk];exact hf)]
   refine ⟨by omega,by simp only [lo,hi];omega,k+1,⟨by omega,by omega⟩,by simp,?_⟩
   rw [hcs]
   refine ⟨⟨by simp,?_⟩,xG⟩
   rw [yau,yam (by simp)]
   rfl
  ·have hcs:fK D (k+1)=fK D k:=by
    show (if D.getD k 0<far then _ else _)=_
    rw [if_neg (by rw [hDk];exact hf)]
   refine ⟨by simp only [lo,hi];omega,k+1,⟨by omega,by omega⟩,?_⟩
   rw [hcs]
   simp -implicitDefEqProofs only [rX,bY]
   trivial
 ·have hd:decide ((k:Int)<D.length)=false:=decide_eq_false (by omega)
  have:k=D.length:=by omega
  subst this
  have:=hX
  unfold vO wB at this
  simp -implicitDefEqProofs only [rX,↓rY,↓reduceIte,Nat.reduceEqDiff,Nat.reduceAdd,cxN,hd]
  exact this _ _ rfl rfl
theorem adV (hW:WOk N arcs x p) (hx:XB arcs x) (sent:Int) (D:List Int) (hD:D.length≤N):OkN Tryz.prog 91 [.ptr 0 0 0,.i sent,.bro 1 (D.map encI)] (wH N arcs x p) [] (IsA (.agg [.i sent,.i (d8 arcs x arcs.length),.sl 1 0 x.length,.sl 3 0 N,.sl 6 0 (fK D D.length).length]) (wH N arcs x p++[.dead,.dead,.arr 1 ((fK D D.length).map encI)])):=by
 have hV:=hW.hV
 have hN:=hW.hN
 have hxl:=hW.hx
 have hal:=hV.hl
 have hcall:=aeZ hW hx
 generalize hT:d8 arcs x arcs.length=tot at *
 refine eV pol [0,1,2,3] lw91 (by simp) ⟨trivial,trivial,trivial,trivial,trivial⟩ (by simp [wH];omega) ?_
 unfold c91 wH wB
 simp -implicitDefEqProofs only [rX,↓rY,aA,cells?,↓reduceIte,Nat.reduceEqDiff,Nat.reduceAdd,reduceCtorEq,aC,cxN,aN]
 repeat' refine And.intro ?_ ?_
 all_goals
  refine dA [0,1,2,3] [.ptr 0 0 0] (.i tot) (.i tot) (wH N arcs x p) (wH N arcs x p) _ hcall (by simp) (by simp [wH,wB,blk,bX,cO,ren,pos,cJ]) (by simp [aF,aK,aU,bG,wkL,wk,pos]) (by simp [wH]) rfl rfl (by simp [aE,aB,wH,wB,bO,bX]) ?_
  simp -implicitDefEqProofs only [rX,↓rY,rdK,aA,cells?,splice,↓reduceIte,Nat.reduceEqDiff,Nat.reduceAdd,reduceCtorEq,aC,bJ,isC,Nat.reduceLeDiff,wH,wB,bO,bX,cO,ren,cJ,back]
  intro _
  refine fY (.virt 1 1 (by decide) (.nilB 5 [.i sent,.i tot,.sl 1 0 x.length,.sl 3 0 N,.nil] [.i sent,.i tot,.sl 1 0 x.length,.sl 3 0 N,.sl 6 0 0] rfl ⟨rfl,fun i a b h1 h2=>?_⟩ (.refl _))) (vO N arcs x p D sent tot) (fun k=>k≤D.length) (fun k=>D.length-k) 0 (yak _) ?_ (acB D (by omega) sent tot fun e b he1 he2=>?_)
  ·match i with
   | 0=>simp at h1 h2;subst h1 h2;exact .inl rfl
   | 1=>simp at h1 h2;subst h1 h2;exact .inl rfl
   | 2=>simp at h1 h2;subst h1 h2;exact .inl rfl
   | 3=>simp at h1 h2;subst h1 h2;exact .inl rfl
   | 4=>simp at h1 h2;subst h1 h2;exact .inr ⟨rfl,_,rfl⟩
   | i+5=>simp at h1
  ·unfold vO wB
   simp -implicitDefEqProofs only [rX,↓reduceIte,Nat.reduceEqDiff,leE,leH,leB,leV,bD,aE,aB,wfE,wfB,wfV,wfL,bY,fK,yai]
  ·unfold vO wB
   simp -implicitDefEqProofs only [rX,↓rY,cells?,splice,↓reduceIte,Nat.reduceEqDiff,Nat.reduceAdd,aQ,aT,leH,leB,leV,bD,aE,aB,wfB,wfV,wfL,isC,Nat.reduceLeDiff,he1,he2,cA,bY]
end
end Go.Fx.P.K
namespace Go.Fx.P.K
open Go Go.Fx Go.Fx.E Go.Proofs
set_option maxRecDepth 20000
def tS (x:Int):Bool:=decide (x<0∨1073741824<x)
theorem aeX (x:Int):Ok 130 [.i x] (Is (.b (tS x))):=by
 refine ok_of lw130 (by simp) ?_
 unfold c130
 simp -implicitDefEqProofs only [rX,↓rY,aA,↓reduceIte,Nat.reduceEqDiff,reduceCtorEq,aQ,aT,wfV,cxN,aN]
 simp only [br,decide_eq_true_eq,decide_eq_false_iff_not,tS]
 grind
def Fc (l:List Int):Int:=if l.any tS then (l.findIdx tS:Nat) else -1
structure GInv (l:List Int) (k:Nat):Prop where
 h:∀ j (h:j<l.length),j<k→tS l[j]=false
theorem aeR (l:List Int):Ok 147 [li l,.clo 130 []] (Is (.i (Fc l))):=by
 refine ok_of lw147 (by simp) ?_
 unfold c147 li
 simp -implicitDefEqProofs only [rX,↓rY,aA,↓reduceIte,reduceCtorEq,cxN,aN]
 intro hm
 refine bA (fun k:Nat=>⟨[(8,.i k),(7,.i l.length),(1,.clo 130 []),(0,.ro 1 (l.map encI))],[],0⟩) (fun k=>k≤l.length∧GInv l k) (fun k=>l.length-k) 0 ⟨by omega,⟨by simp⟩⟩ ?_ ?_
 ·simp -implicitDefEqProofs only [rX,↓reduceIte,Nat.reduceEqDiff,reduceCtorEq,leE,leH,aE,wfE,wfB,wfV,wfL,yai]
 rintro k ⟨hk,hv⟩
 unfold c147l0
 simp -implicitDefEqProofs only [rX,↓rY,aA,↓reduceIte,Nat.reduceEqDiff,reduceCtorEq,aQ,aT,wfV,yac,cM,yaa]
 simp only [br,yaa,decide_eq_true_eq,decide_eq_false_iff_not]
 refine ⟨fun h=>⟨⟨by omega,h⟩,by omega,?_⟩,fun h=>?_⟩
 ·have hk:k<l.length:=by omega
  refine aD (aeX l[k]) ?_ rfl trivial ?_
  ·simp [aF,aK,aU,bG,wkL,wk,pos]
  cases hb:tS l[k] with
  | true =>
   simp -implicitDefEqProofs only [rX,↓rY,↓reduceIte,Nat.reduceEqDiff,aQ,aT,wfV]
   have h1:l.any tS=true:=by
    rw [List.any_eq_true];exact ⟨_,yad hk,hb⟩
   have h2:l.findIdx tS=k:=by
    rw [List.findIdx_eq hk]
    exact ⟨hb,fun j hj=>hv.h j (by omega) hj⟩
   simp [Fc,h1,h2]
  | false =>
   simp -implicitDefEqProofs only [rX,↓rY,aA,↓reduceIte,Nat.reduceEqDiff,reduceCtorEq,leE,leH,aE,wfE,wfB,wfV,wfL]
   refine ⟨by simp only [lo,hi,maxLen] at *;omega,k+1,⟨⟨by omega,⟨fun j hj h2=>?_⟩⟩,by omega⟩,by simp⟩
   by_cases h3:j=k
   ·subst h3;exact hb
   ·exact hv.h j hj (by omega)
 ·have h1:l.any tS=false:=by
   rw [List.any_eq_false]
   intro x hx
   obtain ⟨j,hj,rfl⟩:=yan hx
   simp [hv.h j hj (by omega)]
  simp [Fc,h1]
theorem aeY (l:List Int):Ok 129 [li l,.clo 130 []] (Is (.b (l.any tS))):=by
 refine ok_of lw129 (by simp) ?_
 unfold c129 li
 simp -implicitDefEqProofs only [rX,aA,↓reduceIte,Nat.reduceEqDiff,reduceCtorEq,cxN,aN]
 refine aD (aeR l) ?_ rfl trivial ?_
 ·simp [li,aF,aK,aU,bG,wkL,wk,wkR]
 simp -implicitDefEqProofs only [rX,↓rY,aA,↓reduceIte,aQ,aT,wfV,Fc]
 by_cases h:l.any tS=true
 ·simp [h]
 ·simp only [h,if_false];simp
theorem ajF (N:Nat) (arcs:List Arc) (f:Int) (fr:Fr) (hV:Val N arcs) (hf:0≤f∧f<N) (hl:fr.flow.length=arcs.length):Ok 94 [net N arcs,.i f,fr.enc] (Is (.b (prB N arcs f fr.flow fr.price))):=by
 refine ok_of lw94 (by simp) ?_
 unfold c94 net Fr.enc li
 simp -implicitDefEqProofs only [rX,↓rY,aA,cells?,↓reduceIte,Nat.reduceEqDiff,Nat.reduceAdd,reduceCtorEq,aC,aQ,aT,wfV,yac,cM,cxN,aN]
 simp only [br,decide_eq_true_eq,decide_eq_false_iff_not,bne_iff_ne,bne_eq_false_iff_eq]
 have hL:=hV.hl
 have hN:=hV.hn
 refine fun hm1=>⟨fun h=>Gy fun hO=>?_,fun h=>?_⟩
 ·have:=hO.hl;omega
 have hpl:fr.price.length=N:=by omega
 refine ⟨⟨hf.1,by omega⟩,by omega,fun h0=>Gy fun hO=>?_,fun h0=>?_⟩
 ·have:=hO.h0
  rw [getD_at (by omega)] at this
  exact h0 this
 refine aD (aeY fr.price) (by simp [li,aF,aK,aU,bG,wkL,wk,wkR]) rfl trivial ?_
 cases hb:fr.price.any tS with
 | true =>
  simp -implicitDefEqProofs only [rX,↓rY,aA,↓reduceIte,Nat.reduceEqDiff,Nat.reduceAdd,aQ,aT,wfV]
  refine Gy fun hO=>?_
  rw [List.any_eq_true] at hb
  obtain ⟨x,hx,hb⟩:=hb
  obtain ⟨j,hj,rfl⟩:=yan hx
  have:=hO.hb j hj
  simp only [tS,decide_eq_true_eq] at hb
  omega
 | false =>
 have hb:∀ j (h:j<fr.price.length),0≤fr.price[j]∧fr.price[j]≤1073741824:=by
  intro j hj
  rw [List.any_eq_false] at hb
  have:=hb _ (yad hj)
  simp only [tS,decide_eq_true_eq] at this
  omega
 simp -implicitDefEqProofs only [rX,↓rY,aA,↓reduceIte,Nat.reduceEqDiff,Nat.reduceAdd]
 refine fun _=>bA (fun k:Nat=>⟨[(32,.i k),(31,.i arcs.length),(30,.ro 4 (arcs.map Arc.enc)),(5,.ptr 1 0 0),(3,.ptr 0 0 0),(1,.i f)],[.var [.i N,.ro 4 (arcs.map Arc.enc)],frB fr],0⟩) (fun k=>k≤arcs.length∧RInv arcs fr.flow fr.price k) (fun k=>arcs.length-k) 0 ⟨by omega,⟨by simp⟩⟩ ?_ ?_
 ·simp -implicitDefEqProofs only [rX,↓reduceIte,Nat.reduceEqDiff,reduceCtorEq,leE,leH,leB,leV,bD,aE,aB,wfE,wfB,wfV,wfL,bD,leV,yai,frB]
 rintro k ⟨hk,hv⟩
 simp -implicitDefEqProofs only [rX,↓rY,aA,cells?,splice,↓reduceIte,Nat.reduceEqDiff,Nat.reduceAdd,aC,aQ,aT,leE,leH,leB,leV,bD,aE,aB,wfE,wfB,wfV,wfL,yac,enc_len,fC,oJ,oI,p9,vR,fR,cM,yaa,frB]
 simp only [br,decide_eq_true_eq,decide_eq_false_iff_not]
 refine ⟨fun h2=>?_,fun h2=>?_⟩
 ·have hk1:k<arcs.length:=by omega
  have hk2:k<fr.flow.length:=by omega
  have hva:=hV.ha arcs[k] (yad hk1)
  have b1:=hb arcs[k].from_.toNat (by omega)
  have b2:=hb arcs[k].to.toNat (by omega)
  have bad:¬(_∧_)→false=prB N arcs f fr.flow fr.price:=fun h=>Gy fun hO=>h (hO.ha k hk1)
  have good:=hv.next hk1
  rw [getD_at (by omega),getD_at (by omega),cC hk2] at bad good
  simp only [lo,hi,maxLen] at *
  repeat' (first|(refine ⟨(k+1:_),?_⟩)|(refine ⟨by omega,?_⟩)|(refine And.intro ?_ ?_)|(refine (fun _=>?_)))
  all_goals first|omega|(apply bad;omega)|(apply good;omega)
 ·refine Yj ⟨hpl,?_,hb,fun j hj=>hv.h j hj (by omega)⟩
  rw [getD_at (by omega)];exact h0
end Go.Fx.P.K
namespace Go.Fx.P.K
open Go Go.Fx Go.Fx.E Go.Proofs
set_option maxRecDepth 20000
theorem Oz {l:List Int} {k:Nat} (h:k<l.length) (x:Int):hasB (l.take (k+1)) x=if x=l[k] then true else hasB (l.take k) x:=by
 simp only [hasB,List.take_succ_eq_append_getElem h,yaK,yar]
 by_cases hx:x=l[k]
 ·simp only [hx,or_true,if_true,decide_true]
 ·simp only [hx,or_false,if_false]
theorem ajE (N:Nat) (arcs:List Arc) (f t:Int) (fr:Fr) (hV:Val N arcs) (hf:0≤f∧f<N) (ht:0≤t∧t<N) (hl:fr.flow.length=arcs.length):Ok 95 [net N arcs,.i f,.i t,fr.enc] (Is (.b (cuB N arcs f t fr.flow fr.cut))):=by
 refine ok_of lw95 (by simp) ?_
 unfold c95 net Fr.enc li
 simp -implicitDefEqProofs only [rX,↓rY,aA,cells?,↓reduceIte,Nat.reduceEqDiff,Nat.reduceAdd,reduceCtorEq,aC,yaa,cxN,aN]
 have hL:=hV.hl
 have hN:=hV.hn
 refine ⟨by omega,fun hm=>?_⟩
 refine bA (fun k:Nat=>⟨[(20,.i k),(19,.i fr.cut.length),(18,.ro 1 (fr.cut.map encI)),(9,.sl 2 0 N),(7,.ptr 1 0 0),(4,.ptr 0 0 0),(2,.i t),(1,.i f)],[.var [.i N,.ro 4 (arcs.map Arc.enc)],frB fr,.arr 1 (oV N (fun j=>hasB (fr.cut.take k) j))],0⟩) (fun k=>k≤fr.cut.length∧OkS N fr.cut k) (fun k=>fr.cut.length-k) 0 ⟨by omega,⟨by simp⟩⟩ ?_ ?_
 ·have h0:oV N (fun j=>hasB [] j)=yab N [V.b false]:=by rw [Qv];rfl
  simp -implicitDefEqProofs only [rX,↓reduceIte,Nat.reduceEqDiff,reduceCtorEq,leE,leH,leB,leV,bD,aE,aB,wfE,wfB,wfV,wfL,bD,leV,yai,frB,h0]
 rintro k ⟨hk,hv⟩
 simp -implicitDefEqProofs only [rX,↓rY,aA,cells?,splice,↓reduceIte,Nat.reduceEqDiff,cS,Nat.reduceAdd,aQ,aT,leE,leH,leB,leV,bD,aE,aB,wfE,wfB,wfV,wfL,isD,isC,yac,cM,u4,yaa,j5,frB,Gk,yP,Qu]
 simp only [br,decide_eq_true_eq,decide_eq_false_iff_not]
 refine ⟨fun h2=>?_,fun h2=>?_⟩
 ·have hk1:k<fr.cut.length:=by omega
  have good:=hv.next hk1
  have bad:¬((0≤fr.cut[k]∧fr.cut[k]<N)∧(0<k→fr.cut.getD (k-1) 0<fr.cut[k]))→false=cuB N arcs f t fr.flow fr.cut:=fun h=>Ig fun hO=>h (hO.hs.h k hk1 hk1)
  have hp:0<k→fr.cut.getD (k-1) 0=fr.cut[((k:Int)-1).toNat]'(by omega):=by
   intro h0
   have e1:((k:Int)-1).toNat=k-1:=by omega
   simp only [e1]
   exact cC (by omega)
  have hrow:∀ i:Nat,i<N→(if (i:Int)=(fr.cut[k].toNat:Nat) then true else hasB (fr.cut.take k) i)=hasB (fr.cut.take (k+1)) i∨¬(0≤fr.cut[k]):=by
   intro i hi
   rw [Oz hk1]
   by_cases h0:0≤fr.cut[k]
   ·left;rw [yat h0]
   ·right;exact h0
  simp only [br,decide_eq_true_eq,decide_eq_false_iff_not,lo,hi,maxLen] at *
  repeat' (first|(refine ⟨(k+1:_),?_⟩)|(refine ⟨by omega,?_⟩)|(refine And.intro ?_ ?_)|(refine (fun _=>?_)))
  all_goals first|omega|(apply bad;rintro ⟨_,h4⟩;have h4:=h4 (by omega);rw [hp (by omega)] at h4;omega)|(apply bad;omega)|(apply good;refine ⟨by omega,fun h0=>?_⟩;rw [hp h0];omega)|(apply good;refine ⟨by omega,fun h0=>?_⟩;omega)|(congr 1;apply Jq;intro i hi;exact (hrow i hi).resolve_right (by omega))
 have hs:OkS N fr.cut fr.cut.length:=⟨fun j h _=>hv.h j h (by omega)⟩
 have hk0:fr.cut.take k=fr.cut:=yam (by omega)
 rw [hk0]
 have e1:((f.toNat:Nat):Int)=f:=yat hf.1
 have e2:((t.toNat:Nat):Int)=t:=yat ht.1
 simp only [e1,e2]
 refine ⟨hf,by omega,fun h3=>Ig fun hO=>?_,fun h3=>⟨ht,by omega,fun h4=>Ig fun hO=>?_,fun h4=>?_⟩⟩
 ·have:=hO.hf;simp [this] at h3
 ·have:=hO.ht;simp [this] at h4
 have h3:hasB fr.cut f=true:=by simpa using h3
 refine fun _=>bA (fun k:Nat=>⟨[(65,.i k),(64,.i arcs.length),(63,.ro 4 (arcs.map Arc.enc)),(9,.sl 2 0 N),(7,.ptr 1 0 0)],[.dead,frB fr,.arr 1 (oV N (fun j=>hasB fr.cut j))],0⟩) (fun k=>k≤arcs.length∧OkA arcs fr.flow fr.cut k) (fun k=>arcs.length-k) 0 ⟨by omega,⟨by simp⟩⟩ ?_ ?_
 ·simp -implicitDefEqProofs only [rX,↓reduceIte,Nat.reduceEqDiff,leE,leH,leB,leV,bD,aE,aB,wfE,wfB,wfV,wfL,bD,leV,yai,frB]
 rintro k ⟨hk,hv⟩
 simp -implicitDefEqProofs only [rX,↓rY,aA,cells?,splice,↓reduceIte,Nat.reduceEqDiff,cS,Nat.reduceAdd,aC,aQ,aT,leE,leH,leB,leV,bD,aE,aB,wfE,wfB,wfV,wfL,yac,enc_len,fC,oJ,oI,p9,fR,cM,u4,yaa,frB,Gk,yP]
 simp only [br,decide_eq_true_eq,decide_eq_false_iff_not]
 refine ⟨fun h5=>?_,fun h2=>Zf ⟨hs,h3,h4,⟨fun j h _=>hv.h j h (by omega)⟩⟩⟩
 have hk1:k<arcs.length:=by omega
 have hk2:k<fr.flow.length:=by omega
 have hva:=hV.ha arcs[k] (yad hk1)
 have good:=hv.next hk1
 have bad:¬(_∧_)→false=cuB N arcs f t fr.flow fr.cut:=fun h=>Ig fun hO=>h (hO.ha.h k hk1 hk1)
 rw [cC hk2] at good bad
 have e3:((arcs[k].from_.toNat:Nat):Int)=arcs[k].from_:=by omega
 have e4:((arcs[k].to.toNat:Nat):Int)=arcs[k].to:=by omega
 simp only [e3,e4] at *
 generalize hasB fr.cut arcs[k].from_=x at *
 generalize hasB fr.cut arcs[k].to=y at *
 cases x<;>cases y<;>simp only [br,bne_iff_ne,bne_eq_false_iff_eq,lo,hi,maxLen,Bool.not_true,yaY,forall_const,yao,reduceCtorEq,false_implies,true_implies,and_true,true_and] at*<;>
  (repeat' (first|(refine ⟨(k+1:_),?_⟩)|(refine ⟨by omega,?_⟩)|(refine And.intro ?_ ?_)|(refine (fun _=>?_))))<;>first|omega|exact good ‹_›|exact bad ‹_›|exact good|(apply bad;simp;omega)|(apply good;simp;try omega)|(apply good;done)|trivial
theorem ajV (N:Nat) (arcs:List Arc) (f t am:Int) (fr:Fr) (hV:Val N arcs) (hf:0≤f∧f<N) (ht:0≤t∧t<N):Ok 69 [net N arcs,.i f,.i t,.i am,fr.enc] (Is (.i (accI N arcs f t am fr))):=by
 refine ok_of lw69 (by simp) ?_
 unfold c69 net Fr.enc li
 have hL:=hV.hl
 have hN:=hV.hn
 simp -implicitDefEqProofs only [rX,↓rY,aA,cells?,↓reduceIte,Nat.reduceEqDiff,Nat.reduceAdd,reduceCtorEq,aC,aQ,aT,wfV,cxN,aN]
 simp only [br,decide_eq_true_eq,decide_eq_false_iff_not]
 refine ⟨fun h=>sD fun hO=>by have:=hO.hs;omega,fun h0=>⟨fun h=>sD fun hO=>by have:=hO.hs;omega,fun h1=>?_⟩⟩
 refine aD (ajG N arcs f t fr hV hf) (by simp [Fr.enc,net,li,aF,aK,aU,bG,wkL,wk,wkR]) rfl trivial ?_
 cases hfl:Bx N arcs f t fr with
 | false =>
  simp -implicitDefEqProofs only [rX,↓rY,aA,↓reduceIte,Nat.reduceEqDiff,Nat.reduceAdd,aQ,aT,wfV]
  exact sD fun hO=>by rw [abN ⟨hO.fl,hO.hv,hO.ht⟩] at hfl;cases hfl
 | true =>
 have hfl:OkF N arcs f t fr.flow∧valTo arcs f fr.flow arcs.length=fr.sent∧d8 arcs fr.flow arcs.length=fr.cost:=by
  apply Classical.byContradiction
  intro h
  rw [At h] at hfl;cases hfl
 have hl:=hfl.1.hl
 simp -implicitDefEqProofs only [rX,↓rY,↓reduceIte,Nat.reduceEqDiff,Nat.reduceAdd,reduceCtorEq]
 refine aD (ajF N arcs f fr hV hf hl) (by simp [Fr.enc,net,li,aF,aK,aU,bG,wkL,wk,wkR]) rfl trivial ?_
 cases hp:prB N arcs f fr.flow fr.price with
 | false =>
  simp -implicitDefEqProofs only [rX,↓rY,aA,↓reduceIte,Nat.reduceEqDiff,Nat.reduceAdd,aQ,aT,wfV]
  exact sD fun hO=>by have:=Yj hO.hp;rw [hp] at this;cases this
 | true =>
 have hp:OkP N arcs f fr.flow fr.price:=by
  apply Classical.byContradiction
  intro h
  have:=Gy h;rw [hp] at this;cases this
 simp -implicitDefEqProofs only [rX,↓rY,aA,↓reduceIte,Nat.reduceEqDiff,Nat.reduceAdd,reduceCtorEq,aQ,aT,wfV]
 simp only [br,beq_iff_eq,beq_eq_false_iff_ne,decide_eq_true_eq,decide_eq_false_iff_not]
 refine ⟨fun h4=>fun _=>⟨fun h5=>Um ⟨hfl.1,by omega,hfl.2.1,hfl.2.2,hp,?_⟩,fun h5=>⟨fun h6=>by omega,fun h6=>sD fun hO=>?_⟩⟩,fun h4=>⟨fun h5=>?_,fun h5=>sD fun hO=>?_⟩⟩
 ·rw [if_pos h4]
  exact List.length_eq_zero_iff.1 (by omega)
 ·have:=hO.hc
  rw [if_pos h4] at this
  rw [this] at h5
  simp at h5
 ·refine aD (ajE N arcs f t fr hV hf ht hl) (by simp [Fr.enc,net,li,aF,aK,aU,bG,wkL,wk,wkR]) rfl trivial ?_
  cases hc:cuB N arcs f t fr.flow fr.cut with
  | false =>
   simp -implicitDefEqProofs only [rX,↓rY,aA,↓reduceIte,Nat.reduceEqDiff,Nat.reduceAdd,aQ,aT,wfV]
   exact sD fun hO=>by have h6:=hO.hc;rw [if_neg h4] at h6;have:=Zf h6;rw [hc] at this;cases this
  | true =>
  have hc:OkC N arcs f t fr.flow fr.cut:=by
   apply Classical.byContradiction
   intro h
   have:=Ig h;rw [hc] at this;cases this
  simp -implicitDefEqProofs only [rX,↓rY,aA,↓reduceIte,Nat.reduceEqDiff,Nat.reduceAdd,aQ,aT,wfV]
  exact Um ⟨hfl.1,by omega,hfl.2.1,hfl.2.2,hp,by rw [if_neg h4];exact hc⟩
 ·have:=hO.hs;omega
end Go.Fx.P.K
namespace Go.Fx.P.K
open Go Go.Fx Go.Fx.E Go.Proofs
set_option maxRecDepth 20000
end Go.Fx.P.K
namespace Go.Fx.P.K
open Go Go.Fx Go.Fx.E Go.Proofs
set_option maxRecDepth 20000
def uN (p D:List Int) (t:Nat):Nat→List Int
 | 0=>p
 | k+1=>(uN p D t k).set k (p.getD k 0+min (D.getD k 0) (D.getD t 0))
theorem s6 {p D:List Int} {t:Nat}:∀ {k:Nat},(uN p D t k).length=p.length
 | 0=>rfl
 | k+1=>by unfold uN;rw [yaz];exact s6
theorem y5 {p D:List Int} {t:Nat} (j:Nat):∀ {k:Nat},k≤p.length→(uN p D t k).getD j 0=if j<k then p.getD j 0+min (D.getD j 0) (D.getD t 0) else p.getD j 0
 | 0,_=>by rw [if_neg (by omega)];rfl
 | k+1,hk=>by
  unfold uN
  rw [gE (by rw [s6];omega)]
  by_cases e:j=k
  ·subst e;rw [if_pos rfl,if_pos (by omega)]
  ·rw [if_neg e,y5 j (by omega)]
   by_cases e2:j<k
   ·rw [if_pos e2,if_pos (by omega)]
   ·rw [if_neg e2,if_neg (by omega)]
section
variable {N:Nat} {arcs:List Arc} {f t:Nat} {am:Int}
def hpS (N:Nat) (arcs:List Arc) (x p:List Int):List Blk :=
 [.var [.i N,.ro 4 (arcs.map Arc.enc)],.var [.i 0,.i 0,.nil,.nil,.nil],.arr 1 (x.map encI),.dead,.arv 1 (iP arcs N),.arr 1 (p.map encI),wB N arcs.length arcs 2 4 5]
abbrev y8 (N:Nat) (arcs:List Arc) (f t:Nat) (am:Int) (g:Int × List Int × List Int):St :=
 ⟨[(12,.i g.1),(11,.ptr 6 0 0),(8,.ptr 1 0 0),(3,.i am),(2,.i t),(1,.i f)],hpS N arcs g.2.1 g.2.2,0⟩
def Tight (arcs:List Arc) (f:Nat) (am:Int) (fr:Fr):Prop:=fr.sent<am→∀ v∈fr.cut,v≠f→∃ i,sF arcs fr.flow i∧(wdst arcs i:Int)=v∧(wsrc arcs i:Int)∈fr.cut
theorem Pe {N:Nat} {arcs:List Arc} {f:Nat} {am:Int} {x p:List Int} {sent c:Int} {hV:Val N arcs} {hf:f<N} {hn:NN arcs x (fun u=>p.getD u 0)} {D:List Int} (hD:Bq N (grD N arcs x (fun u=>p.getD u 0) f hV hf hn) D):Tight arcs f am ⟨sent,c,x,p,fK D N⟩:=by
 intro _ v hv hne
 obtain ⟨⟨h0,h1⟩,h2⟩:=pF.1 hv
 have hvt:((v.toNat:Nat):Int)=v:=yat h0
 rcases hD.lab.hw v.toNat (by show v.toNat<N;omega) with h3|⟨_,r,hr⟩
 ·exact absurd (show D.getD v.toNat 0=far from h3) (by omega)
 have hco:Lb.cs (grD N arcs x (fun u=>p.getD u 0) f hV hf hn) r=D.getD v.toNat 0:=hr.co
 cases r with
 | nil =>
  have:=hr.pr
  exact absurd (show v.toNat=f from this) (by omega)
 | cons i r =>
  obtain ⟨g1,g2,g3⟩:=hr.pr
  have g4:=hr.dm.2.head
  have g5:0≤dL arcs (fun u=>p.getD u 0) i:=hn i g1
  have g6:(grD N arcs x (fun u=>p.getD u 0) f hV hf hn).c i=dL arcs (fun u=>p.getD u 0) i:=rfl
  have g7:(grD N arcs x (fun u=>p.getD u 0) f hV hf hn).src i=wsrc arcs i:=rfl
  have g8:wdst arcs i=v.toNat:=g2
  simp only [Lb.cs,g6] at hco
  rw [g7] at g4
  have w:=xX hV g1.1
  refine ⟨i,g1,by omega,pF.2 ⟨⟨by omega,by have:=w.1;omega⟩,?_⟩⟩
  rw [yaa]
  have g9:D.getD (wsrc arcs i) 0≤Lb.cs (grD N arcs x (fun u=>p.getD u 0) f hV hf hn) r:=g4
  omega
def R13 (N:Nat) (arcs:List Arc) (f t:Nat) (am:Int) (r:V) (hs:List Blk):Prop:=∃ fr:Fr,((OkAc N arcs f t am fr∧Tight arcs f am fr)∧SI N arcs f t am fr.flow fr.price fr.sent)∧(∃ c tl,r=.tup [.agg [.i fr.sent,.i fr.cost,.sl 2 0 arcs.length,.sl 5 0 N,c],.i 0]∧hs=[.dead,.dead,.arr 1 (fr.flow.map encI),.dead,.dead,.arr 1 (fr.price.map encI)]++tl∧gvV (fun k=>decide (6≤k)) hs c=.ro 1 (fr.cut.map encI))∧wk (.tup [fr.enc,.i 0]) (gvV (fun _=>true) hs r)
theorem SI.init (hV:Val N arcs) (hf:f<N) (ht:t<N) (ham:0≤am):SI N arcs f t am (yab arcs.length 0) (yab N 0) 0:=by
 have hr:∀ (m k:Nat),(yab m (0:Int)).getD k 0=0:=by
  intro m k
  rw [yag,yaD]
  split<;>rfl
 refine ⟨⟨by simp,fun k hk=>?_⟩,fun w=>?_,fun i hi=>?_,by simp,hr _ _,fun j=>?_,?_,⟨yaf _,ham⟩⟩
 ·rw [hr]
  have:=hV.at hk
  omega
 ·rw [Vn,Vn]
  have:∀ k,valTo arcs w (yab arcs.length 0) k=0:=by
   intro k
   induction k with
   | zero=>rfl
   | succ k ih=>simp only [valTo,ih,hr];split<;>split<;>rfl
  rw [this];rfl
 ·obtain ⟨h1,h2⟩:=hi
  have:=hV.at h1
  unfold wrm at h2
  rw [hr] at h2
  unfold dL e7
  simp only [hr]
  split at h2
  ·rename_i h0
   rw [if_pos h0];omega
  ·omega
 ·simp only [hr];omega
 ·rw [hr]
  have:=hV.hn
  exact Int.mul_nonneg (by omega) (by omega)
theorem uB {l:List Int} {n:Nat} (h:l.length=n):yae n (l.map encI)=l.map encI:=yam (by simp [h])
theorem Dz {l:List Int}:yae l.length (l.map encI)=l.map encI:=uB rfl
theorem afS (hV:Val N arcs) (hN:N≤64) (hf:f<N) (ht:t<N) (ham:0≤am∧am≤2199023255552) {x p:List Int} {sent:Int} (hlt:sent<am) (hS:SI N arcs f t am x p sent) (hR:Reach arcs x p f t) {X:Nat→St→Prop} {RR:St→Prop} {s:St}
  (hX:∀ (x':List Int) (s':Int),SI N arcs f t am x' p s'→sent<s'→∀ e b,leS [] ⟨e,hpS N arcs x' p,b⟩ (y8 N arcs f t am (s',x',p))→X 4 ⟨e,hpS N arcs x' p,b⟩)
  (hs:leS [] s ⟨[(15,.i 1),(12,.i sent),(11,.ptr 6 0 0),(8,.ptr 1 0 0),(3,.i am),(2,.i t),(1,.i f)],hpS N arcs x p,0⟩) :
  Ai [] (fun NX=>aw (cxN Tryz.prog []) c66l2 NX X RR) s:=by
 refine bA (fun g:Int × Int × List Int=>(⟨[(15,.i g.1),(12,.i g.2.1),(11,.ptr 6 0 0),(8,.ptr 1 0 0),(3,.i am),(2,.i t),(1,.i f)],hpS N arcs g.2.2 p,0⟩:St))
  (fun g=>SI N arcs f t am g.2.2 p g.2.1∧0≤g.1∧((g.1=1∧g.2.1=sent∧Reach arcs g.2.2 p f t)∨sent<g.2.1)) (fun g=>2*(am-g.2.1).toNat+(if 0<g.1 then 1 else 0)) (1,sent,x) ⟨hS,by omega,.inl ⟨rfl,rfl,hR⟩⟩ hs ?_
 rintro ⟨more,s1,x1⟩ ⟨hS1,hm0,hcase⟩
 simp only at hS1 hm0 hcase ⊢
 have hxl:=hS1.xb.hl
 have hW:=hS1.wok hV hN
 have hs0:=hS1.s0
 unfold c66l2 hpS wB
 by_cases hgo:0<more∧s1<am
 ·have hd1:decide (0<more)=true:=decide_eq_true hgo.1
  have hd2:decide (s1<am)=true:=decide_eq_true hgo.2
  simp -implicitDefEqProofs only [rX,↓rY,aA,↓reduceIte,Nat.reduceEqDiff,Nat.reduceAdd,cxN,hd1,hd2]
  refine ⟨by simp only [lo,hi];omega,?_⟩
  have h30:=ajH hV hW ht x1 f (am-s1) hS1.xb hf ⟨by omega,by omega⟩
  refine fD (FQ arcs x1 (fun u=>p.getD u 0) t (yab N false) f (am-s1)) [6,2,4,5] [] [] [.ptr 0 0 0,.i f,.i t,.i (am-s1)] (fun g=>.i g.1) (wH N arcs x1 p) (fun g=>wH N arcs g.2.1 p) h30 (by simp) (by simp) (by simp [wH,wB,blk,bX,cO,ren,pos,cJ,hxl]) (by simp [aF,aK,aU,bG,wkL,wk,pos]) fun g hg=>⟨by simp [aE],?_⟩
  obtain ⟨n,x2,d2⟩:=g
  obtain ⟨q1,q2,q3⟩:=hS1.fill hf hg
  have hx2:x2.length=arcs.length:=q1.xb.hl
  have q4:=q1.s0
  simp -implicitDefEqProofs only [rX,↓rY,↓reduceIte,Nat.reduceEqDiff,Nat.reduceAdd,leE,leH,leB,leV,bD,aE,aB,wfE,wfB,wfV,wfL,bP,bF,kill,bU,St.kill,wH,wB,bO,bX,cO,ren,cJ,fX,back,hx2,Nat.reduceAdd]
  refine ⟨by simp only [lo,hi];omega,(n,s1+n,x2),⟨⟨q1,q2,?_⟩,?_⟩,?_⟩
  ·right
   simp only
   rcases hcase with ⟨c1,c2,c3⟩|c
   ·have:=q3 c3 hgo.2
    omega
   ·omega
  ·simp only
   rw [if_pos hgo.1]
   split<;>omega
  ·simp -implicitDefEqProofs only [rX,bY]
 ·have hs1:sent<s1:=by
   rcases hcase with ⟨c1,c2,c3⟩|c
   ·exact absurd ⟨by omega,by omega⟩ hgo
   ·exact c
  have hx:=hX x1 s1 hS1 hs1
  unfold y8 hpS wB at hx
  by_cases h1:0<more
  ·have hd1:decide (0<more)=true:=decide_eq_true h1
   have hd2:decide (s1<am)=false:=decide_eq_false (fun h2=>hgo ⟨h1,h2⟩)
   simp -implicitDefEqProofs only [rX,↓rY,aA,↓reduceIte,Nat.reduceEqDiff,Nat.reduceAdd,cxN,hd1,hd2]
   refine hx _ _ ?_
   simp -implicitDefEqProofs only [rX,↓reduceIte,Nat.reduceEqDiff,leE,leH,leB,leV,bD,aE,aB,wfE,wfB,wfV,wfL,bY]
  ·have hd1:decide (0<more)=false:=decide_eq_false h1
   simp -implicitDefEqProofs only [rX,↓rY,aA,↓reduceIte,Nat.reduceEqDiff,Nat.reduceAdd,cxN,hd1]
   refine hx _ _ ?_
   simp -implicitDefEqProofs only [rX,↓reduceIte,Nat.reduceEqDiff,leE,leH,leB,leV,bD,aE,aB,wfE,wfB,wfV,wfL,bY]
theorem acE (hV:Val N arcs) (hN:N≤64) (hf:f<N) (ht:t<N) (hft:f≠t) (hal:arcs.length≤100) (ham:0≤am∧am≤2199023255552) {X:Nat→St→Prop}
  (hX:∀ g:Int × List Int × List Int,SI N arcs f t am g.2.1 g.2.2 g.1→g.1=am→∀ e b,get e 11=.ptr 6 0 0→get e 12=.i am→get e 8=.ptr 1 0 0→X 0 ⟨e,hpS N arcs g.2.1 g.2.2,b⟩)
  (g:Int × List Int × List Int) (hg:SI N arcs f t am g.2.1 g.2.2 g.1) :
  aw (cxN Tryz.prog []) c66l0 (fun s'=>∃ g':Int × List Int × List Int,(SI N arcs f t am g'.2.1 g'.2.2 g'.1∧(am-g'.1).toNat<(am-g.1).toNat)∧leS [] s' (y8 N arcs f t am g')) X (eU [] 0 [.cell 8 (some 5),.tmp 9] (R13 N arcs f t am)) (y8 N arcs f t am g):=by
 obtain ⟨sent,x,p⟩:=g
 simp only at hg
 have hxl:=hg.xb.hl
 have hW:=hg.wok hV hN
 have hWx:=hW x hg.xb
 have hs0:=hg.s0
 unfold c66l0 y8 hpS wB
 rcases (by omega:sent<am∨am≤sent) with h|h
 ·have hd:decide (sent<am)=true:=decide_eq_true h
  simp -implicitDefEqProofs only [rX,↓rY,↓reduceIte,Nat.reduceEqDiff,Nat.reduceAdd,cxN,hd]
  have h28:=ajI (hs:=hf) hWx hg.nn (fun j=>hg.xb.bd hV j)
  refine fD (Bq N (grD N arcs x (fun u=>p.getD u 0) f hWx.hV hf hg.nn)) [6,2,4,5] [] [] [.ptr 0 0 0,.i f] (fun _=>.sl 7 0 N) (wH N arcs x p) (fun D:List Int=>wH N arcs x p++[Blk.dead,Blk.dead,Blk.dead,Blk.arr 1 (D.map encI)]) h28 (by simp) (by simp) (by simp [wH,wB,blk,bX,cO,ren,pos,cJ,hxl]) (by simp [aF,aK,aU,bG,wkL,wk,pos]) fun D hD=>⟨by simp [aE,aB,wH,wB,bO,bX,bF],?_⟩
  simp -implicitDefEqProofs only [rX,↓rY,aA,↓reduceIte,Nat.reduceEqDiff,cS,Nat.reduceAdd,bP,bF,kill,bU,St.kill,yac,cM,yaa,wH,wB,bO,bX,cO,ren,cJ,fX,back,hxl,List.getElem?_nil,Nat.reduceSub,Nat.reduceAdd]
  have hDl:=hD.len
  have hDt:D.getD t 0=D[t]'(by omega):=cC (by omega)
  refine ⟨⟨by omega,by omega⟩,by omega,?_⟩
  simp only [br,beq_iff_eq,beq_eq_false_iff_ne]
  refine ⟨fun hfar=>?_,fun hfar=>?_⟩
  ·have h29:=adV hWx hg.xb sent D (by omega)
   rw [hDl] at h29
   have hok:=hg.cut hV hN hf ht hft h hD (by rw [hDt];exact hfar)
   generalize hT:d8 arcs x arcs.length=tot at *
   refine dA [6,2,4,5] [.ptr 0 0 0,.i sent,.bro 1 (D.map encI)] (.agg [.i sent,.i tot,.sl 1 0 x.length,.sl 3 0 N,.sl 6 0 (fK D N).length]) (.agg [.i sent,.i tot,.sl 2 0 x.length,.sl 5 0 N,.sl 13 0 (fK D N).length]) (wH N arcs x p) (wH N arcs x p++[Blk.dead,Blk.dead,Blk.arr 1 ((fK D N).map encI)]) _ h29 (by simp) (by simp [wH,wB,blk,bX,cO,ren,pos,cJ,hxl]) (by simp [aF,aK,aU,bG,wkL,wk,wkR,wkB,blk,pos,hDl,uB]) (by simp [wH]) rfl (by simp [ren,cO,back]) (by simp [aE]) ?_
   simp -implicitDefEqProofs only [rX,↓rY,aA,cells?,splice,↓reduceIte,Nat.reduceEqDiff,Nat.reduceAdd,isC,wH,wB,bO,bX,cO,ren,cJ,back,hxl,Nat.reduceAdd]
   rw [fH]
   simp -implicitDefEqProofs only [rX,↓rY,↓reduceIte,Nat.reduceEqDiff,Nat.reduceAdd,aQ,aT,aE,aB,wfV,wfL]
   refine ⟨[.dead,.dead,.arr 1 (x.map encI),.dead,.dead,.arr 1 (p.map encI),.dead,.dead,.dead,.dead,.dead,.dead,.dead,.arr 1 ((fK D N).map encI)],⟨by simp [leH,leB],by simp [wfV,wfL,aB],by simp [wfB]⟩,_,⟨⟨hok,Pe hD⟩,hg⟩,⟨_,[.dead,.dead,.dead,.dead,.dead,.dead,.dead,.arr 1 ((fK D N).map encI)],rfl,rfl,by simp [gvV,blk,Dz]⟩,?_⟩
   have e1:yae arcs.length (x.map encI)=x.map encI:=uB hxl
   have e2:yae N (p.map encI)=p.map encI:=uB hg.pl
   have hpl:=hg.pl
   simp [gvV,gvL,wk,wkL,wkR,blk,Fr.enc,li,e1,e2,Dz,hxl,hpl]
  ·have hp13:=hg.price hV hf ht hD hN (by rw [hDt];exact hfar) (p':=uN p D t N) (s6.trans hg.pl) (fun k hk=>by rw [y5 k (by rw [hg.pl];exact yaq _),if_pos hk])
   have hpl:=hg.pl
   intro _
   refine bA (fun k:Nat=>(⟨[(55,.i k),(54,.i N),(13,.sl 10 0 N),(12,.i sent),(11,.ptr 6 0 0),(8,.ptr 1 0 0),(3,.i am),(2,.i t),(1,.i f)],hpS N arcs x (uN p D t k)++[.dead,.dead,.dead,.arr 1 (D.map encI)],0⟩:St)) (fun k=>k≤N) (fun k=>N-k) 0 (yak _) ?_ fun k hk=>?_
   ·unfold hpS wB
    simp -implicitDefEqProofs only [rX,↓reduceIte,Nat.reduceEqDiff,leE,leH,leB,leV,bD,aE,aB,wfE,wfB,wfV,wfL,bY,yai,uN]
   unfold c66l1 hpS wB
   rcases yas k N with hkN|hkN
   ·have hd2:decide ((k:Int)<N)=true:=decide_eq_true (by omega)
    simp -implicitDefEqProofs only [rX,↓rY,aA,cells?,splice,↓reduceIte,Nat.reduceEqDiff,cS,Nat.reduceAdd,leE,leH,leB,leV,bD,aE,aB,wfE,wfB,wfV,wfL,isD,isC,yac,cM,yaa,fJ,hd2]
    have hml:(uN p D t k).length=N:=s6.trans hpl
    have hmk:(uN p D t k)[k]'(by omega)=p.getD k 0:=by
     rw [←cC (by omega),y5 k (by omega),if_neg (Nat.lt_irrefl _)]
    have hDk:D.getD k 0=D[k]'(by omega):=cC (by omega)
    have hpb:=hWx.hb k
    have hKBv:KB=67711795200:=rfl
    have hbk:=Am (hV:=hWx.hV) (hs:=hf) (hn:=hg.nn) hN (fun j=>hWx.hb j) hD.lab hkN
    have hbt:=Am (hV:=hWx.hV) (hs:=hf) (hn:=hg.nn) hN (fun j=>hWx.hb j) hD.lab ht
    have hfv:far=4611686018427387904:=rfl
    have hm1:min D[k] D[t]≤67711795200:=by
     refine yaE (yaA _ _) ?_
     rcases hbt.2 with e|e
     ·exact absurd (hDt.symm.trans e) hfar
     ·rw [hDt] at e;omega
    have hm2:0≤min D[k] D[t]:=by
     rw [hDk] at hbk
     rw [hDt] at hbt
     exact Int.le_min.2 ⟨hbk.1,hbt.1⟩
    have hms:uN p D t (k+1)=(uN p D t k).set k (p.getD k 0+min D[k] D[t]):=by rw [←hDk,←hDt];rfl
    simp only [hmk]
    refine ⟨⟨by omega,by omega⟩,by rw [hml];exact hkN,⟨by omega,by omega⟩,by omega,⟨by omega,by omega⟩,by omega,by simp only [lo,hi];omega,⟨by omega,by omega⟩,by rw [hml];exact hkN,by simp only [lo,hi];omega,k+1,⟨by omega,by omega⟩,by simp,?_,xG⟩
    rw [hms,←mX]
   ·have hd2:decide ((k:Int)<N)=false:=decide_eq_false (by omega)
    have:k=N:=by omega
    subst this
    simp -implicitDefEqProofs only [rX,↓rY,aA,↓reduceIte,Nat.reduceEqDiff,Nat.reduceAdd,hd2]
    obtain ⟨hS1,hR1⟩:=hp13
    generalize uN p D t k=p1 at *
    refine afS hV hN hf ht ham h hS1 hR1 (fun x' s' h1 h2 e b h3=>?_) ?_
    ·simp only [if_pos]
     exact ⟨(s',x',p1),⟨h1,by simp only;have:=h1.s0;omega⟩,h3⟩
    ·unfold hpS wB
     simp -implicitDefEqProofs only [rX,↓reduceIte,Nat.reduceEqDiff,leE,leH,leB,leV,bD,aE,aB,wfE,wfB,wfV,wfL,bY]
 ·have hd:decide (sent<am)=false:=decide_eq_false (by omega)
  simp -implicitDefEqProofs only [rX,↓rY,↓reduceIte,Nat.reduceEqDiff,Nat.reduceAdd,cxN,hd]
  have he:sent=am:=by omega
  subst he
  exact hX (sent,x,p) hg rfl _ _ rfl rfl rfl
theorem adQ (hV:Val N arcs) (hN:N≤64) (hf:f<N) (ht:t<N) (hft:f≠t) (hal:arcs.length≤100) (ham:0≤am∧am≤2199023255552) (htask:Gg N f t am=true) :
  Ok 66 [net N arcs,.i f,.i t,.i am] (R13 N arcs f t am):=by
 refine ok_of lw66 (by simp) ?_
 unfold c66 net
 simp -implicitDefEqProofs only [rX,↓rY,aA,cells?,↓reduceIte,Nat.reduceEqDiff,Nat.reduceAdd,aC,cxN,aN]
 refine aD (ajL N arcs) (by simp [net,aF,aK,aU,bG,wkL,wk,wkR]) rfl trivial ?_
 simp -implicitDefEqProofs only [rX,↓rY,aA,cells?,splice,↓reduceIte,Nat.reduceEqDiff,Nat.reduceAdd,reduceCtorEq,bJ,isC,hV.chk,bne_self_eq_false]
 refine aD (ajK N arcs f t am) (by simp [net,aF,aK,aU,bG,wkL,wk,wkR]) rfl trivial ?_
 simp -implicitDefEqProofs only [rX,↓rY,rdK,↓reduceIte,Nat.reduceEqDiff,Nat.reduceAdd,aC,yaa,htask]
 intro _
 refine ⟨⟨⟨by omega,by omega⟩,by omega,by omega⟩,?_⟩
 have hx0:(yab arcs.length (0:Int)).length=arcs.length:=by simp
 have h27:=ajJ N arcs (yab arcs.length 0) hV
 rw [hx0] at h27
 have e0:yab arcs.length [V.i 0]=(yab arcs.length (0:Int)).map encI:=by simp [encI]
 refine dA [2] [net N arcs,.sl 0 0 arcs.length] (.ptr 4 0 0) (.ptr 6 0 0) [.arr 1 ((yab arcs.length (0:Int)).map encI)] [.arr 1 ((yab arcs.length (0:Int)).map encI),Blk.dead,.arv 1 (iP arcs N),.arr 1 (yab N (encI 0)),wB N arcs.length arcs 0 2 3] _ h27 (by simp) (by simp [blk,bX,cO,ren,pos,encI]) (by simp [net,aF,aK,aU,bG,wkL,wk,wkR,pos]) (by simp) rfl (by simp [ren,cO,back]) (by simp [aE]) ?_
 rw [Gs]
 simp -implicitDefEqProofs only [rX,aA,↓reduceIte,Nat.reduceAdd,wB,bO,bX,cO,ren,cJ,back,List.getElem?_nil,Nat.reduceSub,Nat.reduceAdd]
 refine bA (y8 N arcs f t am) (fun g=>SI N arcs f t am g.2.1 g.2.2 g.1) (fun g=>(am-g.1).toNat) (0,yab arcs.length 0,yab N 0) (SI.init hV hf ht ham.1) ?_ (acE hV hN hf ht hft hal ham ?_)
 ·unfold y8 hpS wB
  simp -implicitDefEqProofs only [rX,↓reduceIte,Nat.reduceEqDiff,reduceCtorEq,leE,leH,leB,leV,bD,aE,aB,wfE,wfB,wfV,wfL,bY]
 ·rintro ⟨sent,x,p⟩ hS he e b g1 g2 g3
  simp only at hS he
  subst he
  have hWx:=hS.wok hV hN x hS.xb
  have hxl:=hS.xb.hl
  have hpl:=hS.pl
  have h29:=adV hWx hS.xb sent [] (yak _)
  have hok:=hS.all hV hN hf ht hft rfl
  generalize hT:d8 arcs x arcs.length=tot at *
  unfold hpS wB
  simp -implicitDefEqProofs only [rX,aA,↓reduceIte,Nat.reduceEqDiff,Nat.reduceAdd,g1,g2]
  refine dA [6,2,4,5] [.ptr 0 0 0,.i sent,.bro 1 []] (.agg [.i sent,.i tot,.sl 1 0 x.length,.sl 3 0 N,.sl 6 0 0]) (.agg [.i sent,.i tot,.sl 2 0 x.length,.sl 5 0 N,.sl 9 0 0]) (wH N arcs x p) (wH N arcs x p++[Blk.dead,Blk.dead,Blk.arr 1 []]) _ h29 (by simp) (by simp [wH,wB,blk,bX,cO,ren,pos,cJ,hxl]) (by simp [aF,aK,aU,bG,wkL,wk,wkR,wkB,blk,pos]) (by simp [wH]) rfl (by simp [ren,cO,back]) (by simp [aE]) ?_
  simp -implicitDefEqProofs only [rX,↓rY,aA,cells?,splice,↓reduceIte,Nat.reduceEqDiff,Nat.reduceAdd,isC,wH,wB,bO,bX,cO,ren,cJ,back,hxl,g3,Nat.reduceAdd]
  rw [fH]
  simp -implicitDefEqProofs only [rX,↓rY,↓reduceIte,Nat.reduceEqDiff,Nat.reduceAdd,aQ,aT,aE,aB,wfV,wfL,g3]
  refine ⟨[.dead,.dead,.arr 1 (x.map encI),.dead,.dead,.arr 1 (p.map encI),.dead,.dead,.dead,.arr 1 []],⟨by simp [leH,leB],by simp [wfV,wfL,aB],by simp [wfB]⟩,_,⟨⟨hok,fun h=>absurd h (yaI _)⟩,hS⟩,⟨_,[.dead,.dead,.dead,.arr 1 []],rfl,rfl,by simp [gvV,blk]⟩,?_⟩
  have e1:yae arcs.length (x.map encI)=x.map encI:=uB hxl
  have e2:yae N (p.map encI)=p.map encI:=uB hpl
  simp [gvV,gvL,wk,wkL,wkR,blk,Fr.enc,li,e1,e2,Dz,hxl,hpl]
theorem ajY (hV:Val N arcs) (hN:N≤64) (hf:f<N) (ht:t<N) (hft:f≠t) (hal:arcs.length≤100) (ham:0≤am∧am≤2199023255552) (htask:Gg N f t am=true) :
  Ok 66 [net N arcs,.i f,.i t,.i am] (IsQ (fun fr=>OkAc N arcs f t am fr∧Tight arcs f am fr) (fun fr=>.tup [fr.enc,.i 0]) (fun _=>[])):=by
 refine ⟨i4 lw66,Uw (R:=R13 N arcs f t am) ?_ fun r hs ⟨fr,h1,_,h2⟩=>⟨_,h2,fr,h1.1,rfl,rfl⟩⟩
 exact (adQ hV hN hf ht hft hal ham htask).2
end
end Go.Fx.P.K
namespace Go.Fx.P
open Go Go.Fx Go.Fx.E Go.Proofs
set_option maxRecDepth 20000
theorem Xd {ps:List aJ} {rs:List Road} (hc:fU ps rs=0) (h1:ps.length≤10) (h2:rs.length≤25):nN ps≤64∧(cE ps rs).length≤100:=by
 have:=xI (ps:=ps) (l:=rs)
 simp only [nN,cE];omega
theorem akR (ps:List aJ) (rs:List Road) (h:ahE ps rs):Ok 29 [bC ps rs] (IsQ (fun fr=>oE ps rs fr∧K.Tight (cE ps rs) 0 (dem ps) fr) (fun fr=>.tup [fr.enc,.i 0]) (fun _=>[])):=by
 obtain ⟨hc,hl,hr⟩:=h
 obtain ⟨⟨_,_⟩,hcap,hv⟩:=gJ hc
 have hV:=Ek hc
 have hb:=Xd hc hl hr
 have hd:0≤dem ps∧dem ps≤10737418240:=by
  have h1:=yE hcap (ofN ps 1 ps.length)
  have h2:=fI (ps:=ps) (kind:=1) (n:=ps.length)
  unfold dem
  omega
 have ht:K.Gg (nN ps) (0:Nat) (1:Nat) (dem ps)=true:=by
  have e:((nN ps:Nat):Int)=2+2*ps.length:=by simp [nN]
  refine decide_eq_true ⟨⟨by omega,by omega⟩,⟨by omega,by omega⟩,by omega,hd.1,by omega⟩
 have e46:=K.ajY (f:=0) (t:=1) (am:=dem ps) hV hb.1 (by simp only [nN];omega) (by simp only [nN];omega) (by omega) hb.2 ⟨hd.1,by omega⟩ ht
 refine ok_of lw29 (by simp) ?_
 unfold c29 bC sps rds
 simp -implicitDefEqProofs only [rX,↓rY,aA,cells?,↓reduceIte,Nat.reduceEqDiff,Nat.reduceAdd,aC,cxN,aN]
 refine aD (adY ps rs) (by simp [bC,sps,rds,aF,aK,aU,bG,wkL,wk,wkR]) rfl trivial ?_
 simp -implicitDefEqProofs only [rX,↓rY,rdK,aA,cells?,splice,↓reduceIte,Nat.reduceEqDiff,Nat.reduceAdd,bJ,isC,hc,bne_self_eq_false]
 refine aD (aaT ps rs (by omega) (by omega) hv) (by simp [bC,sps,rds,aF,aK,aU,bG,wkL,wk,wkR]) rfl trivial ?_
 simp -implicitDefEqProofs only [rX,↓reduceIte,Nat.reduceEqDiff]
 refine aD (aaR ps rs (by omega) hcap) (by simp [bC,sps,rds,aF,aK,aU,bG,wkL,wk,wkR]) rfl trivial ?_
 simp -implicitDefEqProofs only [rX,aA,↓reduceIte,Nat.reduceEqDiff]
 rw [Mq]
 refine fD (fun fr=>K.OkAc (nN ps) (cE ps rs) 0 1 (dem ps) fr∧K.Tight (cE ps rs) 0 (dem ps) fr) [] [] [] [net (nN ps) (cE ps rs),.i 0,.i 1,.i (dem ps)] (fun fr=>.tup [fr.enc,.i 0]) [] (fun _=>[]) e46 ⟨by simp,by simp⟩ ⟨rfl,by simp⟩ rfl (by simp [net,aF,aK,aU,bG,wkL,wk,wkR]) fun fr hfr=>⟨trivial,?_⟩
 simp -implicitDefEqProofs only [rX,↓rY,cells?,splice,↓reduceIte,Nat.reduceEqDiff,Nat.reduceAdd,bP,bF,kill,bU,St.kill,isC,Fr.enc,li,bO,ren,cO]
 refine dV (Q:=fun fr=>oE ps rs fr∧K.Tight (cE ps rs) 0 (dem ps) fr) fr ⟨⟨hc,⟨hl,hr⟩,hfr.1⟩,hfr.2⟩ ?_
 simp -implicitDefEqProofs only [rX,↓rY,↓reduceIte,Nat.reduceEqDiff,Nat.reduceAdd,aQ,aT,leH,aE,wfB,wfV,wfL]
open Classical in
noncomputable def tU (ps:List aJ) (rs:List Road) (fr:Fr):Int:=if fU ps rs≠0 then fU ps rs else K.accI (nN ps) (cE ps rs) 0 1 (dem ps) fr
theorem aeF (ps:List aJ) (rs:List Road) (fr:Fr):Ok 38 [bC ps rs,fr.enc] (Is (.i (tU ps rs fr))):=by
 refine ok_of lw38 (by simp) ?_
 unfold c38 bC sps rds Fr.enc li
 simp -implicitDefEqProofs only [rX,↓rY,aA,cells?,↓reduceIte,Nat.reduceEqDiff,Nat.reduceAdd,reduceCtorEq,aC,cxN,aN]
 refine aD (adY ps rs) (by simp [bC,sps,rds,aF,aK,aU,bG,wkL,wk,wkR]) rfl trivial ?_
 by_cases hc:fU ps rs=0
 ·obtain ⟨⟨hl,hr⟩,hcap,hv⟩:=gJ hc
  have hV:=Ek hc
  have e:((nN ps:Nat):Int)=2+2*ps.length:=by simp [nN]
  simp -implicitDefEqProofs only [rX,↓rY,rdK,aA,↓reduceIte,Nat.reduceEqDiff,Nat.reduceAdd,aQ,aT,wfV,hc,bne_self_eq_false]
  refine aD (aaT ps rs hl hr hv) (by simp [bC,sps,rds,aF,aK,aU,bG,wkL,wk,wkR]) rfl trivial ?_
  simp -implicitDefEqProofs only [rX,↓reduceIte,Nat.reduceEqDiff]
  refine aD (aaR ps rs hl hcap) (by simp [bC,sps,rds,aF,aK,aU,bG,wkL,wk,wkR]) rfl trivial ?_
  simp -implicitDefEqProofs only [rX,aA,↓reduceIte,Nat.reduceEqDiff]
  rw [Mq]
  refine aD (K.ajV (nN ps) (cE ps rs) 0 1 (dem ps) fr hV (by omega) (by omega)) (by simp [net,Fr.enc,li,aF,aK,aU,bG,wkL,wk,wkR]) rfl trivial ?_
  simp -implicitDefEqProofs only [rX,↓reduceIte,aQ,aT,wfV,tU,hc]
  simp
 ·have hb:(fU ps rs != 0)=true:=by simpa using hc
  simp -implicitDefEqProofs only [rX,↓rY,rdK,aA,↓reduceIte,Nat.reduceEqDiff,Nat.reduceAdd,aQ,aT,wfV,hb]
  rw [tU,if_pos hc]
theorem oE.acc0 {ps:List aJ} {rs:List Road} {fr:Fr} (h:oE ps rs fr):tU ps rs fr=0:=by
 rw [tU,if_neg (by simp [h.chk]),K.accI,if_pos h.acc]
end Go.Fx.P
namespace Go.Fx.E
open Go Go.Fx Go.Proofs
set_option maxRecDepth 20000
structure Rf where
 place:Int
 n:Int
 win:Int
 sent:Int
 cut:List Int
 lo:Int
 hi:Int
 serial:Int
 sg:Bs
def Rf.enc (r:Rf):List V:=.i r.place::.i r.n::.i r.win::.i r.sent::P.li r.cut::.i r.lo::.i r.hi::.i r.serial::us r.sg
def partsOf (r:Rf):List Bs:=[lB [r.place,r.n,r.win,r.sent,r.lo,r.hi,r.serial],lB r.cut]
structure Rf.Ok (r:Rf):Prop where
 n7:In64 [r.place,r.n,r.win,r.sent,r.lo,r.hi,r.serial]
 cut:In64 r.cut
 len:r.cut.length≤1000000
theorem tP {cx:Cx} {f:FuncId} {args:List V} {e:Env} {h:List Blk} {b:Nat} {K:V→St→Prop} {xs:List V} {n:Nat} {els:List (List V)} (hC:cx.C f xs [] [] (IsA (.sl 0 0 n) [.arr 1 els])) (h1:aF h (fun _=>none) args∧wkL xs (aU h (fun _=>none) args))
  (keep:aE cx.fx (h++[.arr 1 els])) (h3:K (.sl h.length 0 n) ⟨e,h++[.arr 1 els],b⟩):l6 cx f args ⟨e,h,b⟩ K :=
 dG xs _ _ _ _ hC h1 rfl rfl keep h3
theorem tR {l:Bs} {n:Nat} (h:n=l.length):yae n (l.map by1)=l.map by1:=yam (by rw [List.length_map,h];exact yaq _)
set_option maxHeartbeats 2000000 in
theorem aeD (r:Rf) (hr:r.Ok):Ok 41 [.agg r.enc] (Is (rS (partsOf r))):=by
 refine oY (ok_of lw41 (by simp) ?_)
 unfold c41 Rf.enc
 have o7:=adX [r.place,r.n,r.win,r.sent,r.lo,r.hi,r.serial] hr.n7 (by simp)
 have oc:=adX r.cut hr.cut (by have:=hr.len;omega)
 have t7:=tR (l:=lB [r.place,r.n,r.win,r.sent,r.lo,r.hi,r.serial]) rfl
 have tc:=tR (l:=lB r.cut) rfl
 simp -implicitDefEqProofs only [rX,↓rY,rdK,aA,cells?,↓reduceIte,Nat.reduceEqDiff,Nat.reduceAdd,aC,bZ,isD,Nat.reduceLT,aG,aN]
 have fin:∀ (e:Env) (h:List Blk) (b:Nat),get e 2=.sl 2 0 2→h[2]?=some (.arr 1 [[V.v (Value.string (sb (lB [r.place,r.n,r.win,r.sent,r.lo,r.hi,r.serial])))],[V.v (Value.string (sb (lB r.cut)))]])→eU [] 0 [hJ.tmp 2] (Gv (rS (partsOf r))) ⟨e,h,b⟩ :=
  fun e h b h1 h2=>Eg h1 h2 rfl
 repeat' first
  | exact fin _ _ _ rfl rfl
  | (exact Or.inr trivial)
  | refine And.intro ?_ ?_
  | (refine tP o7 ⟨⟨yaq 7,trivial⟩,⟨rfl,rfl⟩,trivial⟩ trivial ?_
     simp -implicitDefEqProofs only [rX,↓rY,↓reduceIte,Nat.reduceEqDiff,Nat.reduceAdd,aG,t7,f6,vH])
  | (refine tP oc ⟨⟨trivial,trivial⟩,⟨rfl,rfl⟩,trivial⟩ trivial ?_
     simp -implicitDefEqProofs only [rX,↓rY,cells?,↓reduceIte,Nat.reduceEqDiff,Nat.reduceAdd,aC,bZ,isD,Nat.reduceLT,aG,t7,tc,f6,vH])
set_option maxHeartbeats 2000000 in
theorem akH (r:Rf) (hr:r.Ok):Ok 49 [.agg r.enc] (Is (rS (partsOf r))):=by
 refine oY (ok_of lw49 (by simp) ?_)
 unfold c49 Rf.enc
 have o7:=adW [r.place,r.n,r.win,r.sent,r.lo,r.hi,r.serial] hr.n7 (by simp)
 have oc:=adW r.cut hr.cut (by have:=hr.len;omega)
 have t7:=tR (l:=lB [r.place,r.n,r.win,r.sent,r.lo,r.hi,r.serial]) rfl
 have tc:=tR (l:=lB r.cut) rfl
 simp -implicitDefEqProofs only [rX,↓rY,rdK,aA,cells?,↓reduceIte,Nat.reduceEqDiff,Nat.reduceAdd,aC,bZ,isD,Nat.reduceLT,aG,aN]
 have fin:∀ (e:Env) (h:List Blk) (b:Nat),get e 2=.sl 2 0 2→h[2]?=some (.arr 1 [[V.v (Value.string (sb (lB [r.place,r.n,r.win,r.sent,r.lo,r.hi,r.serial])))],[V.v (Value.string (sb (lB r.cut)))]])→eU [] 0 [hJ.tmp 2] (Gv (rS (partsOf r))) ⟨e,h,b⟩ :=
  fun e h b h1 h2=>Eg h1 h2 rfl
 repeat' first
  | exact fin _ _ _ rfl rfl
  | (exact Or.inr trivial)
  | refine And.intro ?_ ?_
  | (refine tP o7 ⟨⟨yaq 7,trivial⟩,⟨rfl,rfl⟩,trivial⟩ trivial ?_
     simp -implicitDefEqProofs only [rX,↓rY,↓reduceIte,Nat.reduceEqDiff,Nat.reduceAdd,aG,t7,f6,vH])
  | (refine tP oc ⟨⟨trivial,trivial⟩,⟨rfl,rfl⟩,trivial⟩ trivial ?_
     simp -implicitDefEqProofs only [rX,↓rY,cells?,↓reduceIte,Nat.reduceEqDiff,Nat.reduceAdd,aC,bZ,isD,Nat.reduceLT,aG,t7,tc,f6,vH])
set_option maxRecDepth 20000
def KyP (k:Ky):Prop:=(1≤k.party∧k.party≤1073741824)∧(1≤k.serial∧k.serial≤1073741824)∧(1≤k.sec.length∧k.sec.length≤64)∧0≤k.fr∧k.fr<k.to∧k.to≤1099511627776
instance (k:Ky):Decidable (KyP k):=by unfold KyP;infer_instance
def kyB (k:Ky):Bool:=decide (KyP k)
theorem oZ {p:Prop} [Decidable p] {t:Bool} (h:t=true↔p):t=decide p:=by rw [yaZ,h];simp
theorem akN (k:Ky):Ok 35 [.agg k.enc] (Is (.b (kyB k))):=by
 refine ok_of lw35 (by simp) ?_
 unfold c35 Ky.enc
 simp -implicitDefEqProofs only [rX,↓rY,aA,cells?,↓reduceIte,Nat.reduceEqDiff,aC,aQ,aT,wfV,fG,aN]
 simp only [br,decide_eq_true_eq,decide_eq_false_iff_not,beq_iff_eq,beq_eq_false_iff_ne]
 have e:∀ t:Bool,(t=true↔KyP k)→t=kyB k:=fun t=>oZ
 simp only [KyP] at e
 repeat' (first|(refine ⟨(0:_),?_⟩)|(refine ⟨by omega,?_⟩)|(refine And.intro ?_ ?_)|(refine (fun _=>?_)))
 all_goals (apply e;first|omega|(simp only [yao,false_iff,decide_eq_true_eq];omega))
theorem akK (k:Ky):Ok 42 [.agg k.enc] (Is (.b (kyB k))):=by
 refine ok_of lw42 (by simp) ?_
 unfold c42 Ky.enc
 simp -implicitDefEqProofs only [rX,↓rY,aA,cells?,↓reduceIte,Nat.reduceEqDiff,aC,aQ,aT,wfV,fG,aN]
 simp only [br,decide_eq_true_eq,decide_eq_false_iff_not,beq_iff_eq,beq_eq_false_iff_ne]
 have e:∀ t:Bool,(t=true↔KyP k)→t=kyB k:=fun t=>oZ
 simp only [KyP] at e
 repeat' (first|(refine ⟨(0:_),?_⟩)|(refine ⟨by omega,?_⟩)|(refine And.intro ?_ ?_)|(refine (fun _=>?_)))
 all_goals (apply e;first|omega|(simp only [yao,false_iff,decide_eq_true_eq];omega))
def PeP (a b:Int):Prop:=0≤a∧a≤b∧b≤1099511627776
instance (a b:Int):Decidable (PeP a b):=by unfold PeP;infer_instance
def peB (a b:Int):Bool:=decide (PeP a b)
theorem akM (a b:Int):Ok 36 [.agg [.i a,.i b]] (Is (.b (peB a b))):=by
 refine ok_of lw36 (by simp) ?_
 unfold c36
 simp -implicitDefEqProofs only [rX,↓rY,aA,cells?,↓reduceIte,Nat.reduceEqDiff,aC,aQ,aT,wfV,aN]
 simp only [br,decide_eq_true_eq,decide_eq_false_iff_not,beq_iff_eq,beq_eq_false_iff_ne]
 have e:∀ t:Bool,(t=true↔PeP a b)→t=peB a b:=fun t=>oZ
 simp only [PeP] at e
 repeat' (first|(refine ⟨(0:_),?_⟩)|(refine ⟨by omega,?_⟩)|(refine And.intro ?_ ?_)|(refine (fun _=>?_)))
 all_goals (apply e;first|omega|(simp only [yao,false_iff,decide_eq_true_eq];omega))
def Ap (a:Int):Bool:=decide (0≤a∧a≤1099511627776)
theorem aeG (a:Int):Ok 37 [.i a] (Is (.b (Ap a))):=by
 refine ok_of lw37 (by simp) ?_
 unfold c37
 simp -implicitDefEqProofs only [rX,↓rY,aA,↓reduceIte,Nat.reduceEqDiff,reduceCtorEq,aQ,aT,wfV,aN]
 simp only [br,decide_eq_true_eq,decide_eq_false_iff_not,beq_iff_eq,beq_eq_false_iff_ne]
 have e:∀ t:Bool,(t=true↔(0≤a∧a≤1099511627776))→t=Ap a:=fun t=>oZ
 repeat' (first|(refine ⟨(0:_),?_⟩)|(refine ⟨by omega,?_⟩)|(refine And.intro ?_ ?_)|(refine (fun _=>?_)))
 all_goals (apply e;first|omega|(simp only [yao,false_iff,decide_eq_true_eq];omega))
theorem akJ (a:Int):Ok 45 [.i a] (Is (.b (Ap a))):=by
 refine ok_of lw45 (by simp) ?_
 unfold c45
 simp -implicitDefEqProofs only [rX,↓rY,aA,↓reduceIte,Nat.reduceEqDiff,reduceCtorEq,aQ,aT,wfV,aN]
 simp only [br,decide_eq_true_eq,decide_eq_false_iff_not,beq_iff_eq,beq_eq_false_iff_ne]
 have e:∀ t:Bool,(t=true↔(0≤a∧a≤1099511627776))→t=Ap a:=fun t=>oZ
 repeat' (first|(refine ⟨(0:_),?_⟩)|(refine ⟨by omega,?_⟩)|(refine And.intro ?_ ?_)|(refine (fun _=>?_)))
 all_goals (apply e;first|omega|(simp only [yao,false_iff,decide_eq_true_eq];omega))
def Li (k:Ky) (a b:Int):Prop:=0≤a∧a≤b∧b≤1099511627776∧k.fr≤a∧b<k.to
instance (k:Ky) (a b:Int):Decidable (Li k a b):=by unfold Li;infer_instance
def Ii (k:Ky) (a b:Int):Bool:=decide (Li k a b)
theorem ajP (k:Ky) (a b:Int):Ok 80 [.agg k.enc,.agg [.i a,.i b]] (Is (.b (Ii k a b))):=by
 refine ok_of lw80 (by simp) ?_
 unfold c80 Ky.enc
 simp -implicitDefEqProofs only [rX,↓rY,aA,cells?,↓reduceIte,Nat.reduceEqDiff,Nat.reduceAdd,reduceCtorEq,aC,aQ,aT,wfV,aN]
 simp only [br,decide_eq_true_eq,decide_eq_false_iff_not,beq_iff_eq,beq_eq_false_iff_ne]
 have e:∀ t:Bool,(t=true↔Li k a b)→t=Ii k a b:=fun t=>oZ
 simp only [Li] at e
 repeat' (first|(refine ⟨(0:_),?_⟩)|(refine ⟨by omega,?_⟩)|(refine And.intro ?_ ?_)|(refine (fun _=>?_)))
 all_goals (apply e;first|omega|(simp only [yao,false_iff,decide_eq_true_eq];omega))
theorem ajN (k:Ky) (a b:Int):Ok 82 [.agg k.enc,.agg [.i a,.i b]] (Is (.b (Ii k a b))):=by
 refine ok_of lw82 (by simp) ?_
 unfold c82 Ky.enc
 simp -implicitDefEqProofs only [rX,↓rY,aA,cells?,↓reduceIte,Nat.reduceEqDiff,Nat.reduceAdd,reduceCtorEq,aC,aQ,aT,wfV,aN]
 simp only [br,decide_eq_true_eq,decide_eq_false_iff_not,beq_iff_eq,beq_eq_false_iff_ne]
 have e:∀ t:Bool,(t=true↔Li k a b)→t=Ii k a b:=fun t=>oZ
 simp only [Li] at e
 repeat' (first|(refine ⟨(0:_),?_⟩)|(refine ⟨by omega,?_⟩)|(refine And.intro ?_ ?_)|(refine (fun _=>?_)))
 all_goals (apply e;first|omega|(simp only [yao,false_iff,decide_eq_true_eq];omega))
def oP (a b:Ky):Prop:=a.party<b.party∨(a.party=b.party∧a.serial<b.serial)
instance (a b:Ky):Decidable (oP a b):=by unfold oP;infer_instance
def acF (a b:Ky):Bool:=decide (oP a b)
theorem akG (a b:Ky):Ok 50 [.agg a.enc,.agg b.enc] (Is (.b (acF a b))):=by
 refine ok_of lw50 (by simp) ?_
 unfold c50 Ky.enc
 simp -implicitDefEqProofs only [rX,↓rY,aA,cells?,↓reduceIte,Nat.reduceEqDiff,Nat.reduceAdd,reduceCtorEq,aC,aQ,aT,wfV,aN]
 simp only [br,decide_eq_true_eq,decide_eq_false_iff_not,beq_iff_eq,beq_eq_false_iff_ne]
 have e:∀ t:Bool,(t=true↔oP a b)→t=acF a b:=fun t=>oZ
 simp only [oP] at e
 repeat' (first|(refine ⟨(0:_),?_⟩)|(refine ⟨by omega,?_⟩)|(refine And.intro ?_ ?_)|(refine (fun _=>?_)))
 all_goals (apply e;first|omega|(simp only [yao,false_iff,true_iff,decide_eq_true_eq];omega))
set_option maxRecDepth 20000
def w8 (k:Ky) (p s:Int):Int:=if k.party=p then IntKind.i64.wrap (k.serial-s) else IntKind.i64.wrap (k.party-p)
theorem Yl (k:Ky) (p s:Int):OkN Tryz.prog 137 [.agg k.enc,.i p,.ptr 0 0 0] [.var [.i s]] [] (IsA (.i (w8 k p s)) [.var [.i s]]):=by
 refine eV pol [0] lw137 (by simp) ⟨trivial,trivial⟩ (by simp) ?_
 unfold c137 Ky.enc
 simp -implicitDefEqProofs only [rX,↓rY,aA,cells?,↓reduceIte,Nat.reduceEqDiff,Nat.reduceAdd,reduceCtorEq,aC,aQ,aT,leH,leB,leV,bD,aE,aB,wfB,wfV,wfL,aN,cA,w8]
 simp only [br,bne_iff_ne,bne_eq_false_iff_eq,ne_eq]
 refine ⟨fun h=>by rw [if_neg h],fun h=>by rw [if_pos h]⟩
structure pM (l:List Ky):Prop where
 ok:∀ k∈l,KyP k
 ord:l.Pairwise oP
def ltK (k:Ky) (p s:Int):Prop:=k.party<p∨(k.party=p∧k.serial<s)
theorem Pv {x:Int} (h:-18446744073709551616<x∧x<18446744073709551616):IntKind.i64.wrap x=0↔x=0:=by
 simp [IntKind.wrap,IntKind.bits,IntKind.signed];omega
def PS (p s:Int):Prop:=(0≤p∧p≤1099511627776)∧-9223372036854775808≤s∧s≤9223372036854775807
theorem Uc {k:Ky} {p s:Int} (hk:KyP k) (h:PS p s):w8 k p s=0↔(k.party=p∧k.serial=s):=by
 obtain ⟨h1,h2,_⟩:=hk
 obtain ⟨h3,h4⟩:=h
 unfold w8
 split
 ·rename_i e;rw [Pv (by omega)];omega
 ·rename_i e;rw [Pv (by omega)];omega
theorem Ni {k:Ky} {p s:Int} (hk:KyP k) (h:PS p s) (hs:1≤s):w8 k p s<0↔ltK k p s:=by
 obtain ⟨h1,h2,_⟩:=hk
 obtain ⟨h3,h4⟩:=h
 unfold w8 ltK
 split
 ·rename_i e;rw [dH .i64 _ (by simp only [lo,Fx.hi];omega)];omega
 ·rename_i e;rw [dH .i64 _ (by simp only [lo,Fx.hi];omega)];omega
theorem sh_r {k:IntKind} {a c:Int} {K:V→Prop}:bW .shr k a c K=(0≤c∧K (.v (.int k (a.fdiv (2 ^ (min c.toNat k.bits)))))):=rfl
structure Fnd (l:List Ky) (p s:Int) (g:Nat × Bool):Prop where
 le:g.1≤l.length
 y:g.2=true→∃ h:g.1<l.length,l[g.1].party=p∧l[g.1].serial=s
 n:g.2=false→∀ k∈l,¬(k.party=p∧k.serial=s)
theorem aeT (l:List Ky) (p s:Int) (hR:pM l) (hl:l.length≤1000000) (hps:PS p s):OkN Tryz.prog 136 [.bro 5 (l.map Ky.enc),.i p,.clo 137 [.ptr 0 0 0]] [.var [.i s]] [] (IsQ (Fnd l p s) (fun g=>.tup [.i g.1,.b g.2]) (fun _=>[.var [.i s]])):=by
 refine eV pol [0] lw136 (by simp) ⟨trivial,trivial⟩ (by simp) ?_
 unfold c136
 simp -implicitDefEqProofs only [rX,↓rY,aA,↓reduceIte,Nat.reduceEqDiff,Nat.reduceAdd,reduceCtorEq,aG,aN]
 intro hmx
 have hp:=yax.1 hR.ord
 refine bN (fun g:Nat × Nat=>(⟨[(10,.i g.2),(9,.i g.1),(8,.i l.length),(2,.clo 137 [.ptr 0 0 0]),(1,.i p),(0,.bro 5 (l.map Ky.enc))],[.var [.i s]],1⟩:St)) (fun g=>(g.1≤g.2∧g.2≤l.length)∧(1≤s→∀ j (h:j<l.length),j<g.1→ltK l[j] p s)∧(1≤s→∀ j (h:j<l.length),g.2≤j→¬ltK l[j] p s)) (fun g=>g.2-g.1) (0,l.length) ⟨⟨by simp,by simp⟩,fun _ j _ h=>by simp at h,fun _ j h h2=>by simp at h2;omega⟩ ?_ ?_
 ·simp -implicitDefEqProofs only [rX,↓reduceIte,Nat.reduceEqDiff,reduceCtorEq,leE,leH,leB,leV,bD,aE,aB,wfE,wfB,wfV,wfL,yai]
 rintro ⟨i,j⟩ ⟨⟨hij,hj⟩,h1,h2⟩ N hN
 simp only at hij hj h1 h2
 unfold c136l0
 rcases yas i j with c|c
 ·have hd:decide ((i:Int)<(j:Int))=true:=decide_eq_true (by omega)
  have hw:IntKind.wrap .u64 ((i:Int)+(j:Int))=((i+j:Nat):Int):=by rw [dH .u64 _ (by simp only [lo,Fx.hi];omega)];omega
  have hdv:((i+j:Nat):Int).fdiv (2 ^ (min (yaj 1) IntKind.u64.bits))=(((i+j)/2:Nat):Int):=by
   rw [show min (yaj 1) IntKind.u64.bits=1 from rfl]
   rw [ybc _ (by decide)]
   omega
  have hw2:IntKind.wrap .i64 (((i+j)/2:Nat):Int)=(((i+j)/2:Nat):Int):=dH .i64 _ (by simp only [lo,Fx.hi];omega)
  have hk:(i+j)/2<l.length:=by omega
  have hkP:=hR.ok _ (yad hk)
  simp -implicitDefEqProofs only [rX,↓rY,aA,↓reduceIte,Nat.reduceEqDiff,reduceCtorEq,yac,yaa,hd,hw,hdv,hw2,↓sh_r,yah hk,o9,lX]
  refine ⟨by simp only [lo,Fx.hi];omega,by omega,⟨by omega,by omega⟩,hk,?_⟩
  refine dA [0] [.agg l[(i+j)/2].enc,.i p,.ptr 0 0 0] (.i (w8 l[(i+j)/2] p s)) (.i (w8 l[(i+j)/2] p s)) [.var [.i s]] [.var [.i s]] _ (Yl l[(i+j)/2] p s) (by simp [aM]) rfl (by simp [aF,aK,aU,bG,wkL,wk,wkR,pos,Ky.enc]) (by simp) rfl rfl ⟨trivial,trivial⟩ ?_
  cases h4:decide (w8 l[(i+j)/2] p s<0) with
  | true =>
   have h4':=of_decide_eq_true h4
   simp -implicitDefEqProofs only [rX,↓rY,aA,↓reduceIte,Nat.reduceEqDiff,h4,bO,bX,cO,ren]
   refine ⟨by simp only [lo,Fx.hi];omega,hN _ ((i+j)/2+1,j) ⟨⟨by simp only;omega,hj⟩,fun hs q hk2 hlt=>?_,h2⟩ (by simp only;omega) (by simp -implicitDefEqProofs only [rX,↓reduceIte,Nat.reduceEqDiff,reduceCtorEq,leE,leH,leB,leV,bD,aE,aB,wfE,wfB,wfV,wfL];simp)⟩
   simp only at hlt
   have h3:=(Ni hkP hps hs).1 h4'
   by_cases e:q=(i+j)/2
   ·subst e;exact h3
   ·have:=hp q ((i+j)/2) hk2 hk (by omega)
    unfold oP at this
    unfold ltK at h3 ⊢
    omega
  | false =>
   have h4':=of_decide_eq_false h4
   simp -implicitDefEqProofs only [rX,↓rY,aA,↓reduceIte,Nat.reduceEqDiff,h4,bO,bX,cO,ren]
   refine hN _ (i,(i+j)/2) ⟨⟨by simp only;omega,by simp only;omega⟩,h1,fun hs q hk2 hlt hlk=>?_⟩ (by simp only;omega) (by simp -implicitDefEqProofs only [rX,↓reduceIte,Nat.reduceEqDiff,reduceCtorEq,leE,leH,leB,leV,bD,aE,aB,wfE,wfB,wfV,wfL])
   simp only at hlt
   have h3:¬ltK l[(i+j)/2] p s:=fun h=>h4' ((Ni hkP hps hs).2 h)
   by_cases e:q=(i+j)/2
   ·subst e;exact h3 hlk
   ·have:=hp ((i+j)/2) q hk hk2 (by omega)
    unfold oP at this
    unfold ltK at h3 hlk
    omega
 ·have hd:decide ((i:Int)<(j:Int))=false:=decide_eq_false (by omega)
  have he:i=j:=by omega
  subst he
  have none:∀ q (hq:q<l.length),q≠i→¬(l[q].party=p∧l[q].serial=s):=by
   intro q hq hqi hm
   have hqP:=hR.ok _ (yad hq)
   have hs:1≤s:=by have:=hqP.2.1;omega
   rcases yas q i with d|d
   ·have:=h1 hs q hq d
    unfold ltK at this
    omega
   ·have hi:i<l.length:=by omega
    have h5:=h2 hs i hi (yaq _)
    have:=hp i q hi hq (by omega)
    unfold oP at this
    unfold ltK at h5
    omega
  rcases yas i l.length with c2|c2
  ·have hd2:decide ((i:Int)<(l.length:Int))=true:=decide_eq_true (by omega)
   have hiP:=hR.ok _ (yad c2)
   simp -implicitDefEqProofs only [rX,↓rY,↓reduceIte,Nat.reduceEqDiff,reduceCtorEq,yac,yaa,hd,hd2,yah c2,o9,lX]
   refine ⟨⟨by omega,by omega⟩,c2,?_⟩
   refine dA [0] [.agg l[i].enc,.i p,.ptr 0 0 0] (.i (w8 l[i] p s)) (.i (w8 l[i] p s)) [.var [.i s]] [.var [.i s]] _ (Yl l[i] p s) (by simp [aM]) rfl (by simp [aF,aK,aU,bG,wkL,wk,wkR,pos,Ky.enc]) (by simp) rfl rfl ⟨trivial,trivial⟩ ?_
   simp -implicitDefEqProofs only [rX,↓rY,aA,↓reduceIte,Nat.reduceEqDiff,bO,bX,cO,ren]
   refine dV (Q:=Fnd l p s) (i,w8 l[i] p s==0) ⟨by omega,fun h=>⟨c2,(Uc hiP hps).1 (by simpa using h)⟩,fun h k hk hm=>?_⟩ ?_
   ·obtain ⟨q,hq,rfl⟩:=yan hk
    by_cases e:q=i
    ·subst e
     have:=(Uc hiP hps).2 hm
     simp [this] at h
    ·exact none q hq e hm
   ·simp -implicitDefEqProofs only [rX,↓reduceIte,Nat.reduceEqDiff,aQ,aT,leH,leB,leV,bD,aE,aB,wfB,wfV,wfL]
  ·have hd2:decide ((i:Int)<(l.length:Int))=false:=decide_eq_false (by omega)
   simp -implicitDefEqProofs only [rX,↓rY,aA,↓reduceIte,Nat.reduceEqDiff,hd,hd2]
   refine dV (Q:=Fnd l p s) (i,false) ⟨by omega,(fun h=>by cases h),fun h k hk hm=>?_⟩ ?_
   ·obtain ⟨q,hq,rfl⟩:=yan hk
    exact none q hq (by omega) hm
   ·simp -implicitDefEqProofs only [rX,↓reduceIte,Nat.reduceEqDiff,aQ,aT,leH,leB,leV,bD,aE,aB,wfB,wfV,wfL]
set_option maxRecDepth 20000
def bK (l:List Ky):V:=.bro 5 (l.map Ky.enc)
theorem afD (l:List Ky) (p s:Int) (hR:pM l) (hl:l.length≤1000000) (hps:PS p s):Ok 109 [bK l,.i p,.i s] (IsQ (Fnd l p s) (fun g=>.tup [.i g.1,.b g.2]) (fun _=>[.var [.i s]])):=by
 refine ok_of lw109 (by simp) ?_
 unfold c109 bK
 simp -implicitDefEqProofs only [rX,↓rY,aA,cells?,↓reduceIte,Nat.reduceEqDiff,Nat.reduceAdd,reduceCtorEq,aC,aN]
 refine fD (Fnd l p s) [0] [] [] [.bro 5 (l.map Ky.enc),.i p,.clo 137 [.ptr 0 0 0]] (fun g=>.tup [.i g.1,.b g.2]) [.var [.i s]] (fun _=>[.var [.i s]]) (aeT l p s hR hl hps) ⟨by simp,by simp [aM]⟩ ⟨rfl,by simp⟩ rfl (by simp [aF,aK,aU,bG,wkL,wk,wkR,wkB,pos]) ?_
 intro g hg
 simp -implicitDefEqProofs only [rX,↓rY,↓reduceIte,Nat.reduceEqDiff,bP,bF,kill,bU,St.kill,aG,Yy,bO,bX,cO,ren]
 refine dV (Q:=Fnd l p s) g hg ?_
 simp -implicitDefEqProofs only [rX,↓reduceIte,Nat.reduceEqDiff,aQ,aT,leH,leB,leV,bD,aE,wfB,wfV,wfL,Nat.reduceLeDiff]
def iW (l:List Ky) (p s:Int):Option Ky:=l.find? fun k=>decide (k.party=p∧k.serial=s)
def zKy:Ky:=⟨0,0,[],0,0⟩
theorem Km {l:List Ky} {p s:Int} (hR:pM l) {i:Nat} (hi:i<l.length) (h:l[i].party=p∧l[i].serial=s):iW l p s=some l[i]:=by
 unfold iW
 rw [ybe]
 refine ⟨by simpa using h,i,hi,rfl,fun j hj=>?_⟩
 have:=yax.1 hR.ord j i (by omega) hi hj
 unfold oP at this
 have hn:¬(l[j].party=p∧l[j].serial=s):=by omega
 simp only [decide_eq_false hn,yaY]
theorem Aw {l:List Ky} {p s:Int} (h:∀ k∈l,¬(k.party=p∧k.serial=s)):iW l p s=none:=by
 unfold iW
 rw [List.find?_eq_none]
 intro k hk
 have:=h k hk
 simpa using this
theorem afU {q:List Blk} {k:Ky}:wfL q k.enc:=⟨trivial,trivial,trivial,trivial,trivial,trivial⟩
theorem ajQ (l:List Ky) (p s:Int) (hR:pM l) (hl:l.length≤1000000) (hps:PS p s):Ok 79 [bK l,.i p,.i s] (Is (.tup [.agg ((iW l p s).getD zKy).enc,.i (if (iW l p s).isSome then 0 else 5)])):=by
 refine ok_of lw79 (by simp) ?_
 unfold c79
 simp -implicitDefEqProofs only [rX,↓rY,aA,cells?,↓reduceIte,Nat.reduceEqDiff,Nat.reduceAdd,reduceCtorEq,aC,aN]
 refine fD (Fnd l p s) [] [] [] [bK l,.i p,.i s] (fun g=>.tup [.i g.1,.b g.2]) [] (fun _=>[.var [.i s]]) (afD l p s hR hl hps) ⟨by simp,by simp⟩ ⟨rfl,by simp⟩ rfl (by simp [aF,aK,aU,bG,wkL,wk,wkR,wkB,bK]) ?_
 rintro ⟨i,t⟩ hg
 simp -implicitDefEqProofs only [rX,↓rY,aA,cells?,splice,↓reduceIte,Nat.reduceEqDiff,Nat.reduceAdd,reduceCtorEq,bJ,aQ,aT,wfV,wfL,bP,bF,kill,bU,St.kill,isC,aM,aG,Yy,bO,bX,cO,ren]
 have hle:=hg.le
 simp only at hle
 cases t with
 | true =>
  obtain ⟨h1,h2⟩:=hg.y rfl
  simp only at h1 h2
  simp -implicitDefEqProofs only [rX,↓rY,kill,St.kill,yac,yaa,bK,yah h1,o9,lX,afV]
  rw [Km hR h1 h2]
  exact ⟨⟨by omega,by omega⟩,h1,afU,rfl⟩
 | false =>
  have h2:=hg.n rfl
  simp -implicitDefEqProofs only [↓rY]
  rw [Aw h2]
  rfl
structure NoK (l:List Ky) (p s:Int) (n:Nat):Prop where
 le:n≤l.length
 no:∀ j (h:j<l.length),j<n→¬(l[j].party=p∧l[j].serial=s)
theorem NoK.next {l:List Ky} {p s:Int} {n:Nat} (h:NoK l p s n) (hn:n<l.length) (hx:¬(l[n].party=p∧l[n].serial=s)):NoK l p s (n+1):=⟨by omega,fun j hj hlt=>by
 by_cases e:j=n
 ·subst e;exact hx
 ·exact h.no j hj (by omega)⟩
theorem NoK.find {l:List Ky} {p s:Int} {n:Nat} (h:NoK l p s n) (hn:n<l.length) (hx:l[n].party=p∧l[n].serial=s):iW l p s=some l[n]:=by
 unfold iW
 rw [ybe]
 refine ⟨by simpa using hx,n,hn,rfl,fun j hj=>?_⟩
 simp only [decide_eq_false (h.no j (by omega) hj),yaY]
theorem NoK.none {l:List Ky} {p s:Int} (h:NoK l p s l.length):iW l p s=none:=Aw fun k hk=>by
 obtain ⟨j,hj,rfl⟩:=yan hk
 exact h.no j hj hj
theorem ajO (l:List Ky) (p s:Int) (hl:l.length≤1000000):Ok 81 [bK l,.i p,.i s] (Is (.agg (((iW l p s).getD zKy).enc++[.i (if (iW l p s).isSome then 0 else 5)]))):=by
 refine ok_of lw81 (by simp) ?_
 unfold c81
 simp -implicitDefEqProofs only [rX,↓rY,aA,cells?,Nat.reduceAdd,aC,aG,aN]
 refine bN (fun n:Nat=>(⟨[(7,.i n),(6,.ptr 0 0 0),(2,.i s),(1,.i p),(0,bK l)],[.var [.i 0,.i 0,.v (.string ⟨#[]⟩),.i 0,.i 0,.i 0]],1⟩:St)) (NoK l p s) (fun n=>l.length-n) 0 ⟨yak _,fun j _ h=>by omega⟩ ?_ ?_
 ·exact ⟨by simp -implicitDefEqProofs only [rX,↓reduceIte,Nat.reduceEqDiff,reduceCtorEq,leE];rfl,aV _,trivial,by simp -implicitDefEqProofs only [rX,aB,wfE,wfV,bK],by simp -implicitDefEqProofs only [rX,wfB,wfV,wfL]⟩
 intro n hI N hN
 have hle:=hI.le
 simp only [c81l0]
 simp -implicitDefEqProofs only [rX,↓rY,aA,cells?,splice,↓reduceIte,Nat.reduceEqDiff,Nat.reduceAdd,reduceCtorEq,bJ,aQ,aT,wfV,wfL,isC,Nat.reduceLeDiff,yac,yaa,aM,bK]
 intro _
 cases h1:decide ((n:Int)<(l.length:Int)) with
 | true =>
  have h1':=of_decide_eq_true h1
  have hn:n<l.length:=by omega
  simp -implicitDefEqProofs only [rX,↓rY,Nat.reduceAdd,yah hn,o9,lX,akZ,akY]
  simp only [br,beq_iff_eq,beq_eq_false_iff_ne,ne_eq]
  have b1:0≤(n:Int)∧(n:Int)<(l.length:Int):=by omega
  have b2:lo .i64≤(n:Int)+1∧(n:Int)+1≤Fx.hi .i64:=⟨by simp only [lo];omega,by simp only [Fx.hi];omega⟩
  refine ⟨b1,hn,fun h2=>⟨b1,hn,fun h3=>?_,fun h3=>⟨b2,hN _ (n+1) (hI.next hn fun h=>h3 h.2) (by omega) ?_⟩⟩,fun h2=>⟨b2,hN _ (n+1) (hI.next hn fun h=>h2 h.1) (by omega) ?_⟩⟩
  ·rw [hI.find hn ⟨h2,h3⟩]
   exact ⟨b1,hn,rfl,⟨trivial,trivial,trivial,trivial,trivial,trivial,trivial⟩,rfl⟩
  ·exact ⟨by simp -implicitDefEqProofs only [rX,↓reduceIte,Nat.reduceEqDiff,reduceCtorEq,leE];simp [bK],aV _,trivial,by simp -implicitDefEqProofs only [rX,aB,wfE,wfV,bK],by simp -implicitDefEqProofs only [rX,wfB,wfV,wfL]⟩
  ·exact ⟨by simp -implicitDefEqProofs only [rX,↓reduceIte,Nat.reduceEqDiff,reduceCtorEq,leE];simp [bK],aV _,trivial,by simp -implicitDefEqProofs only [rX,aB,wfE,wfV,bK],by simp -implicitDefEqProofs only [rX,wfB,wfV,wfL]⟩
 | false =>
  have h1':=of_decide_eq_false h1
  have:n=l.length:=by omega
  subst this
  simp -implicitDefEqProofs only [↓rY]
  rw [hI.none]
  rfl
set_option maxRecDepth 20000
theorem Tm {a b:UInt8} {K:Bool→Prop}:eqC (.int .u8) (some (u8 a)) (some (u8 b)) K=K (a==b):=by
 have e:eqK (.int .u8 a.toNat) (.int .u8 b.toNat)=(a==b):=by
  show ((a.toNat:Int)==(b.toNat:Int))=(a==b)
  by_cases h:a=b
  ·subst h;simp
  ·have h2:a.toNat≠b.toNat:=fun h3=>h (UInt8.toNat_inj.1 h3)
   have h3:(a==b)=false:=by simpa using h
   rw [h3];simp;omega
 show ((_∧_)∧K (eqK _ _))=_
 rw [e]
 exact propext ⟨fun h=>h.2,fun h=>⟨⟨rfl,rfl⟩,h⟩⟩
theorem Ba {l1 l2:Bs} {xs ys:List V} (hx:∀ i (h:i<l1.length),xs[i]?=some (u8 l1[i])) (hy:∀ i (h:i<l2.length),ys[i]?=some (u8 l2[i])):∀ {m a:Nat} {K:Bool→Prop},a+m≤l1.length→a+m≤l2.length →
  gS xs ys ((List.range' a m).map fun i=>(i,.int .u8)) K=K ((l1.drop a).take m==(l2.drop a).take m)
 | 0,a,K,_,_=>by simp [gS]
 | m+1,a,K,h1,h2=>by
  rw [List.range'_succ,List.map_cons,gS,hx a (by omega),hy a (by omega),Tm,Ba hx hy (by omega) (by omega),ybf (show a<l1.length by omega),ybf (show a<l2.length by omega),ybg,ybg]
  rfl
theorem Yc {l:Bs} {i:Nat} (h:i<l.length):(us l)[i]?=some (u8 l[i]):=by
 rw [Qb h];unfold bn;rw [yag,yah h];rfl
theorem Tn {a b:Bs} (ha:a.length=16) (hb:b.length=16) {K:Bool→Prop}:(dT (xA (.agg (us a))) fun xs=>dT (xA (.agg (us b))) fun ys=>gS xs ys ((List.range' 0 16).map fun i=>(i,.int .u8)) K)=K (a==b):=by
 show gS (us a) (us b) _ K=_
 rw [Ba (fun i h=>Yc h) (fun i h=>Yc h) (by omega) (by omega)]
 simp only [List.drop_zero]
 rw [yam (by omega),yam (by omega)]
def Kr (l:List Ky) (p s tag:Int) (ps:List Bs) (sg:Bs) (a b:Int):Int :=
 match iW l p s with
 | none=>5
 | some k=>if Ii k a b=false then 9 else if iO k tag ps=sg then 0 else 8
theorem De {l:List Ky} {p s:Int} {k:Ky} (h:iW l p s=some k):k∈l:=List.mem_of_find?_eq_some h
theorem dJ {h:List Blk} {g:Nat→Option Nat} {k:Ky}:aK h g (.agg k.enc)∧wk (.agg k.enc) (bG h g (.agg k.enc)):=⟨⟨trivial,trivial,trivial,trivial,trivial,trivial⟩,⟨rfl,rfl,rfl,rfl,rfl,trivial⟩⟩
theorem afK:((5:Int) != 0)=true:=rfl
set_option maxHeartbeats 1000000 in
theorem akD (l:List Ky) (p s tag:Int) (ps:List Bs) (sg:Bs) (a b:Int) (hR:pM l) (hl:l.length≤1000000) (hps:PS p s) (hsg:sg.length=16) (hS:∀ k∈l,Up k ps):Ok 58 [bK l,.i p,.i s,.i tag,rS ps,.agg (us sg),.agg [.i a,.i b]] (Is (.i (Kr l p s tag ps sg a b))):=by
 refine ok_of lw58 (by simp) ?_
 unfold c58
 obtain ⟨u1,u2,u3⟩:=Dw hsg
 have o79:=ajQ l p s hR hl hps
 simp -implicitDefEqProofs only [rX,↓rY,aA,cells?,↓reduceIte,Nat.reduceEqDiff,Nat.reduceAdd,reduceCtorEq,aC,aN]
 unfold Kr
 cases hf:iW l p s with
 | none =>
  rw [hf] at o79
  refine aD o79 (by simp [aF,aK,aU,bG,wkL,wk,wkR,wkB,bK]) rfl trivial ?_
  simp -implicitDefEqProofs only [rX,↓rY,aA,cells?,splice,↓reduceIte,Nat.reduceEqDiff,Nat.reduceAdd,aC,aQ,aT,wfV,isC,aM,Ky.enc,zKy,Option.isSome_none,afK]
 | some k =>
  rw [hf] at o79
  have hk:=hS k (De hf)
  refine aD o79 (by simp [aF,aK,aU,bG,wkL,wk,wkR,wkB,bK]) rfl trivial ?_
  simp -implicitDefEqProofs only [rX,↓rY,aA,cells?,splice,↓reduceIte,Nat.reduceEqDiff,Nat.reduceAdd,aC,aQ,aT,wfV,aM,o9,lX,afV,Option.isSome_some,bne_self_eq_false]
  refine aD (ajP k a b) ⟨⟨dJ.1,⟨trivial,trivial,trivial⟩,trivial⟩,dJ.2,⟨rfl,rfl,trivial⟩,trivial⟩ rfl trivial ?_
  cases hc:Ii k a b with
  | false=>simp -implicitDefEqProofs only [rX,↓rY,aA,↓reduceIte,Nat.reduceAdd,aQ,aT,wfV]
  | true =>
   simp -implicitDefEqProofs only [rX,↓rY,rdK,↓reduceIte,Nat.reduceEqDiff,Nat.reduceAdd,reduceCtorEq,aG,o9,lX,u1,u2]
   refine aD (aeE k tag ps hk) ⟨⟨dJ.1,trivial,trivial,trivial⟩,dJ.2,rfl,⟨rfl,rfl⟩,trivial⟩ (by simp [ren,gB]) trivial ?_
   simp -implicitDefEqProofs only [rX,aA,↓reduceIte,Nat.reduceEqDiff,Nat.reduceAdd,aQ,aT,wfV,↓Tn (dK (k:=k) (tag:=tag) (l:=ps)) hsg]
   by_cases hq:iO k tag ps=sg
   ·rw [hq,beq_self_eq_true,if_pos rfl];exact ⟨(fun h=>by cases h),fun _=>rfl⟩
   ·rw [if_neg hq,beq_eq_false_iff_ne.2 hq];exact ⟨fun _=>rfl,(fun h=>by cases h)⟩
set_option maxHeartbeats 1000000 in
theorem akC (l:List Ky) (p s tag:Int) (ps:List Bs) (sg:Bs) (a b:Int) (hl:l.length≤1000000) (hsg:sg.length=16) (hS:∀ k∈l,Up k ps):Ok 59 [bK l,.i p,.i s,.i tag,bS ps,.agg (us sg),.agg [.i a,.i b]] (Is (.i (Kr l p s tag ps sg a b))):=by
 refine ok_of lw59 (by simp) ?_
 unfold c59
 obtain ⟨u1,u2,u3⟩:=Dw hsg
 have o81:=ajO l p s hl
 simp -implicitDefEqProofs only [rX,↓rY,aA,cells?,↓reduceIte,Nat.reduceEqDiff,Nat.reduceAdd,reduceCtorEq,aC,aN]
 unfold Kr
 cases hf:iW l p s with
 | none =>
  rw [hf] at o81
  refine aD o81 (by simp [aF,aK,aU,bG,wkL,wk,wkR,wkB,bK]) rfl trivial ?_
  simp -implicitDefEqProofs only [rX,↓rY,aA,cells?,splice,↓reduceIte,Nat.reduceEqDiff,Nat.reduceAdd,aC,aQ,aT,wfV,isC,aM,Ky.enc,zKy,Option.isSome_none,afK]
 | some k =>
  rw [hf] at o81
  have hk:=hS k (De hf)
  refine aD o81 (by simp [aF,aK,aU,bG,wkL,wk,wkR,wkB,bK]) rfl trivial ?_
  have k6:∀ x:V,(k.enc++[x]).length=6∧yae 6 (k.enc++[x])=k.enc++[x]∧yae 5 (k.enc++[x])=k.enc∧(k.enc++[x])[5]?=some x:=fun x=>⟨rfl,rfl,rfl,rfl⟩
  have k7:(k.enc++[V.i 0]).all isC=true:=rfl
  simp -implicitDefEqProofs only [rX,↓rY,aA,cells?,splice,↓reduceIte,Nat.reduceEqDiff,Nat.reduceAdd,aC,aQ,aT,wfV,Nat.reduceLeDiff,aM,k6,k7,Option.isSome_some,bne_self_eq_false]
  refine aD (ajN k a b) ⟨⟨dJ.1,⟨trivial,trivial,trivial⟩,trivial⟩,dJ.2,⟨rfl,rfl,trivial⟩,trivial⟩ rfl trivial ?_
  cases hc:Ii k a b with
  | false=>simp -implicitDefEqProofs only [rX,↓rY,aA,↓reduceIte,Nat.reduceAdd,aQ,aT,wfV]
  | true =>
   simp -implicitDefEqProofs only [rX,↓rY,rdK,↓reduceIte,Nat.reduceEqDiff,Nat.reduceAdd,reduceCtorEq,Nat.reduceLeDiff,aG,k6,u1,u2]
   refine aD (akI k tag ps hk) ⟨⟨dJ.1,trivial,trivial,trivial⟩,dJ.2,rfl,⟨rfl,rfl⟩,trivial⟩ (by simp [ren,gB]) trivial ?_
   simp -implicitDefEqProofs only [rX,aA,↓reduceIte,Nat.reduceEqDiff,Nat.reduceAdd,aQ,aT,wfV,↓Tn (dK (k:=k) (tag:=tag) (l:=ps)) hsg]
   by_cases hq:iO k tag ps=sg
   ·rw [hq,beq_self_eq_true,if_pos rfl];exact ⟨(fun h=>by cases h),fun _=>rfl⟩
   ·rw [if_neg hq,beq_eq_false_iff_ne.2 hq];exact ⟨fun _=>rfl,(fun h=>by cases h)⟩
def sU (l:List Ky):Bool:=decide (∀ k∈l,KyP k)&&decide (l.Pairwise oP)&&decide (l.length≤1000)
theorem Vy {l:List Ky} (h:sU l=true):pM l∧l.length≤1000:=by
 unfold sU at h
 simp only [Bool.and_eq_true,decide_eq_true_eq] at h
 exact ⟨⟨h.1.1,h.1.2⟩,h.2⟩
structure RgI (l:List Ky) (n:Nat):Prop where
 le:n≤l.length
 ok:∀ j (h:j<l.length),j<n→KyP l[j]
 ord:∀ j (h:j+1<l.length),j+1<n→oP l[j] l[j+1]
theorem Pi {a b c:Ky} (h1:oP a b) (h2:oP b c):oP a c:=by unfold oP at *;omega
theorem RgI.all {l:List Ky} (h:RgI l l.length):pM l:=by
 refine ⟨fun k hk=>?_,yax.2 fun i j hi hj hij=>?_⟩
 ·obtain ⟨j,hj,rfl⟩:=yan hk
  exact h.ok j hj hj
 ·obtain ⟨d,rfl⟩:∃ d,j=i+1+d:=⟨j-(i+1),by omega⟩
  induction d with
  | zero=>exact h.ord i (by omega) (by omega)
  | succ d ih=>exact Pi (ih (by omega) (by omega)) (h.ord (i+1+d) (by omega) (by omega))
theorem Qy {l:List Ky} {n:Nat} (hn:n<l.length) (h:¬KyP l[n]):false=sU l:=by
 have:¬∀ k∈l,KyP k:=fun q=>h (q _ (yad hn))
 unfold sU;rw [decide_eq_false this];rfl
theorem Qx {l:List Ky} {n:Nat} (hn:n+1<l.length) (h:¬oP l[n] l[n+1]):false=sU l:=by
 have:¬l.Pairwise oP:=fun q=>h (yax.1 q n (n+1) (by omega) hn (by omega))
 unfold sU;rw [decide_eq_false this];simp
theorem akX (l:List Ky) (hl:l.length≤1000000):Ok 13 [bK l] (Is (.b (sU l))):=by
 refine ok_of lw13 (by simp) ?_
 unfold c13
 simp -implicitDefEqProofs only [rX,aA,aG,aN]
 refine bN (fun n:Nat=>(⟨[(3,.i n),(0,bK l)],[],0⟩:St)) (RgI l) (fun n=>l.length-n) 0 ⟨yak _,fun j _ h=>by omega,fun j _ h=>by omega⟩ ?_ ?_
 ·exact ⟨by simp -implicitDefEqProofs only [rX,↓reduceIte,reduceCtorEq,leE];rfl,aV _,trivial,by simp -implicitDefEqProofs only [rX,wfE,wfV,bK],by simp -implicitDefEqProofs only [wfB]⟩
 intro n hI N hN
 have hle:=hI.le
 simp only [c13l0]
 simp -implicitDefEqProofs only [rX,↓rY,aA,↓reduceIte,Nat.reduceEqDiff,reduceCtorEq,aQ,aT,wfV,yac,yaa,bK]
 intro _
 cases h1:decide ((n:Int)<(l.length:Int)) with
 | true =>
  have h1':=of_decide_eq_true h1
  have hn:n<l.length:=by omega
  simp -implicitDefEqProofs only [rX,↓rY,yah hn,o9,lX]
  have b1:0≤(n:Int)∧(n:Int)<(l.length:Int):=by omega
  refine ⟨b1,hn,?_⟩
  refine aD (akK l[n]) ⟨⟨dJ.1,trivial⟩,dJ.2,trivial⟩ rfl trivial ?_
  cases h2:kyB l[n] with
  | false =>
   have h2':=of_decide_eq_false h2
   simp -implicitDefEqProofs only [rX,↓rY,aA,↓reduceIte,Nat.reduceEqDiff,aQ,aT,wfV]
   exact Qy hn h2'
  | true =>
   have h2':=of_decide_eq_true h2
   cases h3:decide ((n:Int)>0) with
   | false =>
    have h3':=of_decide_eq_false h3
    have n0:n=0:=by omega
    simp -implicitDefEqProofs only [rX,↓rY,aA,↓reduceIte,Nat.reduceEqDiff,reduceCtorEq,yac,yaa,h3]
    refine ⟨⟨by simp only [lo];omega,by simp only [Fx.hi];omega⟩,hN _ (n+1) ⟨by omega,fun j hj hlt=>?_,fun j hj hlt=>by omega⟩ (by omega) ?_⟩
    ·have:j=n:=by omega
     subst this;exact h2'
    ·exact ⟨by simp -implicitDefEqProofs only [rX,↓reduceIte,reduceCtorEq,leE];simp [bK],aV _,trivial,by simp -implicitDefEqProofs only [rX,wfE,wfV,bK],by simp -implicitDefEqProofs only [wfB]⟩
   | true =>
    have h3':=of_decide_eq_true h3
    obtain ⟨m,rfl⟩:∃ m,n=m+1:=⟨n-1,by omega⟩
    have hm:m<l.length:=by omega
    have em:((m+1:Nat):Int)-1=(m:Int):=by omega
    simp -implicitDefEqProofs only [rX,↓rY,aA,↓reduceIte,Nat.reduceEqDiff,reduceCtorEq,yac,yaa,h3,em,yah hn,o9,lX]
    refine ⟨⟨by simp only [lo];omega,by simp only [Fx.hi];omega⟩,by omega,hm,b1,hn,?_⟩
    refine aD (akG l[m] l[m+1]) ⟨⟨dJ.1,dJ.1,trivial⟩,dJ.2,dJ.2,trivial⟩ rfl trivial ?_
    cases h4:acF l[m] l[m+1] with
    | false =>
     have h4':=of_decide_eq_false h4
     simp -implicitDefEqProofs only [rX,↓rY,aA,↓reduceIte,Nat.reduceEqDiff,aQ,aT,wfV]
     exact Qx hn h4'
    | true =>
     have h4':=of_decide_eq_true h4
     simp -implicitDefEqProofs only [rX,↓rY,aA,↓reduceIte,Nat.reduceEqDiff]
     refine ⟨⟨by simp only [lo];omega,by simp only [Fx.hi];omega⟩,hN _ (m+1+1) ⟨by omega,fun j hj hlt=>?_,fun j hj hlt=>?_⟩ (by omega) ?_⟩
     ·by_cases e:j=m+1
      ·subst e;exact h2'
      ·exact hI.ok j hj (by omega)
     ·by_cases e:j=m
      ·subst e;exact h4'
      ·exact hI.ord j hj (by omega)
     ·exact ⟨by simp -implicitDefEqProofs only [rX,↓reduceIte,reduceCtorEq,leE];simp [bK],aV _,trivial,by simp -implicitDefEqProofs only [rX,wfE,wfV,bK],by simp -implicitDefEqProofs only [wfB]⟩
 | false =>
  have h1':=of_decide_eq_false h1
  have:n=l.length:=by omega
  subst this
  simp -implicitDefEqProofs only [↓rY]
  intro _
  have hA:=hI.all
  unfold sU
  rw [decide_eq_true hA.ok,decide_eq_true hA.ord]
  simp only [Bool.true_and]
  rw [yaZ]
  simp only [decide_eq_true_eq]
  omega
set_option maxRecDepth 20000
open Go.Fx.P (Arc)
theorem sJ {q:List Blk}:∀ {a b:List Blk},wfB q (a++b)=(wfB q a∧wfB q b)
 | [],b=>by simp [wfB]
 | x::a,b=>by
  rw [List.cons_append]
  cases x<;>simp only [wfB,sJ,and_assoc]
theorem Oy {h tl:List Blk} {k:Nat} (hk:aB h k):aB (h++tl) k:=by
 unfold aB at hk ⊢
 by_cases hl:k<h.length
 ·rw [yaL hl];exact hk
 ·rw [yay (by omega)] at hk;exact hk.elim
theorem mV {h tl:List Blk}:∀ {fx:List Nat},aE fx h→aE fx (h++tl)
 | [],_=>trivial
 | _::_,hk=>⟨Oy hk.1,mV hk.2⟩
def inR (N:Nat) (cut:List Int) (j:Nat):List (List V):=(yav N).map fun x:Nat=>[V.b (decide ((x:Int)∈cut.take j))]
theorem nU {N:Nat} {cut:List Int} {j:Nat}:(inR N cut j).length=N:=by simp [inR]
theorem abE {N:Nat} {cut:List Int} {j x:Nat} (h:x<N):(inR N cut j)[x]?=some [.b (decide ((x:Int)∈cut.take j))]:=by
 unfold inR;rw [List.getElem?_map,List.getElem?_range h];rfl
theorem xM {N:Nat} {cut:List Int} {j x:Nat} {h:x<(inR N cut j).length}:(inR N cut j)[x]=[.b (decide ((x:Int)∈cut.take j))]:=by
 have:=abE (N:=N) (cut:=cut) (j:=j) (x:=x) (by rw [nU] at h;exact h)
 rw [yah h] at this
 exact Option.some.inj this
theorem Wm {N:Nat} {cut:List Int} {j x:Nat} (hj:j<cut.length) (hx:cut[j]=(x:Int)):(inR N cut j).set x [.b true]=inR N cut (j+1):=by
 have hs:cut.take (j+1)=cut.take j++[(x:Int)]:=by rw [←yba hj,hx]
 apply yaw
 ·rw [yaz,nU,nU]
 ·intro i h1 h2
  rw [yaQ,xM,xM,hs]
  by_cases e:x=i
  ·subst e;simp
  ·rw [if_neg e]
   have:((i:Int)∈cut.take j++[(x:Int)])↔(i:Int)∈cut.take j:=by
    rw [yaK,yar]
    constructor
    ·rintro (h|h)
     ·exact h
     ·omega
    ·exact .inl
   simp only [this]
theorem agB {N:Nat} {cut:List Int}:inR N cut 0=yab N [.b false]:=by
 unfold inR
 apply yaw
 ·simp
 ·intro i h1 h2;simp
structure E83 (N:Nat) (arcs:List Arc) (L k i:Nat) (e:Env):Prop where
 e0:get e 0=.itr k
 e4:get e 4=.sl L 0 N
 e23:get e 23=.ro 4 (arcs.map Arc.enc)
 e24:get e 24=.i arcs.length
 e25:get e 25=.i i
 e43:get e 43=.b true
structure acM {G:Type} (hp:G→List Blk) (L:Nat) (N:Nat) (arcs:List Arc) (cut:List Int) (k a c:Nat) (fx:List Nat):Prop where
 len:∀ g,(hp g).length=L
 ha:∀ g tl,(hp g++tl)[a]?=some (.var [.i N,.ro 4 (arcs.map Arc.enc)])
 hc:∀ g tl,(hp g++tl)[c]?=some (.var [.ro 1 (cut.map P.encI)])
 kp:∀ g,aE fx (hp g)
 wf:∀ g tl,wfB (hp g++tl) (hp g)
 lk:∀ g tl,∃ t e,(hp g++tl)[k]?=some (.rcd t e)
def iG (cut:List Int) (a:Arc):Bool:=decide (a.from_∈cut)&&!decide (a.to∈cut)
section
variable {G:Type} {hp:G→List Blk} {L N:Nat} {arcs:List Arc} {cut:List Int} {k a c:Nat} {fx:List Nat} {Y:Yt} {K:List Blk→Prop} {Inv:Nat→G→Prop}
abbrev Ro {G:Type} (hp:G→List Blk) (L N:Nat) (arcs:List Arc) (cut:List Int) (k:Nat) (g:Nat × G):St :=
 ⟨[(25,.i g.1),(24,.i arcs.length),(23,.ro 4 (arcs.map Arc.enc)),(4,.sl L 0 N),(0,.itr k)],hp g.2++[.arr 1 (inR N cut cut.length)],0⟩
theorem agA (H:acM hp L N arcs cut k a c fx) (hN:N≤1000000) (hal:arcs.length≤1000000) (hcl:cut.length≤1000000)
  (hcut:∀ x∈cut,0≤x∧x<N) (hv:∀ x∈arcs,(0≤x.from_∧x.from_<N)∧(0≤x.to∧x.to<N))
  (hskip:∀ i g (hi:i<arcs.length),Inv i g→iG cut arcs[i]=false→Inv (i+1) g)
  (hY:∀ i g (hi:i<arcs.length),Inv i g→iG cut arcs[i]=true→∀ (e:Env) (bb:Nat) (Z:V→St→Prop),E83 N arcs L k i e →
   (∀ e' g' tl,E83 N arcs L k i e'→Inv (i+1) g'→Z (.b true) ⟨e',hp g'++.arr 1 (inR N cut cut.length)::tl,bb⟩)→Y [.i i,.agg arcs[i].enc] ⟨e,hp g++[.arr 1 (inR N cut cut.length),.var arcs[i].enc],bb⟩ Z)
  (hK:∀ g,Inv arcs.length g→K (hp g++[.arr 1 (inR N cut cut.length)])) (g:G) (hg:Inv 0 g) :
  I0 Tryz.prog 83 [.itr k,.ptr a 0 0,.ptr c 0 0] fx k Y (hp g) K:=by
 refine Sr pol fx lw83 (by simp) ?_
 have go:∀ g j tl,(hp g++tl)[L+j]?=tl[j]?:=fun g j tl=>by
  rw [yaB (by rw [H.len];omega),H.len];congr 1;omega
 have go0:∀ g tl,(hp g++tl)[L]?=tl[0]?:=fun g=>go g 0
 have gs:∀ g j tl B,(hp g++tl).set (L+j) B=hp g++tl.set j B:=fun g j tl B=>by
  rw [yaP _ _ (by rw [H.len];omega),H.len];congr 2;omega
 have gs0:∀ g tl B,(hp g++tl).set L B=hp g++tl.set 0 B:=fun g=>gs g 0
 have a0:=H.ha g []
 have c0:=H.hc g []
 rw [yap] at a0 c0
 unfold c83
 simp -implicitDefEqProofs only [rX,↓rY,aA,↓reduceIte,Nat.reduceEqDiff,Nat.reduceAdd,reduceCtorEq,aC,yaa,aN,H.ha,H.hc,H.len,go0,gs0]
 refine ⟨⟨⟨by omega,by omega⟩,by omega,by omega⟩,fun hcm=>?_⟩
 refine bN (fun j:Nat=>(⟨[(14,.i j),(13,.i cut.length),(12,.ro 1 (cut.map P.encI)),(4,.sl L 0 N),(0,.itr k),(1,.ptr a 0 0)],hp g++[.arr 1 (inR N cut j)],0⟩:St)) (fun j=>j≤cut.length) (fun j=>cut.length-j) 0 (yak _) ?_ ?_
 ·obtain ⟨tk,ek,lk⟩:=H.lk g [.arr 1 (yab N [V.b false])]
  simp -implicitDefEqProofs only [rX,↓reduceIte,Nat.reduceEqDiff,reduceCtorEq,leE,aB,wfE,wfB,wfV,agB,go0,H.ha,lk,eq_true (mV (H.kp g)),sJ,eq_true (H.wf g _)]
  exact ⟨rfl,aV _⟩
 intro j hj N1 hN1
 simp only [c83l0]
 simp -implicitDefEqProofs only [rX,↓rY,aA,cells?,splice,↓reduceIte,Nat.reduceEqDiff,cS,reduceCtorEq,isD,isC,yac,yaa,H.len,go0,gs0]
 cases h1:decide ((j:Int)<(cut.length:Int)) with
 | true =>
  have h1':=of_decide_eq_true h1
  have hj':j<cut.length:=by omega
  have hx:=hcut _ (yad hj')
  obtain ⟨x,hxe⟩:∃ x:Nat,cut[j]=x:=⟨cut[j].toNat,by omega⟩
  simp -implicitDefEqProofs only [rX,↓rY,yaa,yah hj',hxe,P.cM]
  refine ⟨by omega,hj',by omega,by rw [nU];omega,⟨by simp only [lo];omega,by simp only [Fx.hi];omega⟩,hN1 _ (j+1) (by omega) (by omega) ?_⟩
  have hset:(inR N cut j).set x (V.v (Value.bool true)::List.drop 1 ((inR N cut j)[x]'(by rw [nU];omega)))=inR N cut (j+1):=by
   rw [xM];exact Wm hj' hxe
  rw [hset]
  obtain ⟨tk,ek,lk⟩:=H.lk g [.arr 1 (inR N cut (j+1))]
  simp -implicitDefEqProofs only [rX,↓reduceIte,Nat.reduceEqDiff,reduceCtorEq,leE,aB,wfE,wfB,wfV,go0,H.ha,lk,eq_true (mV (H.kp g)),sJ,eq_true (H.wf g _)]
  exact ⟨rfl,aV _⟩
 | false =>
  have h1':=of_decide_eq_false h1
  have:j=cut.length:=by omega
  subst this
  simp -implicitDefEqProofs only [rX,↓rY,H.ha]
  intro ham
  refine bN (Ro hp L N arcs cut k) (fun g=>g.1≤arcs.length∧Inv g.1 g.2) (fun g=>arcs.length-g.1) (0,g) ⟨yak _,hg⟩ ?_ ?_
  ·obtain ⟨tk,ek,lk⟩:=H.lk g [.arr 1 (inR N cut cut.length)]
   simp -implicitDefEqProofs only [rX,↓reduceIte,Nat.reduceEqDiff,reduceCtorEq,leE,aB,wfE,wfB,wfV,go0,lk,eq_true (mV (H.kp g)),sJ,eq_true (H.wf g _)]
   exact ⟨rfl,aV _⟩
  rintro ⟨i,g⟩ ⟨hi,hI⟩ N2 hN2
  simp only at hi hI
  simp only [c83l1]
  unfold Ro
  simp -implicitDefEqProofs only [rX,↓rY,rZ,↓rW,aA,cells?,splice,↓reduceIte,Nat.reduceEqDiff,cS,Nat.reduceAdd,reduceCtorEq,aC,yac,yaa,H.len,go,go0,gs,yaC]
  cases h2:decide ((i:Int)<(arcs.length:Int)) with
  | true =>
   have h2':=of_decide_eq_true h2
   have hi':i<arcs.length:=by omega
   obtain ⟨⟨f1,f2⟩,f3,f4⟩:=hv _ (yad hi')
   obtain ⟨u,hu⟩:∃ u:Nat,arcs[i].from_=u:=⟨arcs[i].from_.toNat,by omega⟩
   obtain ⟨v,hw⟩:∃ v:Nat,arcs[i].to=v:=⟨arcs[i].to.toNat,by omega⟩
   have lu:u<(inR N cut cut.length).length:=by rw [nU];omega
   have lv:v<(inR N cut cut.length).length:=by rw [nU];omega
   have b0:lo IntKind.i64≤(i:Int)+1∧(i:Int)+1≤Fx.hi IntKind.i64:=⟨by simp only [lo];omega,by simp only [Fx.hi];omega⟩
   have fin:∀ (e:Env) (b:Nat) (g':G) (tl:List Blk),get e 0=.itr k→get e 4=.sl L 0 N→get e 23=.ro 4 (arcs.map Arc.enc)→get e 24=.i arcs.length→get e 25=.v (.int .i64 ((i:Int)+1))→leS fx ⟨e,hp g'++.arr 1 (inR N cut cut.length)::tl,b⟩ (Ro hp L N arcs cut k (i+1,g')):=by
    intro e b g' tl q0 q4 q23 q24 q25
    obtain ⟨tk,ek,lk⟩:=H.lk g' [.arr 1 (inR N cut cut.length)]
    simp -implicitDefEqProofs only [rX,leE,aB,wfE,wfB,wfV,go0,lk,eq_true (mV (H.kp g')),sJ,eq_true (H.wf g' _),q0,q4,q23,q24,q25]
    refine ⟨rfl,?_⟩
    rw [show hp g'++.arr 1 (inR N cut cut.length)::tl=(hp g'++[.arr 1 (inR N cut cut.length)])++tl by simp]
    exact P.K.leH_app _ _
   have hop:iG cut arcs[i]=(decide ((u:Int)∈cut)&&!decide ((v:Int)∈cut)):=by unfold iG;rw [hu,hw]
   simp -implicitDefEqProofs only [rX,↓rY,↓reduceIte,yaa,hu,hw,xM,List.take_length,yah hi',P.enc_len,P.fC,P.fR,P.oJ,P.oI]
   refine ⟨⟨by omega,by omega⟩,hi',by omega,lu,?_⟩
   cases d1:decide ((u:Int)∈cut) with
   | false =>
    rw [d1] at hop
    simp -implicitDefEqProofs only [↓rY]
    exact ⟨b0,hN2 _ (i+1,g) ⟨by simp only;omega,hskip i g hi' hI hop⟩ (by simp only;omega) (fin _ _ _ _ rfl rfl rfl rfl rfl)⟩
   | true =>
    simp -implicitDefEqProofs only [↓rY]
    refine ⟨by omega,lv,?_⟩
    cases d2:decide ((v:Int)∈cut) with
    | true =>
     rw [d1,d2] at hop
     simp -implicitDefEqProofs only [rX,↓rY]
     exact ⟨b0,hN2 _ (i+1,g) ⟨by simp only;omega,hskip i g hi' hI hop⟩ (by simp only;omega) (fin _ _ _ _ rfl rfl rfl rfl rfl)⟩
    | false =>
     rw [d1,d2] at hop
     simp -implicitDefEqProofs only [rX,↓rY]
     refine ⟨rfl,?_⟩
     refine hY i g hi' hI hop _ _ _ ⟨rfl,rfl,rfl,rfl,rfl,rfl⟩ ?_
     intro e' g' tl he' hI'
     simp -implicitDefEqProofs only [rX,↓rY,rZ,aA,↓reduceIte,Nat.reduceEqDiff,he'.e25,he'.e43]
     exact ⟨b0,hN2 _ (i+1,g') ⟨by simp only;omega,hI'⟩ (by simp only;omega) (fin _ _ _ _ (by simp -implicitDefEqProofs only [rX,↓reduceIte,reduceCtorEq,he'.e0]) (by simp -implicitDefEqProofs only [rX,↓reduceIte,Nat.reduceEqDiff,he'.e4]) (by simp -implicitDefEqProofs only [rX,↓reduceIte,Nat.reduceEqDiff,he'.e23]) (by simp -implicitDefEqProofs only [rX,↓reduceIte,Nat.reduceEqDiff,he'.e24]) rfl)⟩
  | false =>
   have h2':=of_decide_eq_false h2
   have:i=arcs.length:=by omega
   subst this
   have:=hK g hI
   simp -implicitDefEqProofs only [↓rY]
   exact this
end
set_option maxRecDepth 20000
open Go.Fx.P (Arc)
def sA (arcs:List Arc) (cut:List Int) (i:Nat):Int:=(((arcs.take i).filter (iG cut)).map (·.cap)).sum
def bnd (arcs:List Arc) (cut:List Int):Int:=sA arcs cut arcs.length
theorem Uj {arcs:List Arc} {cut:List Int}:sA arcs cut 0=0:=rfl
theorem Ui {arcs:List Arc} {cut:List Int} {i:Nat} (h:i<arcs.length) (ho:iG cut arcs[i]=true):sA arcs cut (i+1)=sA arcs cut i+arcs[i].cap:=by
 unfold sA
 rw [←yba h,yaS,yau,List.sum_append,List.filter_cons_of_pos ho]
 simp
theorem Nq {arcs:List Arc} {cut:List Int} {i:Nat} (h:i<arcs.length) (ho:iG cut arcs[i]=false):sA arcs cut (i+1)=sA arcs cut i:=by
 unfold sA
 rw [←yba h,yaS,yau,List.sum_append,List.filter_cons_of_neg (by simp [ho])]
 simp
theorem Nr {arcs:List Arc} {cut:List Int} (hc:∀ a∈arcs,0≤a.cap∧a.cap≤1073741824):∀ {i:Nat},i≤arcs.length→0≤sA arcs cut i∧sA arcs cut i≤1073741824*i
 | 0,_=>by rw [Uj];omega
 | i+1,h=>by
  have:=Nr (cut:=cut) hc (i:=i) (by omega)
  have:=hc _ (yad (show i<arcs.length by omega))
  cases ho:iG cut arcs[i] with
  | true=>rw [Ui (by omega) ho];omega
  | false=>rw [Nq (by omega) ho];omega
attribute [irreducible] sA
theorem adZ (N:Nat) (arcs:List Arc) (cut:List Int):Ok 61 [P.net N arcs,P.li cut] (IsA (.clo 83 [.ptr 0 0 0,.ptr 1 0 0]) [.var [.i N,.ro 4 (arcs.map Arc.enc)],.var [P.li cut]]):=by
 refine ok_of lw61 (by simp) ?_
 unfold c61 P.net P.li
 simp -implicitDefEqProofs only [rX,↓rY,aA,cells?,↓reduceIte,Nat.reduceEqDiff,Nat.reduceAdd,reduceCtorEq,aC,aQ,aT,leH,leB,leV,bD,aE,aB,wfB,wfV,wfL,Nat.reduceLeDiff,aN,cA]
abbrev abG (N:Nat) (arcs:List Arc) (cut:List Int) (s:Int):List Blk:=[.var [.i N,.ro 4 (arcs.map Arc.enc)],.var [.i s],.var [.i N,.ro 4 (arcs.map Arc.enc)],.var [.ro 1 (cut.map P.encI)],.rcd .ready [(5,.ptr 1 0 0)]]
theorem alA (N:Nat) (arcs:List Arc) (cut:List Int):acM (abG N arcs cut) 5 N arcs cut 4 2 3 [4]:=by
 refine ⟨fun g=>rfl,fun g tl=>rfl,fun g tl=>rfl,fun g=>⟨trivial,trivial⟩,fun g tl=>?_,fun g tl=>⟨_,_,rfl⟩⟩
 simp -implicitDefEqProofs only [rX,aB,wfE,wfB,wfV,wfL]
theorem aeB (N:Nat) (arcs:List Arc) (cut:List Int) (hV:P.K.Val N arcs) (hcl:cut.length≤1000000) (hcut:∀ x∈cut,0≤x∧x<N):Ok 54 [P.net N arcs,P.li cut] (Is (.i (bnd arcs cut))):=by
 have hN:=hV.hn
 have hal:=hV.hl
 refine oY (ok_of lw54 (by simp) ?_)
 unfold c54 P.net
 simp -implicitDefEqProofs only [rX,↓rY,aA,cells?,splice,↓reduceIte,Nat.reduceEqDiff,Nat.reduceAdd,reduceCtorEq,aC,isC,aM,aN]
 refine dG [P.net N arcs,P.li cut] (.clo 83 [.ptr 0 0 0,.ptr 1 0 0]) (.clo 83 [.ptr 2 0 0,.ptr 3 0 0]) [.var [.i N,.ro 4 (arcs.map Arc.enc)],.var [P.li cut]] [.var [.i N,.ro 4 (arcs.map Arc.enc)],.var [P.li cut]] (adZ N arcs cut) (by simp [aF,aK,aU,bG,wkL,wk,wkR,P.net,P.li]) rfl rfl trivial ?_
 simp -implicitDefEqProofs only [rX]
 refine Ee 4 rfl rfl trivial ?_
 refine Uu (h':=abG N arcs cut 0) ?_ ⟨trivial,trivial⟩ ?_ ?_ (agA (Inv:=fun i g=>g=sA arcs cut i) (alA N arcs cut) (by omega) (by omega) hcl hcut (fun x hx=>⟨(hV.ha x hx).1,(hV.ha x hx).2.1⟩) ?_ ?_ ?_ _ Uj.symm)
 ·simp -implicitDefEqProofs only [rX,↓reduceIte,Nat.reduceEqDiff,leE,leH,leB,leV,bD]
  repeat' first|rfl|trivial|apply And.intro|exact Or.inr trivial
 ·simp -implicitDefEqProofs only [rX,aB,wfE,wfB,wfV,wfL]
 ·simp -implicitDefEqProofs only [rX,aB,wfV,wfL]
 ·rintro i g hi rfl ho
  exact (Nq hi ho).symm
 ·rintro i g hi rfl ho e bb Z he hZ
  refine Lj 7 rfl rfl rfl ?_
  have hcap:=hV.ha _ (yad hi)
  have hb:=Nr (cut:=cut) (fun a ha=>(hV.ha a ha).2.2.2.1) (Nat.le_of_lt hi)
  unfold c54a0
  simp -implicitDefEqProofs only [rX,↓rY,rZ,↓rW,aA,cells?,splice,↓reduceIte,Nat.reduceEqDiff,Nat.reduceAdd,aC,aM,aG,mE,P.enc_len,P.fR]
  unfold c54r0
  simp -implicitDefEqProofs only [rX,↓rY,rZ,↓rW,cells?,splice,↓reduceIte,Nat.reduceEqDiff,Nat.reduceAdd,isC,P.p9]
  refine ⟨⟨by simp only [lo];omega,by simp only [Fx.hi];omega⟩,?_⟩
  exact hZ e _ _ he (Ui hi ho).symm
 ·rintro g rfl
  unfold abG
  simp -implicitDefEqProofs only [rX,↓rY,rZ,↓rW,↓reduceIte,Nat.reduceAdd,aB,wfE,wfB,wfV,wfL]
  exact oW ⟨trivial,rfl⟩
abbrev bI' (l:List Int):V:=.bro 1 (l.map P.encI)
def xB (n:Int) (cut:List Int):Prop:=(∀ x∈cut,0≤x∧x<n∧x≠1)∧cut.Pairwise (·<·)∧cut.head?=some 0
instance (n:Int) (cut:List Int):Decidable (xB n cut):=by unfold xB;infer_instance
def iR (n:Int) (cut:List Int):Bool:=decide (xB n cut)
structure CuI (n:Int) (cut:List Int) (j:Nat):Prop where
 le:j≤cut.length
 ok:∀ i (h:i<cut.length),i<j→0≤cut[i]∧cut[i]<n∧cut[i]≠1
 ord:∀ i (h:i+1<cut.length),i+1<j→cut[i]<cut[i+1]
theorem CuI.all {n:Int} {cut:List Int} (h:CuI n cut cut.length):(∀ x∈cut,0≤x∧x<n∧x≠1)∧cut.Pairwise (·<·):=by
 refine ⟨fun k hk=>?_,yax.2 fun i j hi hj hij=>?_⟩
 ·obtain ⟨j,hj,rfl⟩:=yan hk
  exact h.ok j hj hj
 ·obtain ⟨d,rfl⟩:∃ d,j=i+1+d:=⟨j-(i+1),by omega⟩
  induction d with
  | zero=>exact h.ord i (by omega) (by omega)
  | succ d ih =>
   have h1:=ih (by omega) (by omega)
   have h2:=h.ord (i+1+d) (by omega) (by omega)
   exact Int.lt_trans h1 h2
theorem Fj {n:Int} {cut:List Int} {j:Nat} (hj:j<cut.length) (h:¬(0≤cut[j]∧cut[j]<n∧cut[j]≠1)):false=iR n cut:=(decide_eq_false fun q=>h (q.1 _ (yad hj))).symm
theorem Ng {n:Int} {cut:List Int} {j:Nat} (hj:j+1<cut.length) (h:¬cut[j]<cut[j+1]):false=iR n cut:=(decide_eq_false fun q=>h (yax.1 q.2.1 j (j+1) (by omega) hj (by omega))).symm
theorem aaS (n:Int) (cut:List Int) (hcl:cut.length≤1000000):Ok 53 [.agg [.i n,.any],bI' cut] (Is (.b (iR n cut))):=by
 refine ok_of lw53 (by simp) ?_
 unfold c53
 simp -implicitDefEqProofs only [rX,↓rY,aA,cells?,↓reduceIte,Nat.reduceEqDiff,reduceCtorEq,aC,aG,aN]
 intro hml
 refine bN (fun j:Nat=>(⟨[(9,.i j),(8,.i cut.length),(7,bI' cut),(2,.ptr 0 0 0),(1,bI' cut)],[.var [.i n,.any]],1⟩:St)) (CuI n cut) (fun j=>cut.length-j) 0 ⟨yak _,fun i _ h=>by omega,fun i _ h=>by omega⟩ ?_ ?_
 ·exact ⟨by simp -implicitDefEqProofs only [rX,↓reduceIte,Nat.reduceEqDiff,reduceCtorEq,leE];rfl,aV _,trivial,by simp -implicitDefEqProofs only [rX,aB,wfE,wfV],by simp -implicitDefEqProofs only [rX,wfB,wfV,wfL]⟩
 intro j hI N hN
 have hle:=hI.le
 have b0:lo IntKind.i64≤(j:Int)+1∧(j:Int)+1≤Fx.hi IntKind.i64:=⟨by simp only [lo];omega,by simp only [Fx.hi];omega⟩
 simp only [c53l0]
 simp -implicitDefEqProofs only [rX,↓rY,aA,↓reduceIte,Nat.reduceEqDiff,aQ,aT,wfV,yac,yaa]
 cases h1:decide ((j:Int)<(cut.length:Int)) with
 | true =>
  have h1':=of_decide_eq_true h1
  have hj:j<cut.length:=by omega
  have fin:∀ (e:Env) (b:Nat),(0≤cut[j]∧cut[j]<n∧cut[j]≠1)→(∀ i (h:i+1<cut.length),i+1=j→cut[i]<cut[i+1])→get e 9=.v (.int .i64 ((j:Int)+1))→get e 8=.i cut.length→get e 7=bI' cut→get e 2=.ptr 0 0 0→get e 1=bI' cut→N ⟨e,[.var [.i n,.any]],b⟩:=by
   intro e b q1 q2 q9 q8 q7 q22 q11
   refine hN _ (j+1) ⟨by omega,fun i hi hlt=>?_,fun i hi hlt=>?_⟩ (by omega) ?_
   ·by_cases e:i=j
    ·subst e;exact q1
    ·exact hI.ok i hi (by omega)
   ·by_cases e:i+1=j
    ·exact q2 i hi e
    ·exact hI.ord i hi (by omega)
   ·simp -implicitDefEqProofs only [rX,leE,leH,leB,leV,bD,aE,aB,wfE,wfB,wfV,wfL,q9,q8,q7,q22,q11]
    rfl
  simp -implicitDefEqProofs only [rX,↓rY,yah hj,P.cM]
  refine ⟨⟨by omega,by omega⟩,hj,?_⟩
  cases d1:decide (cut[j]<0) with
  | true =>
   have d1':=of_decide_eq_true d1
   simp -implicitDefEqProofs only [↓rY]
   exact Fj hj (by omega)
  | false =>
   have d1':=of_decide_eq_false d1
   simp -implicitDefEqProofs only [↓rY]
   cases d2:decide (n≤cut[j]) with
   | true =>
    have d2':=of_decide_eq_true d2
    simp -implicitDefEqProofs only [↓rY]
    exact Fj hj (by omega)
   | false =>
    have d2':=of_decide_eq_false d2
    simp -implicitDefEqProofs only [↓rY]
    cases d3:(cut[j]==1) with
    | true =>
     have d3':=eq_of_beq d3
     simp -implicitDefEqProofs only [↓rY]
     exact Fj hj (by omega)
    | false =>
     have d3':=ne_of_beq_false d3
     simp -implicitDefEqProofs only [↓rY]
     have q1:0≤cut[j]∧cut[j]<n∧cut[j]≠1:=⟨by omega,by omega,d3'⟩
     cases d4:decide (0<(j:Int)) with
     | false =>
      have d4':=of_decide_eq_false d4
      simp -implicitDefEqProofs only [↓rY]
      exact ⟨b0,fin _ _ q1 (fun i h e=>by omega) rfl rfl rfl rfl rfl⟩
     | true =>
      have d4':=of_decide_eq_true d4
      obtain ⟨m,rfl⟩:∃ m,j=m+1:=⟨j-1,by omega⟩
      have hm:m<cut.length:=by omega
      have em:((m+1:Nat):Int)-1=(m:Int):=by omega
      simp -implicitDefEqProofs only [↓rY,yaa,em]
      refine ⟨⟨by simp only [lo];omega,by simp only [Fx.hi];omega⟩,⟨by omega,by omega⟩,hm,?_⟩
      cases d5:decide (cut[m+1]≤cut[m]) with
      | true =>
       have d5':=of_decide_eq_true d5
       simp -implicitDefEqProofs only [↓rY]
       exact Ng hj (by omega)
      | false =>
       have d5':=of_decide_eq_false d5
       simp -implicitDefEqProofs only [↓rY]
       refine ⟨b0,fin _ _ q1 (fun i h e=>?_) rfl rfl rfl rfl rfl⟩
       obtain rfl:i=m:=by omega
       omega
 | false =>
  have h1':=of_decide_eq_false h1
  have:j=cut.length:=by omega
  subst this
  obtain ⟨a1,a2⟩:=hI.all
  simp -implicitDefEqProofs only [↓rY]
  intro _
  cases hc:cut with
  | nil =>
   have:iR n []=false:=decide_eq_false fun q=>by have:=q.2.2;simp at this
   simp -implicitDefEqProofs only [rX,this]
   exact ⟨fun h=>by simp at h,fun _=>trivial⟩
  | cons x r =>
   rw [hc] at a1 a2
   have hx:iR n (x::r)=(x==0):=by
    rw [yaZ]
    unfold iR xB
    simp only [decide_eq_true_eq,List.head?_cons,Option.some.injEq,beq_iff_eq]
    exact ⟨fun h=>h.2.2,fun h=>⟨a1,a2,h⟩⟩
   rw [hx]
   have hd:decide ((0:Int)<((x::r).length:Int))=true:=decide_eq_true (by simp)
   simp only [hd,wc]
   simp -implicitDefEqProofs only [rX,↓rY,P.cM]
   exact ⟨⟨by omega,by omega⟩,by simp,rfl⟩
end Go.Fx.E
