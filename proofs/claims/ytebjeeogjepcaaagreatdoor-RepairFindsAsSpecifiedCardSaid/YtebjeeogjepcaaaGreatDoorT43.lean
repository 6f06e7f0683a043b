import Derived.Test.YtebjeeogjepcaaaGreatDoorTP2
import Derived.Test.YtebjeeogjepcaaaGreatDoorHLow0
import Derived.Test.YtebjeeogjepcaaaGreatDoorHLow
set_option linter.unusedVariables false
set_option linter.unusedSimpArgs false
set_option linter.unusedSectionVars false
open List renaming take_of_length_le → yaa, length_append → yac, getElem_map → yad, take → yaf, getElem?_eq_getElem → yah, length_take → yai, getElem_mem → yaj, drop → yak, append_assoc → yal, drop_of_length_le → yam, take_append_drop → yan, getElem_append_right → yao, map_append → yap, take_add_one → yaq, append_nil → yas, pairwise_cons → yau, length_drop → yav, drop_eq_getElem_cons → yaw, pairwise_append → yax, getElem_append_left → yay, replicate_succ → yaz, length_map → yaA, mem_append → yaD, nil_append → yaE, eq_nil_of_length_eq_zero → yaF, mem_cons → yaG, set_append_right → yaH, take_sublist → yaI, take_append_of_le_length → yaJ, replicate → yaK, map → yaL, drop_append_of_le_length → yaM, length_cons → yaN, cons_append → yaO, mem_cons_self → yaP, length_singleton → yaS, drop_sublist → yaT, pairwise_iff_getElem → yaV, take_length → yaW, mem_map → yaY, getElem?_append_right → yaZ, range' → ybb, mem_filter → ybe, mem_of_mem_take → ybf, getElem?_cons_succ → ybg, length_nil → ybh, getD_eq_getElem?_getD → ybj, mem_cons_of_mem → ybm, foldl_append → ybn, mem_range → ybo, length_eq_zero_iff → ybr, getElem?_cons_zero → ybt, flatMap_append → ybu, length_filter_le → ybv, take_succ_cons → ybw, getLastD_eq_getLast? → ybx, getLast?_eq_getElem? → yby, dropLast_eq_take → ybz, length_pos_iff → ybA, perm_append_comm → ybB, getLast?_append → ybC, getLast?_singleton → ybD, dropLast_concat → ybE
open Int renaming toNat_natCast → yab, natCast_zero → yar, toNat → yaC, natCast_mul → ybp, le_refl → ybq
open Nat renaming le_refl → yae, zero_le → yag, eq_zero_or_pos → yat, lt_or_ge → yaB, mul_one → yaX, strongRecOn → yba, reduceBEq → ybd, le_mul_of_pos_right → ybi, sub_zero → ybl
open Bool renaming not_false → yaQ, not_true → yaR, eq_iff_iff → ybc
open Array renaming getElem?_modify → yaU, getElem?_append_left → ybs
open Option renaming getD_some → ybk
namespace Go.Fx.H
open Go Go.Fx Go.Proofs Go.Fx.R Go.RowKit
set_option maxRecDepth 20000
theorem oR {S:Nat→Prop} {w:World} {b:Nat}:∀ {l:List Int} {off:Nat},cH S w 1 b off (l.map encI)→∀ j (h:j<l.length),w.cell? ⟨b,off+j,none⟩=some (.int .i64 l[j])
 | [],_,_,j,h=>by simp at h
 | x::r,off,hr,j,h=>by
  obtain ⟨⟨_,⟨val,h1,h2⟩,_⟩,h3⟩:=hr
  cases j with
  | zero =>
   have:val=.int .i64 x:=h2.1
   subst this;exact h1
  | succ j =>
   have:=oR h3 j (by simpa using h)
   rw [show off+(j+1)=off+1+j by omega]
   exact this
theorem rS {S:Nat→Prop} {w:World} {b:Nat}:∀ {l:List Int} {off:Nat},(∀ j (h:j<l.length),w.cell? ⟨b,off+j,none⟩=some (.int .i64 l[j]))→cH S w 1 b off (l.map encI)
 | [],_,_=>trivial
 | x::r,off,h=>⟨⟨rfl,⟨_,h 0 (by simp),rfl,rfl⟩,trivial⟩,rS fun j hj=>by
   have:=h (j+1) (by simpa using hj)
   rw [show off+1+j=off+(j+1) by omega]
   exact this⟩
theorem aaQ (l:List Int) (hl:l.length<4611686018427387904):OkN Tryz.prog 133 [.sl 0 0 l.length] [.arr 1 (l.map encI)] [] (IsA (.tup []) [.arr 1 ((srt l).map encI)]):=by
 refine ⟨cal Tryz.func133 (by kernel_rfl) (by kernel_rfl),?_⟩
 intro ρ X w vals hr ha
 match vals,ha with
 | [val],⟨hv,_⟩ =>
 obtain ⟨cap,h1,h2,h3⟩:=hv
 rcases h3 with ⟨h4,a,rfl⟩|⟨hre,rfl,hroom⟩
 ·have hl0:l=[]:=ybr.1 (by omega)
  subst hl0
  refine (Tryz.slices_Sort_int_none a 0 w).mono ?_
  rintro e w' ⟨rfl,rfl⟩
  exact ⟨_,.tup [],[.arr 1 []],ρ,rfl,⟨⟨rfl,by simp [srt]⟩,yae _⟩,Fr.refl _ _,hr,⟨#[],rfl,trivial⟩,fun _ _ _=>rfl⟩
 ·have hb:=hr.blk 0 _ rfl
  obtain ⟨⟨hsz,_⟩,hb|⟨_,c,T,hc,hcs,hlen,hels⟩⟩:=hb
  ·rw [hb.1] at hre;cases hre
  have hoff:(ρ 0).off+0*(ρ 0).sz=(ρ 0).off:=by omega
  rw [hoff]
  rw [yaA] at hlen
  have hg:=fun j hj=>oR hels j hj
  have hH:Sort.Holds (Value.int .i64) w (ρ 0).blk (ρ 0).off l.toArray:=by
   intro j hj
   have hj':j<l.length:=by simpa using hj
   refine ⟨?_,by simp [World.frozen?,hc]⟩
   rw [hg j hj']
   simp [hj']
  refine (Tryz.slices_Sort_int (ρ 0).blk (ρ 0).off cap l w hH (hr.lt 0 hre) hl).mono ?_
  rintro e w' ⟨rfl,n,os,rfl⟩
  have hbl:=hr.lt 0 hre
  have hsl:(srt l).length=l.length:=y8
  have hw1:(Sort.grow (Sort.putRow (Value.int .i64) (Sort.ahead w n) (ρ 0).blk (ρ 0).off (srt l).toArray) os).heap[(ρ 0).blk]?=some (.cells (Sort.putCells (Value.int .i64) (ρ 0).off (srt l).toArray c) T (0,0)):=by
   simp only [Sort.grow,Sort.putRow,Sort.mapBlock,Sort.ahead]
   rw [ybs (by simpa using hbl),yaU,if_pos rfl,hc]
   rfl
  have hw2:∀ b,b<w.heap.size→b≠(ρ 0).blk→(Sort.grow (Sort.putRow (Value.int .i64) (Sort.ahead w n) (ρ 0).blk (ρ 0).off (srt l).toArray) os).heap[b]?=w.heap[b]?:=by
   intro b hb hne
   simp only [Sort.grow,Sort.putRow,Sort.mapBlock,Sort.ahead]
   rw [ybs (by simpa using hb),yaU,if_neg (fun h=>hne h.symm)]
  have hsize:w.heap.size≤(Sort.grow (Sort.putRow (Value.int .i64) (Sort.ahead w n) (ρ 0).blk (ρ 0).off (srt l).toArray) os).heap.size:=by
   simp [Sort.grow,Sort.putRow,Sort.mapBlock,Sort.ahead]
  have hfr:Fr ρ w ρ (Sort.grow (Sort.putRow (Value.int .i64) (Sort.ahead w n) (ρ 0).blk (ρ 0).off (srt l).toArray) os):=⟨rfl,rfl,rfl,hsize,fun b hb ho=>⟨hw2 b hb fun h=>ho ⟨0,hre,h.symm⟩,ho⟩⟩
  have hcell:∀ j (hj:j<l.length),(Sort.grow (Sort.putRow (Value.int .i64) (Sort.ahead w n) (ρ 0).blk (ρ 0).off (srt l).toArray) os).cell? ⟨(ρ 0).blk,(ρ 0).off+j,none⟩=some (.int .i64 ((srt l)[j]'(by rw [hsl];exact hj))):=by
   intro j hj
   have hjc:(ρ 0).off+j<c.size:=by rw [hcs];rw [hsz] at hroom;omega
   simp only [World.cell?,hw1]
   simp [Sort.putCells,hjc,hsl,hj]
  refine ⟨_,.tup [],[.arr 1 ((srt l).map encI)],ρ,rfl,⟨⟨rfl,rfl⟩,yae _⟩,hfr,⟨hr.inj,hr.out,fun k b hk=>?_,hr.disj,fun k hk=>Nat.lt_of_lt_of_le (hr.lt k hk) hsize,hr.xfr hfr⟩,⟨#[],rfl,trivial⟩,fun _ _ _=>rfl⟩
  cases k with
  | succ k=>simp at hk
  | zero =>
   simp only [ybt,Option.some.injEq] at hk
   subst hk
   refine ⟨⟨hsz,by omega⟩,.inr ⟨hre,_,T,hw1,by simp [Sort.putCells,hcs],by rw [yaA,hsl];exact hlen,rS fun j hj=>?_⟩⟩
   rw [hsl] at hj
   exact hcell j hj
theorem aaP (l:List Int) (hl:l.length<4611686018427387904):OkN Tryz.prog 134 [.sl 0 0 l.length] [.arr 1 (l.map encI)] [] (IsA (.sl 0 0 (Lib.compact l).length) [.arr 1 ((Lib.compact l++yaK (l.length-(Lib.compact l).length) 0).map encI)]):=by
 refine ⟨cal Tryz.func134 (by kernel_rfl) (by kernel_rfl),?_⟩
 intro ρ X w vals hr ha
 match vals,ha with
 | [val],⟨hv,_⟩ =>
 obtain ⟨cap,h1,h2,h3⟩:=hv
 rcases h3 with ⟨h4,a,rfl⟩|⟨hre,rfl,hroom⟩
 ·have hl0:l=[]:=ybr.1 (by omega)
  subst hl0
  refine (Tryz.slices_Compact_int_empty a 0 w).mono ?_
  rintro e w' ⟨rfl,rfl⟩
  refine ⟨_,.sl 0 0 0,[.arr 1 []],ρ,rfl,⟨⟨rfl,rfl⟩,yae _⟩,Fr.refl _ _,hr,?_,fun _ _ _=>rfl⟩
  exact ⟨0,yae _,yag _,.inl ⟨rfl,a,rfl⟩⟩
 ·have hb:=hr.blk 0 _ rfl
  obtain ⟨⟨hsz,_⟩,hb|⟨_,c,T,hc,hcs,hlen,hels⟩⟩:=hb
  ·rw [hb.1] at hre;cases hre
  have hoff:(ρ 0).off+0*(ρ 0).sz=(ρ 0).off:=by omega
  rw [hoff]
  rw [yaA] at hlen
  have hg:=fun j hj=>oR hels j hj
  have hH:Sort.Holds (Value.int .i64) w (ρ 0).blk (ρ 0).off l.toArray:=by
   intro j hj
   have hj':j<l.length:=by simpa using hj
   refine ⟨?_,by simp [World.frozen?,hc]⟩
   rw [hg j hj']
   simp [hj']
  refine (Tryz.slices_Compact_int (ρ 0).blk (ρ 0).off cap l w hH (by omega) (by simpa using h1)).mono ?_
  rintro e w' ⟨rfl,q,rfl⟩
  have hbl:=hr.lt 0 hre
  generalize hL:Lib.compact l++yaK (l.length-(Lib.compact l).length) 0=L
  have hsl:L.length=l.length:=by
   rw [←hL,yac,List.length_replicate]
   have:=t6 (l:=l)
   omega
  have hw1:(Sort.putRow (Value.int .i64) (Sort.ahead w q) (ρ 0).blk (ρ 0).off L.toArray).heap[(ρ 0).blk]?=some (.cells (Sort.putCells (Value.int .i64) (ρ 0).off L.toArray c) T (0,0)):=by
   simp only [Sort.putRow,Sort.mapBlock,Sort.ahead]
   rw [yaU,if_pos rfl,hc]
   rfl
  have hw2:∀ b,b<w.heap.size→b≠(ρ 0).blk→(Sort.putRow (Value.int .i64) (Sort.ahead w q) (ρ 0).blk (ρ 0).off L.toArray).heap[b]?=w.heap[b]?:=by
   intro b hb hne
   simp only [Sort.putRow,Sort.mapBlock,Sort.ahead]
   rw [yaU,if_neg (fun h=>hne h.symm)]
  have hsize:w.heap.size≤(Sort.putRow (Value.int .i64) (Sort.ahead w q) (ρ 0).blk (ρ 0).off L.toArray).heap.size:=by
   simp [Sort.putRow,Sort.mapBlock,Sort.ahead]
  have hfr:Fr ρ w ρ (Sort.putRow (Value.int .i64) (Sort.ahead w q) (ρ 0).blk (ρ 0).off L.toArray):=⟨rfl,rfl,rfl,hsize,fun b hb ho=>⟨hw2 b hb fun h=>ho ⟨0,hre,h.symm⟩,ho⟩⟩
  have hcell:∀ j (hj:j<l.length),(Sort.putRow (Value.int .i64) (Sort.ahead w q) (ρ 0).blk (ρ 0).off L.toArray).cell? ⟨(ρ 0).blk,(ρ 0).off+j,none⟩=some (.int .i64 (L[j]'(by rw [hsl];exact hj))):=by
   intro j hj
   have hjc:(ρ 0).off+j<c.size:=by rw [hcs];rw [hsz] at hroom;omega
   simp only [World.cell?,hw1]
   simp [Sort.putCells,hjc,hsl,hj]
  refine ⟨_,.sl 0 0 (Lib.compact l).length,[.arr 1 (L.map encI)],ρ,rfl,⟨⟨rfl,rfl⟩,yae _⟩,hfr,⟨hr.inj,hr.out,fun k b hk=>?_,hr.disj,fun k hk=>Nat.lt_of_lt_of_le (hr.lt k hk) hsize,hr.xfr hfr⟩,?_,fun _ _ _=>rfl⟩
  ·cases k with
   | succ k=>simp at hk
   | zero =>
    simp only [ybt,Option.some.injEq] at hk
    subst hk
    refine ⟨⟨hsz,by omega⟩,.inr ⟨hre,_,T,hw1,by simp [Sort.putCells,hcs],by rw [yaA,hsl];exact hlen,rS fun j hj=>?_⟩⟩
    rw [hsl] at hj
    exact hcell j hj
  ·have hcl:=t6 (l:=l)
   exact ⟨cap,by omega,h2,.inr ⟨hre,by simp,hroom⟩⟩
end Go.Fx.H
namespace Go.Fx.H
open Go Go.Fx Go.Proofs Go.Fx.R
set_option maxRecDepth 20000
abbrev hpM (A B o:List Sp):List Blk:=[.var [.sl 4 0 o.length],.var [aJ A],.var [aJ B],.rcd .ready [(5,.ptr 0 0 0)],.arr 2 (o.map enS)]
structure E94 (A B:List Sp) (i j n:Nat) (e:Env):Prop where
 e0:get e 0=.itr 3
 e1:get e 1=.ptr 1 0 0
 e2:get e 2=.ptr 2 0 0
 e4:get e 4=.ro 1 ((cW A B).map encI)
 e7:get e 7=.i i
 e8:get e 8=.i j
 e9:get e 9=.i n
structure Past (A:List Sp) (i:Nat) (x:Int):Prop where
 l:i≤A.length
 h:∀ j (hj:j<A.length),j<i→A[j].2≤x
theorem Past.mono {A:List Sp} {i:Nat} {x y:Int} (h:Past A i x) (hxy:x≤y):Past A i y:=⟨h.l,fun j hj hlt=>Int.le_trans (h.h j hj hlt) hxy⟩
section
variable {A B:List Sp} {fx:List Nat} {Y:Yt} {K:List Blk→Prop} {Inv:Nat→List Sp→Prop}
structure EN (E:List Int) (i j n:Nat) (e:Env):Prop where
 e0:get e 0=.itr 3
 e1:get e 1=.ptr 1 0 0
 e2:get e 2=.ptr 2 0 0
 e4:get e 4=.ro 1 (E.map encI)
 e7:get e 7=.i i
 e8:get e 8=.i j
 e9:get e 9=.i n
 e10:get e 10=.ptr 5 0 0
structure At (A:List Sp) (i:Nat) (x:Int):Prop extends Past A i x where
 s:∀ h:i<A.length,x<A[i].2
theorem At.has {A:List Sp} {i:Nat} {x:Int} (hA:Sep A) (h:At A i x):hasB A x=if h:i<A.length then decide (A[i].1≤x) else false:=by
 have hp:=yaV.1 hA.2
 rw [ybc,fR]
 constructor
 ·rintro ⟨s,hs,h1,h2⟩
  obtain ⟨k,hk,rfl⟩:=List.getElem_of_mem hs
  rcases Nat.lt_trichotomy k i with c|c|c
  ·have:=h.h k hk c;omega
  ·subst c;rw [dif_pos hk];simpa using h1
  ·have:=hp i k (by omega) hk c
   have:=h.s (by omega)
   omega
 ·intro hh
  split at hh
  ·rename_i hi
   exact ⟨A[i],yaj hi,by simpa using hh,h.s hi⟩
  ·cases hh
theorem abO {X:Nat→St→Prop} {R:St→Prop} {E:List Int} {o:List Sp} {a b:Int} {n i j bb:Nat} {e:Env} (hm:A.length≤maxLen) (he:EN E i j n e) (hP:Past A i a)
  (hX:∀ i' e' b',At A i' a→EN E i' j n e'→X 4 ⟨e',hpM A B o++[.var [.i a,.i b]],b'⟩) :
  sV [3] (fun N=>aw ⟨C0 Tryz.prog,[3],[],I0 Tryz.prog,fun k' xs s Z=>k'=3∧Y xs s Z,none⟩ c132l2 N X R) ⟨e,hpM A B o++[.var [.i a,.i b]],bb⟩:=by
 have e0:=he.e0;have e1:=he.e1;have e2:=he.e2;have e4:=he.e4;have e7:=he.e7;have e8:=he.e8;have e9:=he.e9;have e10:=he.e10
 refine aY (fun i:Nat=>⟨[(10,.ptr 5 0 0),(9,.i n),(8,.i j),(7,.i i),(4,.ro 1 (E.map encI)),(2,.ptr 2 0 0),(1,.ptr 1 0 0),(0,.itr 3)],hpM A B o++[.var [.i a,.i b]],0⟩) (fun i=>Past A i a) (fun i=>A.length-i) i hP ?_ ?_
 ·simp -implicitDefEqProofs only [rX,↓reduceIte,leE,leH,leB,leV,cN,aD,aB,wfE,wfB,wfV,wfL,e0,e1,e2,e4,e7,e8,e9,e10,or_true]
 intro i hP
 have hl:=hP.l
 unfold c132l2
 rcases yaB i A.length with h1|h1
 ·have hd:decide ((i:Int)<(A.length:Int))=true:=decide_eq_true (by omega)
  cases h2:decide (A[i].2≤a) with
  | true =>
   simp -implicitDefEqProofs only [rX,↓rY,aA,↓reduceIte,Nat.reduceEqDiff,Nat.reduceAdd,reduceCtorEq,leE,leH,leB,leV,cN,aD,aB,wfE,wfB,wfV,wfL,yad,yab,fJ,hd,h2]
   refine fun _=>⟨⟨by omega,by omega⟩,h1,by simp only [lo,hi,maxLen] at *;omega,i+1,⟨⟨by omega,fun k hk hlt=>?_⟩,by omega⟩,by simp⟩
   by_cases c:k=i
   ·subst c;simpa using h2
   ·exact hP.h k hk (by omega)
  | false =>
   simp -implicitDefEqProofs only [rX,↓rY,↓reduceIte,Nat.reduceEqDiff,Nat.reduceAdd,yad,yab,fJ,hd,h2]
   refine fun _=>⟨⟨by omega,by omega⟩,h1,hX i _ _ ⟨hP,fun _=>by simpa using h2⟩ ⟨rfl,rfl,rfl,rfl,rfl,rfl,rfl,rfl⟩⟩
 ·have hd:decide ((i:Int)<(A.length:Int))=false:=decide_eq_false (by omega)
  simp -implicitDefEqProofs only [rX,↓rY,aA,↓reduceIte,Nat.reduceEqDiff,Nat.reduceAdd,hd]
  exact fun _=>hX i _ _ ⟨hP,fun h=>absurd h (by omega)⟩ ⟨rfl,rfl,rfl,rfl,rfl,rfl,rfl,rfl⟩
theorem abN {X:Nat→St→Prop} {R:St→Prop} {E:List Int} {o:List Sp} {a b:Int} {n i j bb:Nat} {e:Env} (hm:B.length≤maxLen) (he:EN E i j n e) (hP:Past B j a)
  (hX:∀ j' e' b',At B j' a→EN E i j' n e'→X 6 ⟨e',hpM A B o++[.var [.i a,.i b]],b'⟩) :
  sV [3] (fun N=>aw ⟨C0 Tryz.prog,[3],[],I0 Tryz.prog,fun k' xs s Z=>k'=3∧Y xs s Z,none⟩ c132l3 N X R) ⟨e,hpM A B o++[.var [.i a,.i b]],bb⟩:=by
 have e0:=he.e0;have e1:=he.e1;have e2:=he.e2;have e4:=he.e4;have e7:=he.e7;have e8:=he.e8;have e9:=he.e9;have e10:=he.e10
 refine aY (fun j:Nat=>⟨[(10,.ptr 5 0 0),(9,.i n),(8,.i j),(7,.i i),(4,.ro 1 (E.map encI)),(2,.ptr 2 0 0),(1,.ptr 1 0 0),(0,.itr 3)],hpM A B o++[.var [.i a,.i b]],0⟩) (fun j=>Past B j a) (fun j=>B.length-j) j hP ?_ ?_
 ·simp -implicitDefEqProofs only [rX,↓reduceIte,leE,leH,leB,leV,cN,aD,aB,wfE,wfB,wfV,wfL,e0,e1,e2,e4,e7,e8,e9,e10,or_true]
 intro j hP
 have hl:=hP.l
 unfold c132l3
 rcases yaB j B.length with h1|h1
 ·have hd:decide ((j:Int)<(B.length:Int))=true:=decide_eq_true (by omega)
  cases h2:decide (B[j].2≤a) with
  | true =>
   simp -implicitDefEqProofs only [rX,↓rY,aA,↓reduceIte,Nat.reduceEqDiff,Nat.reduceAdd,reduceCtorEq,leE,leH,leB,leV,cN,aD,aB,wfE,wfB,wfV,wfL,yad,yab,fJ,hd,h2]
   refine fun _=>⟨⟨by omega,by omega⟩,h1,by simp only [lo,hi,maxLen] at *;omega,j+1,⟨⟨by omega,fun k hk hlt=>?_⟩,by omega⟩,by simp⟩
   by_cases c:k=j
   ·subst c;simpa using h2
   ·exact hP.h k hk (by omega)
  | false =>
   simp -implicitDefEqProofs only [rX,↓rY,↓reduceIte,Nat.reduceEqDiff,Nat.reduceAdd,yad,yab,fJ,hd,h2]
   refine fun _=>⟨⟨by omega,by omega⟩,h1,hX j _ _ ⟨hP,fun _=>by simpa using h2⟩ ⟨rfl,rfl,rfl,rfl,rfl,rfl,rfl,rfl⟩⟩
 ·have hd:decide ((j:Int)<(B.length:Int))=false:=decide_eq_false (by omega)
  simp -implicitDefEqProofs only [rX,↓rY,aA,↓reduceIte,Nat.reduceEqDiff,Nat.reduceAdd,hd]
  exact fun _=>hX j _ _ ⟨hP,fun h=>absurd h (by omega)⟩ ⟨rfl,rfl,rfl,rfl,rfl,rfl,rfl,rfl⟩
theorem abU (hA:Vd A) (hB:Vd B) (hfx:fx=[3])
  (hY:∀ n o (hn:n<(pieces (cW A B)).length),Inv n o→∀ (e:Env) (bb:Nat) (Z:V→St→Prop) (i j:Nat),E94 A B i j (n+1) e →
   (∀ e' o' tl,E94 A B i j (n+1) e'→Inv (n+1) o'→Z (.b true) ⟨e',hpM A B o'++tl,bb⟩) →
   Y [.agg (enS (pieces (cW A B))[n]),.agg [.b (hasB A (pieces (cW A B))[n].1),.b (hasB B (pieces (cW A B))[n].1)]] ⟨e,hpM A B o++[.var (enS (pieces (cW A B))[n])],bb⟩ Z)
  (hK:∀ o,Inv (pieces (cW A B)).length o→K (hpM A B o)) (o:List Sp) (ho:Inv 0 o) :
  I0 Tryz.prog 132 [.itr 3,.ptr 1 0 0,.ptr 2 0 0] fx 3 Y (hpM A B o) K:=by
 refine Fw pol fx lw132 (by simp) ?_
 subst hfx
 have hal:=hA.len
 have hbl:=hB.len
 unfold c132
 simp -implicitDefEqProofs only [rX,↓rY,aA,cells?,↓reduceIte,Nat.reduceEqDiff,Nat.reduceAdd,reduceCtorEq,aE,bQ,isD,Nat.reduceLT,aF]
 refine dV [.bro 1 ([A,B].map enL)] (.sl 0 0 (A++B).length) (.sl 6 0 (A++B).length) [.arr 2 ((A++B).map enS)] [.arr 2 ((A++B).map enS)] ?_ ?_ ?_ ?_ ?_ ?_
 ·have:=Zm [A,B] (by simp;omega)
  rw [show [A,B].flatten=A++B by simp] at this
  exact this
 ·simp [aH,aZ,aT,cJ,wkL,wk,wkB,blk,enL]
 ·simp [ren]
 ·simp [bW]
 ·simp [aD,aB]
 simp -implicitDefEqProofs only [rX,↓rY,aA,↓reduceIte]
 intro hm
 rw [←yac] at *
 have hcl:(A++B).length≤2199023255552:=by rw [yac];omega
 have hbd:∀ s∈A++B,(0≤s.1∧s.1≤1099511627776)∧0≤s.2∧s.2≤1099511627776:=fun s hs=>(yaD.1 hs).elim (hA.2 s) (hB.2 s)
 have hE:cW A B=Lib.compact (srt (dU (A++B))):=rfl
 generalize hC:A++B=C at *
 refine dH (.virt 1 1 (by decide) (.nilE 4 7 rfl (.refl _))) (fun k:Nat=>⟨[(16,.i k),(15,.i C.length),(14,.sl 6 0 C.length),(4,.sl 7 0 (dU (C.take k)).length),(2,.ptr 2 0 0),(1,.ptr 1 0 0),(0,.itr 3)],hpM A B o++[.dead,.arr 2 (C.map enS),.arr 1 ((dU (C.take k)).map encI)],0⟩) (fun k=>k≤C.length) (fun k=>C.length-k) 0 (by omega) ?_ ?_
 ·simp -implicitDefEqProofs only [rX,↓reduceIte,Nat.reduceEqDiff,reduceCtorEq,leE,leH,leB,leV,cN,aD,aB,wfE,wfB,wfV,wfL,yar,yaz,dU,List.flatMap_nil,or_true]
 intro k hk
 have hel:(dU (C.take k)).length=2*k:=by rw [p8,yai];omega
 unfold c132l0
 rcases yaB k C.length with hk1|hk1
 ·have hd:decide ((k:Int)<(C.length:Int))=true:=decide_eq_true (by omega)
  have hst:dU (C.take (k+1))=dU (C.take k)++[C[k].1,C[k].2]:=by
   unfold dU
   rw [yaq,yah hk1,ybu];simp
  simp -implicitDefEqProofs only [rX,↓rY,aA,cells?,splice,↓reduceIte,Nat.reduceEqDiff,fM,Nat.reduceAdd,reduceCtorEq,aE,bQ,leE,leH,leB,leV,cN,aD,aB,wfE,wfB,wfV,wfL,aR,aU,kill,bL,St.kill,isD,Nat.reduceLT,yad,yab,bJ,bG,i4,fJ,jR,eX,hd]
  have htk:yaf (dU (C.take k)).length ((dU (C.take k)).map encI)=(dU (C.take k)).map encI:=yaa (by rw [yaA];exact yae _)
  refine ⟨⟨by omega,by omega⟩,hk1,by omega,by simp only [lo,hi];omega,k+1,⟨by omega,by omega⟩,?_⟩
  rw [htk,hst,yac,yap]
  exact ⟨⟨by simp,rfl⟩,.inl trivial,rfl⟩
 ·have hd:decide ((k:Int)<(C.length:Int))=false:=decide_eq_false (by omega)
  rw [yaa hk1]
  have hel2:(dU C).length=2*C.length:=p8
  simp -implicitDefEqProofs only [rX,↓rY,↓reduceIte,Nat.reduceEqDiff,Nat.reduceAdd,hd]
  refine eQ [7] [.sl 0 0 (dU C).length] (.tup []) (.tup []) [.arr 1 ((dU C).map encI)] [.arr 1 ((srt (dU C)).map encI)] _ (aaQ (dU C) (by omega)) (by simp) (by simp [blk,bW]) (by simp [aH,aZ,aT,cJ,wkL,wk,pos]) (by simp) rfl rfl (by simp [aD,aB,bZ,bW]) ?_
  simp -implicitDefEqProofs only [rX,↓reduceIte,Nat.reduceEqDiff,Nat.reduceAdd,bZ,bW]
  have hsl:(srt (dU C)).length=(dU C).length:=y8
  have h97:=aaP (srt (dU C)) (by omega)
  rw [←hE] at h97
  have hEl:(cW A B).length≤(dU C).length:=by rw [←hsl,hE];exact t6
  generalize hZ:cW A B++yaK ((srt (dU C)).length-(cW A B).length) 0=Z at h97
  have hZt:yaf (cW A B).length (Z.map encI)=(cW A B).map encI:=by
   rw [←hZ,yap,List.take_left' (by simp)]
  have hZl:(cW A B).length≤Z.length:=by rw [←hZ];simp
  rw [←hsl]
  refine eQ [7] [.sl 0 0 (srt (dU C)).length] (.sl 0 0 (cW A B).length) (.sl 7 0 (cW A B).length) [.arr 1 ((srt (dU C)).map encI)] [.arr 1 (Z.map encI)] _ h97 (by simp) (by simp [blk,bW]) (by simp [aH,aZ,aT,cJ,wkL,wk,pos]) (by simp) rfl (by simp [ren,back]) (by simp [aD,aB,bZ,bW]) ?_
  simp -implicitDefEqProofs only [rX,aA,↓reduceIte,Nat.reduceAdd,bZ,bW]
  refine dH (.give (fun k=>k==7) (by simp) (.refl _)) (fun g:(Nat × Nat × Nat) × List Sp=>⟨[(9,.i (g.1.1+1:Nat)),(8,.i g.1.2.2),(7,.i g.1.2.1),(4,.ro 1 ((cW A B).map encI)),(2,.ptr 2 0 0),(1,.ptr 1 0 0),(0,.itr 3)],hpM A B g.2,0⟩)
   (fun g=>g.1.1≤(pieces (cW A B)).length∧(∀ h:g.1.1<(pieces (cW A B)).length,Past A g.1.2.1 (pieces (cW A B))[g.1.1].1∧Past B g.1.2.2 (pieces (cW A B))[g.1.1].1)∧Inv g.1.1 g.2) (fun g=>(pieces (cW A B)).length-g.1.1) ((0,0,0),o) ⟨yag _,fun h=>⟨⟨yag _,fun j hj h=>absurd h (Nat.not_lt_zero _)⟩,⟨yag _,fun j hj h=>absurd h (Nat.not_lt_zero _)⟩⟩,ho⟩ ?_ ?_
  ·simp -implicitDefEqProofs only [rX,↓reduceIte,Nat.reduceEqDiff,Nat.reduceAdd,reduceCtorEq,leE,leH,leB,leV,cN,aD,aB,wfE,wfB,wfV,wfL,St.give,gvE,gvV,gvH,gvB,gvL,ybd]
   rw [if_pos hZl,hZt]
   exact ⟨⟨rfl,rfl,rfl,rfl⟩,.inl trivial⟩
  rintro ⟨⟨n,i,j⟩,o⟩ ⟨hn,hP,hI⟩
  simp only at hn hP hI
  have hpl:=fZ (E:=cW A B)
  have hasc:Asc (cW A B):=lE
  generalize hEE:cW A B=E at *
  unfold c132l1
  rcases yaB n (pieces E).length with hn1|hn1
  ·have hd:decide (((n+1:Nat):Int)<(E.length:Int))=true:=decide_eq_true (by omega)
   obtain ⟨hPA,hPB⟩:=hP hn1
   have hg:=l6 hn1
   have hlt:=rU hasc (yaj hn1)
   have he1:n<E.length:=by omega
   have he2:n+1<E.length:=by omega
   have hm1:(((n+1:Nat):Int)-1).toNat=n:=by omega
   simp -implicitDefEqProofs only [rX,↓rY,rdK,aA,cells?,splice,↓reduceIte,Nat.reduceEqDiff,Nat.reduceAdd,aE,bO,isC,Nat.reduceLeDiff,yad,yab,Xh,hd,hm1]
   refine fun hmE=>⟨by simp only [lo,hi,maxLen] at *;omega,⟨by omega,by omega⟩,he1,⟨by omega,by omega⟩,he2,?_⟩
   have hp1:(pieces E)[n].1=E[n]:=by rw [hg]
   have hp2:enS (pieces E)[n]=[.i E[n],.i E[n+1]]:=by rw [hg];rfl
   have hYn:=hY n o hn1 hI
   rw [hp2,hp1] at hYn
   rw [hp1] at hPA hPB
   refine abO (by simp only [maxLen];omega) ⟨rfl,rfl,rfl,rfl,rfl,rfl,rfl,rfl⟩ hPA ?_
   intro i' e' b1 hAt he'
   simp -implicitDefEqProofs only [rX,↓reduceIte]
   refine abN (by simp only [maxLen];omega) he' hPB ?_
   clear he'
   intro j' e' b2 hBt he'
   have q0:=he'.e0;have q1:=he'.e1;have q2:=he'.e2;have q4:=he'.e4;have q7:=he'.e7;have q8:=he'.e8;have q9:=he'.e9;have q10:=he'.e10
   have hfa:=hAt.has hA.1
   have hfb:=hBt.has hB.1
   simp -implicitDefEqProofs only [rX,↓rY,rZ,↓rW,aA,cells?,splice,↓reduceIte,Nat.reduceEqDiff,Nat.reduceAdd,bO,Nat.reduceLeDiff,yad,yab,i4,Eo,Uu,Up,Kr,q0,q1,q2,q7,q8,q10]
   have hmono:∀ h:n+1<(pieces E).length,E[n]≤(pieces E)[n+1].1:=fun h=>by
    rw [l6 h]
    have:=(yaV.1 hasc) n (n+1) he1 he2 (by omega)
    simp only
    omega
   rcases Decidable.em (i'<A.length) with a1|a1<;>rcases Decidable.em (j'<B.length) with c1|c1
   ·
    rw [dif_pos a1] at hfa
    rw [dif_pos c1] at hfb
    rw [hfa,hfb] at hYn
    have hdA:decide ((i':Int)<(A.length:Int))=true:=decide_eq_true (by omega)
    have hdB:decide ((j':Int)<(B.length:Int))=true:=decide_eq_true (by omega)
    simp only [hdA,hdB,kb,kc]
    refine fun _=>⟨⟨by omega,by omega⟩,a1,fun _=>⟨⟨by omega,by omega⟩,c1,⟨rfl,?_⟩⟩⟩
    refine hYn _ _ _ i' j' ⟨by first|rfl|exact q0,by first|rfl|exact q1,by first|rfl|exact q2,by rw [hEE];exact q4,by first|rfl|exact q7,by first|rfl|exact q8,by first|rfl|exact q9⟩ ?_
    intro e3 o3 tl he3 hI3
    have r0:=he3.e0;have r1:=he3.e1;have r2:=he3.e2;have r4:=he3.e4;have r7:=he3.e7;have r8:=he3.e8;have r9:=he3.e9
    simp -implicitDefEqProofs only [rX,↓rY,rZ,aA,↓reduceIte,Nat.reduceEqDiff,reduceCtorEq,leE,leH,leB,leV,cN,aD,aB,wfE,wfB,wfV,wfL,rF,r9]
    refine ⟨by simp only [lo,hi,maxLen] at *;omega,((n+1,i',j'),o3),⟨⟨by simp only;omega,fun h=>⟨hAt.toPast.mono (hmono h),hBt.toPast.mono (hmono h)⟩,hI3⟩,by simp only;omega⟩,?_⟩
    simp -implicitDefEqProofs only [rX,r0,r1,r2,r4,r7,r8]
    exact ⟨⟨by simp,by rw [hEE]⟩,.inl trivial⟩
   ·
    rw [dif_pos a1] at hfa
    rw [dif_neg c1] at hfb
    rw [hfa,hfb] at hYn
    have hdA:decide ((i':Int)<(A.length:Int))=true:=decide_eq_true (by omega)
    have hdB:decide ((j':Int)<(B.length:Int))=false:=decide_eq_false (by omega)
    simp only [hdA,hdB,kb,kc]
    refine fun _=>⟨⟨by omega,by omega⟩,a1,fun _=>⟨rfl,?_⟩⟩
    refine hYn _ _ _ i' j' ⟨by first|rfl|exact q0,by first|rfl|exact q1,by first|rfl|exact q2,by rw [hEE];exact q4,by first|rfl|exact q7,by first|rfl|exact q8,by first|rfl|exact q9⟩ ?_
    intro e3 o3 tl he3 hI3
    have r0:=he3.e0;have r1:=he3.e1;have r2:=he3.e2;have r4:=he3.e4;have r7:=he3.e7;have r8:=he3.e8;have r9:=he3.e9
    simp -implicitDefEqProofs only [rX,↓rY,rZ,aA,↓reduceIte,Nat.reduceEqDiff,reduceCtorEq,leE,leH,leB,leV,cN,aD,aB,wfE,wfB,wfV,wfL,rF,r9]
    refine ⟨by simp only [lo,hi,maxLen] at *;omega,((n+1,i',j'),o3),⟨⟨by simp only;omega,fun h=>⟨hAt.toPast.mono (hmono h),hBt.toPast.mono (hmono h)⟩,hI3⟩,by simp only;omega⟩,?_⟩
    simp -implicitDefEqProofs only [rX,r0,r1,r2,r4,r7,r8]
    exact ⟨⟨by simp,by rw [hEE]⟩,.inl trivial⟩
   ·
    rw [dif_neg a1] at hfa
    rw [dif_pos c1] at hfb
    rw [hfa,hfb] at hYn
    have hdA:decide ((i':Int)<(A.length:Int))=false:=decide_eq_false (by omega)
    have hdB:decide ((j':Int)<(B.length:Int))=true:=decide_eq_true (by omega)
    simp only [hdA,hdB,kb,kc]
    refine fun _=>fun _=>⟨⟨by omega,by omega⟩,c1,⟨rfl,?_⟩⟩
    refine hYn _ _ _ i' j' ⟨by first|rfl|exact q0,by first|rfl|exact q1,by first|rfl|exact q2,by rw [hEE];exact q4,by first|rfl|exact q7,by first|rfl|exact q8,by first|rfl|exact q9⟩ ?_
    intro e3 o3 tl he3 hI3
    have r0:=he3.e0;have r1:=he3.e1;have r2:=he3.e2;have r4:=he3.e4;have r7:=he3.e7;have r8:=he3.e8;have r9:=he3.e9
    simp -implicitDefEqProofs only [rX,↓rY,rZ,aA,↓reduceIte,Nat.reduceEqDiff,reduceCtorEq,leE,leH,leB,leV,cN,aD,aB,wfE,wfB,wfV,wfL,rF,r9]
    refine ⟨by simp only [lo,hi,maxLen] at *;omega,((n+1,i',j'),o3),⟨⟨by simp only;omega,fun h=>⟨hAt.toPast.mono (hmono h),hBt.toPast.mono (hmono h)⟩,hI3⟩,by simp only;omega⟩,?_⟩
    simp -implicitDefEqProofs only [rX,r0,r1,r2,r4,r7,r8]
    exact ⟨⟨by simp,by rw [hEE]⟩,.inl trivial⟩
   ·
    rw [dif_neg a1] at hfa
    rw [dif_neg c1] at hfb
    rw [hfa,hfb] at hYn
    have hdA:decide ((i':Int)<(A.length:Int))=false:=decide_eq_false (by omega)
    have hdB:decide ((j':Int)<(B.length:Int))=false:=decide_eq_false (by omega)
    simp only [hdA,hdB,kb,kc]
    refine fun _=>fun _=>⟨rfl,?_⟩
    refine hYn _ _ _ i' j' ⟨by first|rfl|exact q0,by first|rfl|exact q1,by first|rfl|exact q2,by rw [hEE];exact q4,by first|rfl|exact q7,by first|rfl|exact q8,by first|rfl|exact q9⟩ ?_
    intro e3 o3 tl he3 hI3
    have r0:=he3.e0;have r1:=he3.e1;have r2:=he3.e2;have r4:=he3.e4;have r7:=he3.e7;have r8:=he3.e8;have r9:=he3.e9
    simp -implicitDefEqProofs only [rX,↓rY,rZ,aA,↓reduceIte,Nat.reduceEqDiff,reduceCtorEq,leE,leH,leB,leV,cN,aD,aB,wfE,wfB,wfV,wfL,rF,r9]
    refine ⟨by simp only [lo,hi,maxLen] at *;omega,((n+1,i',j'),o3),⟨⟨by simp only;omega,fun h=>⟨hAt.toPast.mono (hmono h),hBt.toPast.mono (hmono h)⟩,hI3⟩,by simp only;omega⟩,?_⟩
    simp -implicitDefEqProofs only [rX,r0,r1,r2,r4,r7,r8]
    exact ⟨⟨by simp,by rw [hEE]⟩,.inl trivial⟩
  ·have hd:decide (((n+1:Nat):Int)<(E.length:Int))=false:=decide_eq_false (by omega)
   have hne:n=(pieces E).length:=by omega
   subst hne
   have:=hK o hI
   simp -implicitDefEqProofs only [rX,↓rY,↓reduceIte,Nat.reduceEqDiff,Nat.reduceAdd,hd]
   exact fun _=>this
end
end Go.Fx.H
namespace Go.Fx.H
open Go Go.Fx Go.Proofs Go.Fx.R
set_option maxRecDepth 20000
theorem aeD (A B:List Sp):Ok 86 [aJ A,aJ B] (IsA (.clo 132 [.ptr 0 0 0,.ptr 1 0 0]) [.var [aJ A],.var [aJ B]]):=by
 refine bA lw86 (by simp) ?_
 unfold c86
 simp -implicitDefEqProofs only [rX,↓rY,aA,cells?,↓reduceIte,Nat.reduceEqDiff,Nat.reduceAdd,reduceCtorEq,aE,aP,aQ,leH,leB,leV,cN,aD,aB,wfB,wfV,wfL,Nat.reduceLeDiff,cxN,aF,bN]
theorem Jm {l:List Sp} {n:Nat} (h:n=l.length):yaf n (l.map enS)=l.map enS:=yaa (by simp [h])
def oO (f:Bool→Bool→Bool) (A B:List Sp) (n:Nat):List Sp:=((pieces (cW A B)).take n).filter fun s=>f (hasB A s.1) (hasB B s.1)
theorem Jq {f:Bool→Bool→Bool} {A B:List Sp} {n:Nat} (h:n<(pieces (cW A B)).length):oO f A B (n+1)=oO f A B n++if f (hasB A (pieces (cW A B))[n].1) (hasB B (pieces (cW A B))[n].1) then [(pieces (cW A B))[n]] else []:=by
 unfold oO
 rw [yaq,yah h,List.filter_append,Option.toList_some]
 congr 1
 rw [List.filter_cons,List.filter_nil]
theorem Ma {f:Bool→Bool→Bool} {A B:List Sp}:ofS (oO f A B (pieces (cW A B)).length)=Rb f A B:=by
 unfold oO Rb
 rw [yaW]
theorem Cg {f:Bool→Bool→Bool} {A B:List Sp} {n:Nat} (hA:Vd A) (hB:Vd B):(oO f A B n).length≤4398046511104:=by
 have h1:(oO f A B n).length≤(pieces (cW A B)).length:=by
  unfold oO
  refine Nat.le_trans (ybv _ _) ?_
  rw [yai];omega
 have h2:=fZ (E:=cW A B)
 have h3:(cW A B).length≤(dU (A++B)).length:=Qt
 rw [p8,yac] at h3
 have:=hA.len
 have:=hB.len
 omega
theorem Lz {f:Bool→Bool→Bool} {A B:List Sp} {n:Nat} (hA:Vd A) (hB:Vd B):Mid (oO f A B n):=by
 intro s hs
 unfold oO at hs
 rw [ybe] at hs
 obtain ⟨_,h1,_,_⟩:=rU lE (ybf hs.1)
 unfold cW at h1
 rw [jZ.2,m7] at h1
 obtain ⟨t,ht,h2⟩:=h1
 have:(0≤t.1∧t.1≤1099511627776)∧0≤t.2∧t.2≤1099511627776:=(yaD.1 ht).elim (hA.2 t) (hB.2 t)
 omega
end Go.Fx.H
namespace Go.Fx.H
open Go Go.Fx Go.Proofs Go.Fx.R
set_option maxRecDepth 20000
theorem aeQ (A B:List Sp) (hA:Vd A) (hB:Vd B):Ok 46 [aJ A,aJ B] (Is (aJ (eN A B))):=by
 rw [←Jp hA.1,←Ma]
 refine bA lw46 (by simp) ?_
 unfold c46
 simp -implicitDefEqProofs only [rX,↓rY,aA,cells?,↓reduceIte,Nat.reduceEqDiff,reduceCtorEq,aE,cxN,aF]
 refine dV [aJ A,aJ B] (.clo 132 [.ptr 0 0 0,.ptr 1 0 0]) (.clo 132 [.ptr 1 0 0,.ptr 2 0 0]) [.var [aJ A],.var [aJ B]] [.var [aJ A],.var [aJ B]] (aeD A B) ⟨⟨trivial,trivial,trivial⟩,⟨rfl,rfl⟩,⟨rfl,rfl⟩,trivial⟩ (by simp [ren,cI]) (by simp [bW,cI,ren]) trivial ?_
 simp -implicitDefEqProofs only [rX]
 refine uR 3 rfl rfl trivial ?_
 refine rE (as':=[.itr 3,.ptr 1 0 0,.ptr 2 0 0]) (h':=hpM A B []) rfl ⟨_,.virt 1 2 (by decide) (.nilB 0 [.nil] [.sl 4 0 0] rfl ⟨rfl,fun i a b h1 h2=>?_⟩ (.refl _)),?_⟩ (abU hA hB rfl (Inv:=fun n o=>o=oO (fun x y=>x&&!y) A B n) ?_ ?_ _ ?_)
 ·match i with
  | 0=>simp at h1 h2;subst h1 h2;exact .inr ⟨rfl,_,rfl⟩
  | i+1=>simp at h1
 ·simp -implicitDefEqProofs only [rX,↓reduceIte,Nat.reduceEqDiff,Nat.reduceAdd,reduceCtorEq,leE,leH,leB,leV,cN,aD,aB,wfE,wfB,wfV,wfL,aF,yaz,or_true]
 ·rintro n o hn rfl e bb Z i j he hZ
  have hst:=Jq (f:=fun x y=>x&&!y) (A:=A) (B:=B) hn
  have hlen:=Cg (f:=fun x y=>x&&!y) (n:=n) hA hB
  have hnext:∀ (e':Env) o',E94 A B i j (n+1) e'→o'=oO (fun x y=>x&&!y) A B (n+1)→∀ tl,Z (.b true) ⟨e',hpM A B o'++tl,bb⟩:=fun e' o' h1 h2 tl=>hZ e' o' tl h1 h2
  have hkill:E94 A B i j (n+1) (aR [4] e):=by
   refine ⟨?_,?_,?_,?_,?_,?_,?_⟩<;>rw [bF]
   ·rw [he.e0];simp [kill]
   ·rw [he.e1];simp [kill]
   ·rw [he.e2];simp [kill]
   ·rw [he.e4];rfl
   ·rw [he.e7];rfl
   ·rw [he.e8];rfl
   ·rw [he.e9];rfl
  generalize oO (fun x y=>x&&!y) A B n=o at *
  have htk:yaf o.length (o.map enS)=o.map enS:=Jm rfl
  refine Bt 6 rfl rfl rfl ?_
  unfold c46a0
  cases hfa:hasB A (pieces (cW A B))[n].1 with
  | false =>
   rw [hfa] at hst
   simp -implicitDefEqProofs only [rX,↓rY,rZ,↓rW,aA,cells?,splice,↓reduceIte,Nat.reduceEqDiff,Nat.reduceAdd,aE,isC,bJ,jR,gW]
   unfold c46r0
   simp -implicitDefEqProofs only [rX,↓rY,rZ,↓rW,aA,cells?,splice,↓reduceIte,Nat.reduceEqDiff,Nat.reduceAdd,reduceCtorEq,aE,bQ,aR,aU,kill,bL,St.kill,isC,Nat.reduceLT,yaX,bJ,bG,mO,eX,show yaC 0=0 from rfl,show yaC 1=1 from rfl,ybg]
   refine ⟨by omega,?_⟩
   exact hnext e o he (by rw [hst];simp) [_,_,_,_]
  | true =>
   cases hfb:hasB B (pieces (cW A B))[n].1 with
   | false =>
    rw [hfa,hfb] at hst
    simp -implicitDefEqProofs only [rX,↓rY,rZ,↓rW,aA,cells?,splice,↓reduceIte,Nat.reduceEqDiff,Nat.reduceAdd,aE,isC,bJ,jR,gW]
    unfold c46r0
    simp -implicitDefEqProofs only [rX,↓rY,rZ,↓rW,aA,cells?,splice,↓reduceIte,Nat.reduceEqDiff,Nat.reduceAdd,reduceCtorEq,aE,bQ,aR,aU,kill,bL,St.kill,isC,Nat.reduceLT,yaX,bJ,bG,mO,eX,show yaC 0=0 from rfl,show yaC 1=1 from rfl,ybg]
    refine ⟨by omega,by omega,by omega,?_⟩
    have:=hnext _ (o++[(pieces (cW A B))[n]]) hkill (by rw [hst];simp) [.var (enS (pieces (cW A B))[n]),.dead,.var (enS (pieces (cW A B))[n]),.var [.b true,.b false],.arr 2 [enS (pieces (cW A B))[n]],.dead]
    simp only [hpM,yac,yaN,ybh,yap,List.map_cons,List.map_nil,yaO,yaE,Nat.zero_add] at this
    rw [htk]
    exact this
   | true =>
    rw [hfa,hfb] at hst
    simp -implicitDefEqProofs only [rX,↓rY,rZ,↓rW,aA,cells?,splice,↓reduceIte,Nat.reduceEqDiff,Nat.reduceAdd,aE,isC,bJ,jR,gW]
    unfold c46r0
    simp -implicitDefEqProofs only [rX,↓rY,rZ,↓rW,aA,cells?,splice,↓reduceIte,Nat.reduceEqDiff,Nat.reduceAdd,reduceCtorEq,aE,bQ,aR,aU,kill,bL,St.kill,isC,Nat.reduceLT,yaX,bJ,bG,mO,eX,show yaC 0=0 from rfl,show yaC 1=1 from rfl,ybg]
    refine ⟨by omega,by omega,?_⟩
    exact hnext e o he (by rw [hst];simp) [_,_,_,_]
 ·rintro o rfl
  have hlen:=Cg (f:=fun x y=>x&&!y) (n:=(pieces (cW A B)).length) hA hB
  have hmid:=Lz (f:=fun x y=>x&&!y) (n:=(pieces (cW A B)).length) hA hB
  simp -implicitDefEqProofs only [rX,↓rY,rZ,↓rW,↓reduceIte,Nat.reduceAdd,aB,wfE,wfB,wfV,wfL]
  generalize oO (fun x y=>x&&!y) A B (pieces (cW A B)).length=o at *
  refine w6 o rfl hlen hmid rfl rfl (by simp) trivial ?_
  simp -implicitDefEqProofs only [rX,↓reduceIte,reduceCtorEq,aP,aQ,wfV,aR,aU,kill,bL,St.kill]
 ·simp [oO]
theorem d5 {cx:Cx} {f:FuncId} {args:List V} {e:Env} {h:List Blk} {b:Nat} {K:V→St→Prop} (ι mv M:List Nat) (xs:List V) (x x':V) (h0 h1 h':List Blk) (e':Env) (hC:cx.C f xs h0 mv (IsA x h1))
  (hι:ι.Nodup∧∀ k∈ι,k<h.length∧k∉cx.bn) (hM:mv.filterMap (ι[·]?)=M∧∀ j∈mv,∀ k,ι[j]?=some k→k∉cx.fx) (r0:ι.map (fun k=>bW (pos ι) (blk h k))=h0) (ha:aH h (pos ι) args∧wkL xs (aT h (pos ι) args))
  (hh:bZ ι (h1.map (bW (back ι h.length))) (h.map (aU M))=h') (hx:ren (back ι h.length) x=x') (he:aR M e=e') (keep:aD cx.fx h') (h3:K x' ⟨e',h',b⟩):eR cx f args ⟨e,h,b⟩ K:=by
 refine ⟨ι,xs,mv,IsA x h1,⟨hι,hM.2⟩,ha.1,ha.2,by rw [r0];exact hC,?_⟩
 rintro r h2 ⟨rfl,rfl⟩ _
 rw [hM.1,hh,hx,he]
 exact ⟨keep,h3⟩
end Go.Fx.H
namespace Go.Fx.H
open Go Go.Fx Go.Proofs Go.Fx.R
set_option maxRecDepth 20000
def nb (n b:Nat):Nat:=(n+b-1)/b
theorem sU {n b j:Nat} (hb:1≤b):j*b<n↔j<nb n b:=by
 unfold nb
 have h:=Nat.le_div_iff_mul_le (x:=j+1) (y:=n+b-1) (k:=b) (by omega)
 rw [Nat.succ_mul] at h
 omega
theorem Ia {n b:Nat} (hb:1≤b):nb n b≤n:=by
 rcases yat (nb n b) with h|h
 ·omega
 ·have:=(sU (n:=n) (j:=nb n b-1) hb).2 (by omega)
  have h2:nb n b-1≤(nb n b-1)*b:=ybi _ hb
  omega
theorem Nj {n b:Nat} (hb:1≤b):nH n b=nb n b:=by
 rw [Bc (by omega) (by omega)]
 unfold nb
 have:((n:Int)+b-1)=((n+b-1:Nat):Int):=by omega
 rw [this,Int.natCast_ediv]
def bk (t:Bs) (b j:Nat):Bs:=(t.drop (j*b)).take b
theorem Pl {t:Bs} {b j:Nat}:(t.take (min t.length (j*b+b))).drop (j*b)=bk t b j:=by
 unfold bk
 rw [List.drop_take]
 rcases Nat.le_total (j*b+b) t.length with h|h
 ·rw [Nat.min_eq_right h];congr 1;omega
 ·rw [Nat.min_eq_left h,yaa (by simp),yaa (by simp;omega)]
theorem o8 {t:Bs} {b j:Nat}:(bk t b j).length=min b (t.length-j*b):=by simp [bk]
def Pk (t:Bs) (b:Nat):List Bs:=(List.range (nb t.length b)).map (bk t b)
def lvs (t:Bs) (b:Nat):List Bs:=(Pk t b).map lf
theorem Pj {t:Bs} {b:Nat}:(Pk t b).length=nb t.length b:=by simp [Pk]
theorem tU {t:Bs} {b:Nat}:(lvs t b).length=nb t.length b:=by simp [lvs,Pj]
theorem Ik {t:Bs} {b:Nat}:D16 (lvs t b):=by
 intro d hd
 obtain ⟨x,_,rfl⟩:=yaY.1 hd
 exact jW
structure EB (k a c b i:Nat) (e:Env):Prop where
 e0:get e 0=.itr k
 e1:get e 1=.ptr a 0 0
 e2:get e 2=.ptr c 0 0
 e4:get e 4=.i ((i*b:Nat):Int)
structure ItB {G:Type} (hp:G→List Blk) (L:Nat) (t:Bs) (b:Nat) (k a c:Nat) (fx:List Nat):Prop where
 hb:1≤b∧b≤1000000000
 hm:t.length≤1000000000
 len:∀ g,(hp g).length=L
 ha:∀ g tl,(hp g++tl)[a]?=some (.var [sv t])
 hc:∀ g tl,(hp g++tl)[c]?=some (.var [.i b])
 kp:∀ g,aD fx (hp g)
 wf:∀ g,wfB (hp g) (hp g)
 lk:∀ g,∃ t e,(hp g)[k]?=some (.rcd t e)
section
variable {G:Type} {hp:G→List Blk} {L:Nat} {t:Bs} {b k a c:Nat} {fx:List Nat} {Y:Yt} {K:List Blk→Prop} {Inv:Nat→G→Prop}
abbrev Zi {G:Type} (hp:G→List Blk) (b k a c:Nat) (g:Nat × G):St:=⟨[(4,.i ((g.1*b:Nat):Int)),(0,.itr k),(1,.ptr a 0 0),(2,.ptr c 0 0)],hp g.2,0⟩
theorem Nz (H:ItB hp L t b k a c fx)
  (hY:∀ i g,i<nb t.length b→Inv i g→∀ (e:Env) (bb:Nat) (Z:V→St→Prop),EB k a c b i e →
   (∀ e' g' tl,EB k a c b i e'→Inv (i+1) g'→Z (.b true) ⟨e',hp g'++tl,bb⟩)→Y [.i ((i*b:Nat):Int),sv (bk t b i)] ⟨e,hp g,bb⟩ Z)
  (hK:∀ g,Inv (nb t.length b) g→K (hp g)) (g:G) (hg:Inv 0 g) :
  I0 Tryz.prog 111 [.itr k,.ptr a 0 0,.ptr c 0 0] fx k Y (hp g) K:=by
 refine Fw pol fx lw111 (by simp) ?_
 have hlen:=H.len g
 have a0:=H.ha g []
 have c0:=H.hc g []
 rw [yas] at a0 c0
 obtain ⟨tk,ek,lk⟩:=H.lk g
 unfold c111
 simp -implicitDefEqProofs only [rX,aA,Nat.reduceAdd,aF]
 refine aY (Zi hp b k a c) (fun g=>g.1≤nb t.length b∧Inv g.1 g.2) (fun g=>nb t.length b-g.1) (0,g) ⟨yag _,hg⟩ ?_ ?_
 ·simp -implicitDefEqProofs only [rX,↓reduceIte,Nat.reduceEqDiff,reduceCtorEq,leE,aB,wfE,wfV,lk,a0,c0,eq_true (H.kp g),eq_true (H.wf g),Nat.zero_mul,yar]
  exact aV _
 rintro ⟨i,g⟩ ⟨hi,hI⟩
 simp only at hi hI
 have hlen:=H.len g
 have go:∀ j tl,(hp g++tl)[L+j]?=tl[j]?:=fun j tl=>by
  rw [yaZ (by omega),hlen];congr 1;omega
 have a0:=H.ha g []
 have c0:=H.hc g []
 rw [yas] at a0 c0
 unfold c111l0 Zi
 have hbl:=H.hb
 have hml:=H.hm
 rcases yaB i (nb t.length b) with hi1|hi1
 ·have hlt:=(sU hbl.1).2 hi1
  have hd:decide (((i*b:Nat):Int)<(t.length:Int))=true:=decide_eq_true (by omega)
  simp -implicitDefEqProofs only [rX,↓rY,rZ,↓rW,zC,↓reduceIte,Nat.reduceEqDiff,reduceCtorEq,cQ,yab,b5,Eo,Qg,Jj,Qd,hd,hlen,a0,c0]
  have e1:(min (t.length:Int) (((i*b:Nat):Int)+(b:Int))).toNat=min t.length (i*b+b):=by omega
  have e2:(sb t).extract (i*b) (min (t.length:Int) (((i*b:Nat):Int)+(b:Int))).toNat=sb (bk t b i):=by
   rw [e1,fY,Pl]
  rw [e2]
  refine ⟨by simp only [lo,Fx.hi];omega,by omega,?_⟩
  refine ⟨rfl,?_⟩
  refine hY i g hi1 hI _ _ _ ⟨rfl,rfl,rfl,rfl⟩ ?_
  intro e' g' tl he' hI'
  have c1:=H.hc g' tl
  have f1:=he'.e0;have f2:=he'.e1;have f3:=he'.e2;have f4:=he'.e4
  simp -implicitDefEqProofs only [rX,↓rY,rZ,↓reduceIte,Nat.reduceEqDiff,reduceCtorEq,leE,aB,wfE,wfV,rF,f1,f2,f3,f4,c1]
  refine ⟨by simp only [lo,Fx.hi];omega,(i+1,g'),⟨⟨by show i+1≤_;omega,hI'⟩,by show nb t.length b-(i+1)<nb t.length b-i;omega⟩,?_⟩
  have e5:((i*b:Nat):Int)+(b:Int)=(((i+1)*b:Nat):Int):=by rw [Nat.succ_mul];omega
  obtain ⟨tk,ek,lk⟩:=H.lk g'
  have a1:=H.ha g' []
  have c2:=H.hc g' []
  rw [yas] at a1 c2
  rw [e5]
  simp -implicitDefEqProofs only [rX,a1,c2,eq_true (Ak (hp g') tl),eq_true (H.kp g'),eq_true (H.wf g'),lk]
 ·have hlt:¬i*b<t.length:=fun h=>by have:=(sU hbl.1).1 h;omega
  have hd:decide (((i*b:Nat):Int)<(t.length:Int))=false:=decide_eq_false (by omega)
  have hie:i=nb t.length b:=by omega
  subst hie
  have:=hK g hI
  simp -implicitDefEqProofs only [rX,↓rY,↓reduceIte,Nat.reduceEqDiff,reduceCtorEq,b5,hd,a0]
  exact this
end
theorem Wi (t:Bs) (b:Nat):Ok 60 [sv t,.i b] (IsA (.clo 111 [.ptr 0 0 0,.ptr 1 0 0]) [.var [sv t],.var [.i b]]):=by
 refine bA lw60 (by simp) ?_
 unfold c60
 simp -implicitDefEqProofs only [rX,↓rY,aA,cells?,↓reduceIte,Nat.reduceEqDiff,Nat.reduceAdd,reduceCtorEq,aE,aP,aQ,leH,leB,leV,cN,aD,aB,wfB,wfV,wfL,Nat.reduceLeDiff,cxN,aF,bN]
abbrev hpL (t:Bs) (b:Nat) (i:Nat):List Blk:=[.var [.sl 4 0 i],.var [sv t],.var [.i b],.rcd .ready [(10,.clo 111 [.ptr 1 0 0,.ptr 2 0 0]),(5,.ptr 0 0 0),(0,sv t),(1,.i b)],.arr 16 (((lvs t b).take i).map us)]
theorem itL (t:Bs) (b:Nat) (hb:1≤b∧b≤1000000000) (ht:t.length≤1000000000):ItB (hpL t b) 5 t b 3 1 2 [3]:=by
 refine ⟨hb,ht,fun g=>rfl,fun g tl=>rfl,fun g tl=>rfl,fun g=>⟨trivial,trivial⟩,fun g=>?_,fun g=>⟨_,_,rfl⟩⟩
 simp -implicitDefEqProofs only [rX,aB,wfE,wfB,wfV,wfL]
theorem Wk (t:Bs) (b:Nat) (hb:1≤b∧b≤1000000000) (ht:t.length≤1000000000):Ok 33 [sv t,.i b] (Is (.ro 16 ((lvs t b).map us))):=by
 refine iU (R:=fun q hs=>wk (.ro 16 ((lvs t b).map us)) (gvV (fun _=>true) hs q)) ?_ fun _ _ h=>h
 refine bA lw33 (by simp) ?_
 unfold c33
 simp -implicitDefEqProofs only [rX,↓rY,aA,cells?,↓reduceIte,Nat.reduceEqDiff,reduceCtorEq,aE,cxN,aF]
 refine dV [sv t,.i b] (.clo 111 [.ptr 0 0 0,.ptr 1 0 0]) (.clo 111 [.ptr 1 0 0,.ptr 2 0 0]) [.var [sv t],.var [.i b]] [.var [sv t],.var [.i b]] (Wi t b) ⟨⟨trivial,trivial,trivial⟩,rfl,rfl,trivial⟩ (by simp [ren,cI]) (by simp [bW,cI,ren]) trivial ?_
 simp -implicitDefEqProofs only [rX]
 refine uR 3 rfl rfl trivial ?_
 refine rE (as':=[.itr 3,.ptr 1 0 0,.ptr 2 0 0]) (h':=hpL t b 0) rfl ⟨_,.virt 1 16 (by decide) (.nilB 0 [.nil] [.sl 4 0 0] rfl ⟨rfl,fun i a b h1 h2=>?_⟩ (.refl _)),?_⟩ (Nz (Inv:=fun i g=>g=i) (itL t b hb ht) ?_ ?_ _ rfl)
 ·match i with
  | 0=>simp at h1 h2;subst h1 h2;exact .inr ⟨rfl,_,rfl⟩
  | i+1=>simp at h1
 ·simp -implicitDefEqProofs only [rX,↓reduceIte,Nat.reduceEqDiff,Nat.reduceAdd,reduceCtorEq,leE,leH,leB,leV,cN,aD,aB,wfE,wfB,wfV,wfL,aF,yaz,or_true]
 ·rintro i g hi rfl e bb Z he hZ
  refine Bt 5 rfl rfl rfl ?_
  unfold c33a0
  simp -implicitDefEqProofs only [rX,rZ,↓rW,↓reduceIte,Nat.reduceAdd,gW]
  unfold c33r0
  simp -implicitDefEqProofs only [rX,↓rY,rdK,↓reduceIte,Nat.reduceEqDiff,Nat.reduceAdd]
  have hbl:(bk t b g).length≤1000000000:=by rw [o8];omega
  refine aC (Wj (bk t b g) (by omega)) ⟨⟨trivial,trivial⟩,rfl,trivial⟩ (by simp [ren,aS]) ⟨trivial,trivial,trivial⟩ ?_
  obtain ⟨u1,u2,u3⟩:=dX (jW (t:=bk t b g))
  have hl:(lvs t b).length=nb t.length b:=tU
  have hlg:(yaf g (lvs t b)).length=g:=by rw [yai];omega
  simp -implicitDefEqProofs only [rX,↓rY,rZ,↓rW,cells?,splice,↓reduceIte,Nat.reduceEqDiff,reduceCtorEq,aE,bQ,aR,aU,kill,bL,St.kill,isC,Nat.reduceLT,u1,Lk,hlg]
  have hlt:=(sU hb.1).2 hi
  have h1:g≤g*b:=ybi _ hb.1
  refine ⟨by omega,?_⟩
  have h2:yaf g (yaL us (yaf g (lvs t b)))++[us (lf (bk t b g))]=((lvs t b).take (g+1)).map us:=by
   rw [yaa (by simp;omega),yaq,yah (by omega),yap]
   congr 1
   simp [lvs,Pk]
  rw [h2]
  refine hZ (aR [4] e) (g+1) [Blk.dead,Blk.arr 16 [us (lf (bk t b g))],Blk.dead] ?_ rfl
  refine ⟨?_,?_,?_,?_⟩<;>rw [bF]
  ·rw [he.e0];simp [kill]
  ·rw [he.e1];simp [kill]
  ·rw [he.e2];simp [kill]
  ·rw [he.e4];rfl
 ·rintro g rfl
  have hl:(lvs t b).length=nb t.length b:=tU
  simp -implicitDefEqProofs only [rX,↓rY,rZ,↓rW,↓reduceIte,Nat.reduceEqDiff,Nat.reduceAdd,aP,aQ,aD,aB,wfE,wfB,wfV,wfL,dR]
  refine ⟨[.dead,.dead,.dead,.dead,.arr 16 ((lvs t b).map us)],⟨?_,yag _,trivial,trivial⟩,?_⟩
  ·rw [yaa (by omega)]
   exact ⟨trivial,trivial,trivial,trivial,aO _,trivial⟩
  ·rw [←hl]
   simp [gvV,gvB,wk,wkR,blk]
   exact yaa (by simp)
end Go.Fx.H
namespace Go.Fx.H
open Go Go.Fx Go.Proofs Go.Fx.R
set_option maxRecDepth 20000
def mkE (t:Bs) (b:Int):Int:=if b<1∨4096<b then 1 else if 65536<(t.length:Int)∨4096<nH t.length b then 2 else 0
def mkM (t:Bs) (b:Int):Man:=if mkE t b=0 then ⟨t.length,b,root (lvs t b.toNat)⟩ else ⟨0,0,yaK 16 0⟩
def Bq:Man:=⟨0,0,yaK 16 0⟩
theorem zM:[V.v (Value.int IntKind.i64 0),V.v (Value.int IntKind.i64 0),V.v (Value.int IntKind.u8 0),V.v (Value.int IntKind.u8 0),V.v (Value.int IntKind.u8 0),V.v (Value.int IntKind.u8 0),V.v (Value.int IntKind.u8 0),V.v (Value.int IntKind.u8 0),V.v (Value.int IntKind.u8 0),V.v (Value.int IntKind.u8 0),V.v (Value.int IntKind.u8 0),V.v (Value.int IntKind.u8 0),V.v (Value.int IntKind.u8 0),V.v (Value.int IntKind.u8 0),V.v (Value.int IntKind.u8 0),V.v (Value.int IntKind.u8 0),V.v (Value.int IntKind.u8 0),V.v (Value.int IntKind.u8 0)]=Bq.enc:=by unfold Man.enc us;rfl
theorem jQ {m:Man} (h:m.rt.length=16):m.enc.length=18∧m.enc.take 18=m.enc∧m.enc.drop 18=[]:=by
 have hl:m.enc.length=18:=by simp [Man.enc,cU,h]
 exact ⟨hl,yaa (by omega),yam (by omega)⟩
theorem Ij {m:Man}:m.enc.all isC=true:=by simp [Man.enc,eU,isC,isD]
theorem iX {m:Man} {q:List Blk}:wfL q m.enc:=by simp [Man.enc,wfL,wfV,bV]
theorem Zs (t:Bs) (b:Int) (ht:t.length≤1000000000):Ok 27 [sv t,.i b] (Is (.tup [.agg (mkM t b).enc,.i (mkE t b)])):=by
 refine bA lw27 (by simp) ?_
 unfold c27
 obtain ⟨q1,q2,q3⟩:=jQ (m:=Bq) rfl
 simp -implicitDefEqProofs only [rX,↓rY,aA,cells?,splice,↓reduceIte,Nat.reduceEqDiff,reduceCtorEq,aE,bO,aP,aQ,wfV,wfL,cxN,b5,aF,zM,q1,q2,q3,Ij,iX]
 simp only [br,decide_eq_true_eq,decide_eq_false_iff_not]
 have er:∀ e:Int,mkE t b=e→e≠0→mkM t b=Bq:=fun e h1 h2=>by unfold mkM;rw [if_neg (by rw [h1];exact h2)];rfl
 refine ⟨fun h1=>?_,fun h1=>⟨fun h2=>?_,fun h2=>⟨fun h3=>?_,fun h3=>?_⟩⟩⟩
 ·have h:mkE t b=1:=by unfold mkE;rw [if_pos (.inl h1)]
  rw [er 1 h (by decide),h]
 ·have h:mkE t b=1:=by unfold mkE;rw [if_pos (.inr h2)]
  rw [er 1 h (by decide),h]
 ·have h:mkE t b=2:=by unfold mkE;rw [if_neg (by omega),if_pos (.inl h3)]
  rw [er 2 h (by decide),h]
 ·refine aC (Zk t.length b ⟨by omega,by omega⟩ ⟨by omega,by omega⟩) ⟨⟨trivial,trivial,trivial⟩,rfl,rfl,trivial⟩ rfl trivial ?_
  simp -implicitDefEqProofs only [rX,↓rY,aA,cells?,splice,↓reduceIte,Nat.reduceEqDiff,reduceCtorEq,bO,aP,aQ,wfV,wfL,b5,zM,q1,q2,q3,Ij,iX]
  simp only [br,decide_eq_true_eq,decide_eq_false_iff_not]
  refine ⟨fun h4=>?_,fun h4=>?_⟩
  ·have h:mkE t b=2:=by unfold mkE;rw [if_neg (by omega),if_pos (.inr h4)]
   rw [er 2 h (by decide),h]
  ·have h:mkE t b=0:=by unfold mkE;rw [if_neg (by omega),if_neg (by omega)]
   obtain ⟨n,rfl⟩:∃ n:Nat,b=n:=⟨b.toNat,by omega⟩
   refine aC (Wk t n ⟨by omega,by omega⟩ ht) ⟨⟨trivial,trivial,trivial⟩,rfl,rfl,trivial⟩ (by simp [ren]) trivial ?_
   simp -implicitDefEqProofs only [rX,↓reduceIte]
   have hn:nb t.length n≤t.length:=Ia (by omega)
   refine aC (Mx _ (lvs t n) rfl Ik (by rw [tU];omega)) ⟨⟨trivial,trivial⟩,⟨rfl,rfl⟩,trivial⟩ (by simp [ren,aS]) trivial ?_
   have hr:=eL _ (lvs t n) rfl Ik
   obtain ⟨u1,u2,u3⟩:=dX hr
   have hm:mkM t n=⟨t.length,n,root (lvs t n)⟩:=by unfold mkM;rw [if_pos h,yab]
   simp -implicitDefEqProofs only [rX,↓rY,aA,cells?,splice,↓reduceIte,Nat.reduceEqDiff,Nat.reduceAdd,bO,aP,aQ,wfV,wfL,isC,Nat.reduceLeDiff,zM,q1,u1]
   rw [hm,h]
   have d1:(yak 1 Bq.enc).length=17:=by rw [yav,q1]
   have d2:(yak 1 (yak 1 Bq.enc)).length=16:=by rw [yav,d1]
   have d18:∀ x y:V,yak 18 (x::y::yak 1 (yak 1 Bq.enc))=[]:=fun x y=>yam (by simp only [yaN,d2];omega)
   have tk:=vE (m:=⟨t.length,n,root (lvs t n)⟩) hr
   simp only [d1,d2,d18,ybh,yas,Nat.add_zero,q3,eU,Bool.and_self,tk,iX,true_and,Nat.reduceAdd,yae,Nat.reduceLeDiff]
end Go.Fx.H
namespace Go.Fx.H
open Go Go.Fx Go.Proofs Go.Fx.R
set_option maxRecDepth 20000
abbrev rD (l:List Bs):V:=.ro 16 (l.map us)
theorem Xk:∀ (n i:Nat),dep i n≤n:=by
 intro n
 induction n using yba with
 | ind n ih =>
  intro i
  by_cases h2:2≤n
  ·have hs:=fC h2
   by_cases hi:i<spl n
   ·rw [Gd h2 hi];have:=ih (spl n) (by omega) i;omega
   ·rw [Ge h2 hi];have:=ih (n-spl n) (by omega) (i-spl n);omega
  ·rw [Az h2];omega
theorem Iu {l:List Bs} {i:Nat} (h:i<l.length):(eW l i).length≤l.length:=by
 rw [(Ir _ l i rfl h).1];exact Xk _ _
theorem eA {l:Bs} {h:List Blk} {g:Nat→Option Nat}:aH h g (us l)∧wkL (us l) (aT h g (us l)):=cS _ jM
def inE (l:List Bs) (i:Int):Int:=if i<0∨(l.length:Int)≤i then 1 else 0
def inL (l:List Bs) (i:Int):List Bs:=if i<0∨(l.length:Int)≤i then [] else eW l i.toNat
theorem Ot {a b:UInt8} {K:Bool→Prop}:eqC (.int .u8) (some (u8 a)) (some (u8 b)) K=K (a==b):=by
 have e:eqK (.int .u8 a.toNat) (.int .u8 b.toNat)=(a==b):=by
  show ((a.toNat:Int)==(b.toNat:Int))=(a==b)
  by_cases h:a=b
  ·subst h;simp
  ·have h2:a.toNat≠b.toNat:=fun h3=>h (UInt8.toNat_inj.1 h3)
   have h3:(a==b)=false:=by simpa using h
   rw [h3];simp;omega
 show ((_∧_)∧K (eqK _ _))=_
 rw [e]
 exact propext ⟨fun h=>h.2,fun h=>⟨⟨rfl,rfl⟩,h⟩⟩
theorem vV {l1 l2:Bs} {xs ys:List V} (hx:∀ i (h:i<l1.length),xs[i]?=some (u8 l1[i])) (hy:∀ i (h:i<l2.length),ys[i]?=some (u8 l2[i])):∀ {m a:Nat} {K:Bool→Prop},a+m≤l1.length→a+m≤l2.length →
  fE xs ys ((ybb a m).map fun i=>(i,.int .u8)) K=K ((l1.drop a).take m==(l2.drop a).take m)
 | 0,a,K,_,_=>by simp [fE]
 | m+1,a,K,h1,h2=>by
  rw [List.range'_succ,List.map_cons,fE,hx a (by omega),hy a (by omega),Ot,vV hx hy (by omega) (by omega),yaw (show a<l1.length by omega),yaw (show a<l2.length by omega),ybw,ybw]
  rfl
theorem Tm {l:Bs} {i:Nat} (h:i<l.length):(us l)[i]?=some (u8 l[i]):=by
 rw [Lj h];unfold bn;rw [ybj,yah h];rfl
theorem mF {a b:Bs} (ha:a.length=16) (hb:b.length=16) {K:Bool→Prop}:(c6 (lG (.agg (us a))) fun xs=>c6 (lG (.agg (us b))) fun ys=>fE xs ys ((ybb 0 16).map fun i=>(i,.int .u8)) K)=K (a==b):=by
 show fE (us a) (us b) _ K=_
 rw [vV (fun i h=>Tm h) (fun i h=>Tm h) (by omega) (by omega)]
 simp only [List.drop_zero]
 rw [yaa (by omega),yaa (by omega)]
end Go.Fx.H
namespace Go.Fx.H
open Go Go.Fx Go.Proofs Go.Fx.R
set_option maxRecDepth 20000
theorem Fk {P:Program} {f:FuncId} {args args':List V} {h0 h0':List Blk} {mv:List Nat} {R:V→List Blk→Prop} (fx:List Nat) (hlen:args'.length=args.length) (hl:h0'.length=h0.length) (hkp:aD fx h0) (hfx:∀ k,k<h0.length→k∉mv→k∈fx)
  (hg:leG fx ⟨aF 0 args,h0,0⟩ ⟨aF 0 args',h0',0⟩) (h:OkN P f args' h0' mv R):OkN P f args h0 mv R:=by
 refine ⟨h.1,?_⟩
 intro ρ X w vals h1 h2
 have hvl:=cD h2
 have hgd:Good ρ X w fx vals.length ⟨aF 0 args,h0,0⟩ { tmps:=vals.toArray,defers:=[] } w :=
  ⟨ρ,⟨⟨Fr.refl _ _,fun _ _=>rfl⟩,hkp⟩,⟨h1,by have:=gC h2 0;simpa using this⟩,by simp,Marks.nil⟩
 obtain ⟨ρ2,⟨⟨p1,p2⟩,p3⟩,⟨p4,p5⟩,_⟩:=hgd.leG hg
 have hv':bE ρ2 X w args' vals:=by
  refine Ac (by omega) fun i h1 h2=>?_
  have:=p5 i
  have hget:=jX args' 0 i
  rw [Nat.zero_add,dif_pos h1] at hget
  rw [hget] at this
  simpa [h2] using this
 refine Calls.mono (h.2 ρ2 X w vals p4 hv') ?_
 rintro e w' ⟨val,r,h',ρ',q1,⟨q2,q2l⟩,q3,q4,q5,q6⟩
 exact ⟨val,r,h',ρ',q1,⟨q2,by omega⟩,p1.trans q3,q4,q5,fun k hk hm=>(q6 k (by omega) hm).trans (p2 k (hfx k hk hm))⟩
abbrev hI (L:List Bs):List Blk:=[.var [.clo 122 [.ptr 0 0 0,.ptr 1 0 0]],.var [.sl 2 0 L.length],.arr 16 (L.map us)]
theorem aaX:∀ (n:Nat) (l:List Bs) (i:Nat) (L:List Bs),l.length=n→i<n→D16 l→n≤1000000000→L.length+n≤1000000000→OkN Tryz.prog 122 [bD l,.i i,.ptr 0 0 0,.ptr 1 0 0] (hI L) [2] (IsA (.tup []) (hI (L++eW l i))):=by
 intro n
 induction n using yba with
 | ind n ih =>
  intro l i L hn hi hD hle hL
  refine f7 pol [0,1] lw122 (by simp) ⟨trivial,trivial,trivial⟩ (fun k hk hm=>by simp at hk hm ⊢;omega) ?_
  unfold c122 hI
  simp -implicitDefEqProofs only [rX,↓rY,aA,↓reduceIte,Nat.reduceAdd,reduceCtorEq,cxN,aF]
  intro hm
  simp only [br,beq_iff_eq,beq_eq_false_iff_ne]
  refine ⟨fun h1=>?_,fun h1 hm2=>?_⟩
  ·rw [Dh (by omega),yas]
   simp -implicitDefEqProofs only [rX,Nat.reduceAdd,aP,aQ,leH,leB,leV,cN,aD,aB,wfB,wfV,wfL,bN]
  ·have h2:2≤l.length:=by omega
   have hs:=fC h2
   refine aC (Nc l.length h2 (by omega)) ⟨⟨trivial,trivial⟩,rfl,trivial⟩ rfl ⟨trivial,trivial,trivial⟩ ?_
   simp -implicitDefEqProofs only [rX,↓rY,↓reduceIte,Nat.reduceEqDiff,Nat.reduceAdd,reduceCtorEq,cQ,yab]
   simp only [br,decide_eq_true_eq,decide_eq_false_iff_not]
   have hlt:(l.take (spl l.length)).length=spl l.length:=by simp;omega
   have hld:(l.drop (spl l.length)).length=l.length-spl l.length:=by simp
   have r1:=eL _ (l.take (spl l.length)) rfl (hD.take _)
   have r2:=eL _ (l.drop (spl l.length)) rfl (hD.drop _)
   have e2:yaf (l.length-spl l.length) (yak (spl l.length) (yaL us l))=(l.drop (spl l.length)).map us:=by
    rw [yaa (by simp),List.map_drop]
   refine ⟨fun hi2=>Vk hs.1.2 ?_,fun hi2=>?_⟩
   ·have hle2:=Iu (l:=l.take (spl l.length)) (i:=i) (by omega)
    refine d5 [0,1,2] [2] [2] _ (.tup []) (.tup []) (hI L) _ (hI (L++eW (l.take (spl l.length)) i)) _ (ih _ (by omega) (l.take (spl l.length)) i L hlt (by omega) (hD.take _) (by omega) (by omega)) (by simp) (by simp) rfl (by simp [aH,aZ,aT,cJ,wkL,wk,wkR,wkB,pos]) rfl rfl rfl ⟨trivial,trivial,trivial⟩ ?_
    simp -implicitDefEqProofs only [rX,↓rY,rdK,↓reduceIte,Nat.reduceEqDiff,Nat.reduceAdd,reduceCtorEq,cQ,aR,kill,bL,St.kill,yab,hI,aR,kill]
    rw [e2]
    refine ⟨by omega,aC (Mx _ (l.drop (spl l.length)) hld (hD.drop _) (by omega)) ⟨⟨trivial,trivial⟩,⟨rfl,rfl⟩,trivial⟩ (by simp [ren,aS]) ⟨trivial,trivial,trivial⟩ ?_⟩
    obtain ⟨u1,u2,u3⟩:=dX r2
    simp -implicitDefEqProofs only [rX,↓rY,cells?,splice,↓reduceIte,Nat.reduceEqDiff,Nat.reduceAdd,reduceCtorEq,aE,bQ,aP,aQ,leH,leB,leV,cN,aD,aB,wfB,wfV,wfL,aR,aU,kill,bL,St.kill,isC,Nat.reduceLT,u1,Lk,bN]
    rw [It h2 (by omega)]
    have tk:yaf (L.length+(eW (l.take (spl l.length)) i).length) (yaL us (L++eW (l.take (spl l.length)) i))=yaL us (L++eW (l.take (spl l.length)) i):=yaa (by simp)
    rw [tk]
    simp -implicitDefEqProofs only [rX,yap,yal]
    exact ⟨by omega,by rw [Nat.add_assoc]⟩
   ·have e3:(i:Int)-(spl l.length:Int)=((i-spl l.length:Nat):Int):=by omega
    rw [e2,e3]
    have hle2:=Iu (l:=l.drop (spl l.length)) (i:=i-spl l.length) (by omega)
    refine ⟨by omega,by simp only [lo,Fx.hi];omega,?_⟩
    refine d5 [0,1,2] [2] [2] [bD (l.drop (spl l.length)),.i ((i-spl l.length:Nat):Int),.ptr 0 0 0,.ptr 1 0 0] (.tup []) (.tup []) (hI L) _ (hI (L++eW (l.drop (spl l.length)) (i-spl l.length))) _ (ih _ (by omega) (l.drop (spl l.length)) (i-spl l.length) L hld (by omega) (hD.drop _) (by omega) (by omega)) (by simp) (by simp) rfl (by simp [aH,aZ,aT,cJ,wkL,wk,wkR,wkB,pos]) rfl rfl rfl ⟨trivial,trivial,trivial⟩ ?_
    simp -implicitDefEqProofs only [rX,↓rY,rdK,↓reduceIte,Nat.reduceEqDiff,Nat.reduceAdd,reduceCtorEq,aR,kill,bL,St.kill,hI,aR,kill]
    refine Vk hs.1.2 ?_
    refine aC (Mx _ (l.take (spl l.length)) hlt (hD.take _) (by omega)) ⟨⟨trivial,trivial⟩,⟨rfl,rfl⟩,trivial⟩ (by simp [ren,aS]) ⟨trivial,trivial,trivial⟩ ?_
    obtain ⟨u1,u2,u3⟩:=dX r1
    simp -implicitDefEqProofs only [rX,↓rY,cells?,splice,↓reduceIte,Nat.reduceEqDiff,Nat.reduceAdd,reduceCtorEq,aE,bQ,aP,aQ,leH,leB,leV,cN,aD,aB,wfB,wfV,wfL,aR,aU,kill,bL,St.kill,isC,Nat.reduceLT,u1,Lk,bN]
    rw [Iv h2 (by omega)]
    have tk:yaf (L.length+(eW (l.drop (spl l.length)) (i-spl l.length)).length) (yaL us (L++eW (l.drop (spl l.length)) (i-spl l.length)))=yaL us (L++eW (l.drop (spl l.length)) (i-spl l.length)):=yaa (by simp)
    rw [tk]
    simp -implicitDefEqProofs only [rX,yap,yal]
    exact ⟨by omega,by rw [Nat.add_assoc]⟩
theorem Wm (l:List Bs) (i:Nat) (hi:i<l.length) (hD:D16 l) (hle:l.length≤1000000000):OkN Tryz.prog 122 [bD l,.i i,.ptr 0 0 0,.ptr 1 0 0] [.var [.clo 122 [.ptr 0 0 0,.ptr 1 0 0]],.var [.nil],.arr 16 []] [2] (IsA (.tup []) (hI (eW l i))):=by
 have h:=aaX _ l i [] rfl hi hD hle (by simp;omega)
 rw [yaE] at h
 refine Fk (args':=[bD l,.i i,.ptr 0 0 0,.ptr 1 0 0]) (h0':=hI []) [0,1] rfl rfl ⟨trivial,trivial,trivial⟩ (fun k hk hm=>by simp at hk hm ⊢;omega) ⟨_,.nilB 1 [.nil] [.sl 2 0 0] rfl ⟨rfl,fun i a b h1 h2=>?_⟩ (.refl _),?_⟩ h
 ·match i with
  | 0=>simp at h1 h2;subst h1 h2;exact .inr ⟨rfl,_,rfl⟩
  | i+1=>simp at h1
 ·simp -implicitDefEqProofs only [rX,↓reduceIte,Nat.reduceEqDiff,Nat.reduceAdd,reduceCtorEq,leE,leH,leB,leV,cN,aD,aB,wfE,wfB,wfV,wfL,aF,hI]
theorem aeH (l:List Bs) (i:Int) (hD:D16 l) (hl:l.length≤1000000000):Ok 78 [bD l,.i i] (Is (.tup [rD (inL l i),.i (inE l i)])):=by
 refine iU (R:=fun q hs=>wk (.tup [rD (inL l i),.i (inE l i)]) (gvV (fun _=>true) hs q)) ?_ fun _ _ h=>h
 refine Ht pol [] lw78 (by simp) trivial (by simp) (s0:=⟨aF 0 [bD l,.i i],[.arr 16 []],0⟩) ⟨_,.virt 1 16 (by decide) (.refl _),?_⟩ ?_
 ·simp -implicitDefEqProofs only [rX,↓reduceIte,reduceCtorEq,leE,leH,leB,aD,wfE,wfB,wfV,aF,yaz]
 unfold c78
 simp -implicitDefEqProofs only [rX,↓rY,aA,cells?,splice,↓reduceIte,Nat.reduceEqDiff,Nat.reduceAdd,reduceCtorEq,aE,aP,aQ,aD,wfV,wfL,isC,cxN,aF,dR]
 simp only [br,decide_eq_true_eq,decide_eq_false_iff_not]
 refine ⟨fun h1=>⟨[],⟨trivial,yag _,trivial⟩,?_⟩,fun h1 hm=>⟨fun h2=>⟨[],⟨trivial,yag _,trivial⟩,?_⟩,fun h2=>?_⟩⟩
 ·rw [inL,inE,if_pos (.inl h1),if_pos (.inl h1)];simp [gvV,gvL,wk,wkL,wkR]
 ·rw [inL,inE,if_pos (.inr h2),if_pos (.inr h2)];simp [gvV,gvL,wk,wkL,wkR]
 ·obtain ⟨n,rfl⟩:∃ n:Nat,i=n:=⟨i.toNat,by omega⟩
  refine d5 [2,1,0] [2] [0] _ (.tup []) (.tup []) [.var [.clo 122 [.ptr 0 0 0,.ptr 1 0 0]],.var [.nil],.arr 16 []] _ [.arr 16 ((eW l n).map us),.var [.sl 0 0 (eW l n).length],.var [.clo 122 [.ptr 2 0 0,.ptr 1 0 0]]] _ (Wm l n (by omega) hD hl) (by simp) (by simp) rfl (by simp [aH,aZ,aT,cJ,wkL,wk,wkR,wkB,pos]) rfl rfl rfl trivial ?_
  simp -implicitDefEqProofs only [rX,↓rY,aA,↓reduceIte,Nat.reduceEqDiff,Nat.reduceAdd,reduceCtorEq,aP,aQ,aD,aB,wfV,wfL,aR,kill,bL,St.kill,aR,kill,dR]
  refine ⟨[.arr 16 ((eW l n).map us)],⟨⟨aO _,trivial⟩,yag _,trivial,trivial⟩,?_⟩
  rw [inL,inE,if_neg (by omega),if_neg (by omega),yab]
  simp [gvV,gvL,gvB,wk,wkL,wkR,blk]
  try (rw [yaa (by simp)])
def c81a:LCode :=
 (.seq
 (.reg 0 [
 ⟨(some 13),.mov (.tmp 2),none⟩,
 ⟨(some 14),.bin .lss false (.tmp 13) (.const (.int .i64 1)),none⟩,
 ⟨(some 15),.mov (.tmp 14),none⟩,
 ⟨(some 16),.mov (.tmp 2),(some (15,false))⟩,
 ⟨(some 17),.bin .gtr false (.tmp 16) (.const (.int .i64 1099511627776)),(some (15,false))⟩,
 ⟨(some 18),.pick (.tmp 15) (.const (.bool true)) (.tmp 17),none⟩,
 ⟨(some 19),.mov (.tmp 18),none⟩,
 ⟨(some 20),.mov (.tmp 1),(some (19,false))⟩,
 ⟨(some 21),.bin .lss false (.tmp 20) (.const (.int .i64 0)),(some (19,false))⟩,
 ⟨(some 22),.pick (.tmp 19) (.const (.bool true)) (.tmp 21),none⟩,
 ⟨(some 23),.mov (.tmp 22),none⟩,
 ⟨(some 24),.mov (.tmp 1),(some (23,false))⟩,
 ⟨(some 25),.mov (.tmp 2),(some (23,false))⟩,
 ⟨(some 26),.bin .geq false (.tmp 24) (.tmp 25),(some (23,false))⟩,
 ⟨(some 27),.pick (.tmp 23) (.const (.bool true)) (.tmp 26),none⟩])
 (.cond (.tmp 27)
 (.seq
 (.reg 0 [
 ⟨none,.store 1 (.tmp 10) (.const (.bool false)),none⟩])
 .ret)
 .skip))
def c81b:LCode :=
 (.seq
 (.reg 1 [
 ⟨(some 12),.alloc 0 (.nilFunc),none⟩])
 (.seq
 (.reg 0 [
 ⟨(some 32),.fn 125 [(.tmp 5),(.tmp 11),(.tmp 12)],none⟩,
 ⟨none,.store 1 (.tmp 12) (.tmp 32),none⟩])
 (.seq
 (.tree 0
 (.take 0 [3,5,6] ⟨(some 33),.load none (.tmp 12),none⟩
 (.take 1 [3,5,6] ⟨(some 34),.mov (.tmp 1),none⟩
 (.take 2 [3,5,6] ⟨(some 35),.mov (.tmp 2),none⟩
 (.alt 3 ⟨(some 36),.callv (.tmp 33) [(.tmp 34),(.tmp 35)],none⟩ false
 (.take 4 [5,6] ⟨(some 37),.load (some 16) (.tmp 9),none⟩
 (.take 5 [6] ⟨(some 38),.prim (.aeq false ((ybb 0 16).map fun i=>(i,(.int .u8)))) [(.tmp 36),(.tmp 37)],none⟩
 (.alt 6 ⟨none,.store 1 (.tmp 10) (.tmp 38),none⟩ false
 .done
 .none)))
 (.alt 4 ⟨(some 37),.load (some 16) (.tmp 9),none⟩ true
 (.alt 3 ⟨(some 36),.callv (.tmp 33) [(.tmp 34),(.tmp 35)],none⟩ false
 (.take 5 [6] ⟨(some 38),.prim (.aeq false ((ybb 0 16).map fun i=>(i,(.int .u8)))) [(.tmp 36),(.tmp 37)],none⟩
 (.alt 6 ⟨none,.store 1 (.tmp 10) (.tmp 38),none⟩ false
 .done
 .none))
 .none)
 .none))))))
 .ret)))
def c81:LDf:=.seq ((.reg 3 [ ⟨(some 5),.box 0 (.tmp 0),none⟩,⟨(some 9),.box 1 (.tmp 4),none⟩,⟨(some 10),.alloc 2 (.bool false),none⟩])) (.seq c81a (.seq ((.reg 2 [ ⟨(some 28),.mov (.tmp 3),none⟩,⟨(some 29),.build [.slice none 0 0,.bool false] [(0,1,(.tmp 28))],none⟩,⟨(some 30),.box 0 (.tmp 29),none⟩,⟨(some 11),.alloc 1 (.pointer none),none⟩,⟨none,.store 1 (.tmp 11) (.tmp 30),none⟩])) (.dfr 0 [⟨(some 31),.load none (.tmp 11),none⟩] 124 [(.tmp 31),(.tmp 10)] c81b)))
def c124:List aX:=[ ⟨(some 4),.mov (.tmp 1),none⟩,⟨(some 5),.mov (.tmp 1),none⟩,⟨(some 6),.nilc (.tmp 5),none⟩,⟨(some 7),.load none (.tmp 6),none⟩,⟨(some 8),.mov (.tmp 7),none⟩,⟨(some 9),.mov (.tmp 0),(some (8,true))⟩,⟨(some 10),.nilc (.tmp 9),(some (8,true))⟩,⟨(some 11),.fld 1 (.tmp 10),(some (8,true))⟩,⟨(some 12),.load none (.tmp 11),(some (8,true))⟩,⟨(some 13),.not (.tmp 12),(some (8,true))⟩,⟨(some 14),.pick (.tmp 8) (.tmp 13) (.const (.bool false)),none⟩,⟨(some 15),.mov (.tmp 14),none⟩,⟨(some 16),.mov (.tmp 0),(some (15,true))⟩,⟨(some 17),.nilc (.tmp 16),(some (15,true))⟩,⟨(some 18),.fld 0 (.tmp 17),(some (15,true))⟩,⟨(some 19),.load none (.tmp 18),(some (15,true))⟩,⟨(some 20),.len (.tmp 19),(some (15,true))⟩,⟨(some 21),.bin .eql false (.tmp 20) (.const (.int .i64 0)),(some (15,true))⟩,⟨(some 22),.pick (.tmp 15) (.tmp 21) (.const (.bool false)),none⟩,⟨(some 23),.nilc (.tmp 4),none⟩,⟨none,.store 1 (.tmp 23) (.tmp 22),none⟩]
theorem lw81:Vw Tryz.prog 81 c81=some (c81,[.cell 10 none],39):=by kernel_rfl
theorem lw124:Vv Tryz.prog 124 c124=some (c124,[],24):=by kernel_rfl
end Go.Fx.H
namespace Go.Fx.H
open Go Go.Fx Go.Proofs Go.Fx.R
set_option maxRecDepth 20000
theorem Vj {h:List Blk} {K:V→Prop} {z:Nat} {sz:Nat} {els:List (List V)} {a u m:Option Int}:rM h z (.ro sz els) a u m K=(sz=z∧cQ els.length a u m∧K (roF sz u m els.length ((els.drop (a.getD 0).toNat).take ((u.getD els.length).toNat-(a.getD 0).toNat)))):=rfl
theorem adY {h:List Blk} {l:List Bs} {K:V→Prop} {k:Nat} (hk:k<l.length) (hK:K (rD (l.take k))):rM h 16 (rD l) none (some (k:Int)) (some (k:Int)) K:=by
 rw [Vj]
 refine ⟨rfl,?_,?_⟩
 ·simp only [cQ,ybk,Option.getD_none,yaA];omega
 ·have hne:¬((k:Int)=((l.map us).length:Int)):=by rw [yaA];omega
  simp only [roF,hne,and_false,if_false,ybk,Option.getD_none]
  rw [show yaC 0=0 from rfl,List.drop_zero,yab,ybl,←List.map_take]
  exact hK
theorem adP:[V.v (Value.int IntKind.u8 0),V.v (Value.int IntKind.u8 0),V.v (Value.int IntKind.u8 0),V.v (Value.int IntKind.u8 0),V.v (Value.int IntKind.u8 0),V.v (Value.int IntKind.u8 0),V.v (Value.int IntKind.u8 0),V.v (Value.int IntKind.u8 0),V.v (Value.int IntKind.u8 0),V.v (Value.int IntKind.u8 0),V.v (Value.int IntKind.u8 0),V.v (Value.int IntKind.u8 0),V.v (Value.int IntKind.u8 0),V.v (Value.int IntKind.u8 0),V.v (Value.int IntKind.u8 0),V.v (Value.int IntKind.u8 0)]=us z16:=w16
theorem Qb:lQ=z16:=by unfold lQ z16;rfl
theorem aaU (l:List Bs) (s:Bool) (hD:D16 l) (hl:l.length≤1000000000):OkN Tryz.prog 126 [.ptr 0 0 0] [.var [rD l,.b s]] [] (IsA (.agg (us (l.getLastD lQ))) [.var [rD l.dropLast,.b (s||l.isEmpty)]]):=by
 refine f7 pol [0] lw126 (by simp) ⟨trivial,trivial⟩ (fun k hk hm=>by simp at hk ⊢;omega) ?_
 unfold c126
 obtain ⟨z1,z2,z3⟩:=dX cB
 simp -implicitDefEqProofs only [rX,↓rY,aA,cells?,splice,↓reduceIte,Nat.reduceEqDiff,Nat.reduceAdd,reduceCtorEq,aE,bO,aP,aQ,leH,leB,leV,cN,aD,aB,wfB,wfV,wfL,isC,Nat.reduceLeDiff,yad,cxN,aF,w16,adP,z1,z2,z3,eU,bV,bN]
 intro hm
 simp only [br,beq_iff_eq,beq_eq_false_iff_ne]
 refine ⟨fun h1=>?_,fun h1=>?_⟩
 ·have:l=[]:=yaF (by omega)
  subst this
  exact ⟨⟨rfl,by simp⟩,by rw [←Qb];rfl⟩
 ·have hl1:0<l.length:=by omega
  have e1:(l.length:Int)-1=((l.length-1:Nat):Int):=by omega
  have hk:((l.length:Int)-1).toNat<l.length:=by omega
  have hx:l[((l.length:Int)-1).toNat]'hk=l.getLastD lQ:=by
   rw [ybx,yby,yah (by omega)]
   simp only [ybk]
   congr 1
   omega
  have hd:(l.getLastD lQ).length=16:=by rw [←hx];exact hD _ (yaj hk)
  obtain ⟨u1,u2,u3⟩:=dX hd
  refine ⟨by simp only [lo,Fx.hi];omega,by omega,hk,?_⟩
  simp only [hx,u1,u2,eU,z3,yas]
  rw [e1]
  refine ⟨yae _,trivial,trivial,by simp only [lo,Fx.hi];omega,by simp only [lo,Fx.hi];omega,adY (by omega) ?_⟩
  simp -implicitDefEqProofs only [rX,↓rY,leV,cN,isC,bV]
  rw [ybz]
  have:l.isEmpty=false:=by cases l with|nil=>simp at hl1|cons _ _=>rfl
  simp [this]
theorem aaW (l:List Bs) (s ok:Bool) (hl:l.length≤1000000000):CD0 Tryz.prog 124 [.ptr 0 0 0,.ptr 1 0 0] [.var [rD l,.b s],.var [.b ok]] [] (IsA (.tup []) [.var [rD l,.b s],.var [.b (ok&&!s&&l.isEmpty)]]):=by
 refine Xp [0,1] lw124 (by simp) ⟨trivial,trivial,trivial⟩ (fun k hk hm=>by simp at hk ⊢;omega) ?_
 unfold c124
 simp -implicitDefEqProofs only [rX,↓rY,aA,cells?,splice,↓reduceIte,Nat.reduceEqDiff,Nat.reduceAdd,reduceCtorEq,aP,aQ,leH,leB,leV,cN,aD,aB,wfB,wfV,wfL,isC,cxN,aF,bN]
 cases ok<;>cases s<;>simp [br]
 intro _
 cases l<;>simp
 omega
abbrev hC (x:Bs) (l:List Bs) (s:Bool):List Blk:=[.var (us x),.var [.ptr 3 0 0],.var [.clo 125 [.ptr 0 0 0,.ptr 1 0 0,.ptr 2 0 0]],.var [rD l,.b s]]
def oA (l:List Bs) (d:Nat):List Bs:=l.take (l.length-d)
def oT (l:List Bs) (s:Bool) (d:Nat):Bool:=s||decide (l.length<d)
theorem Mo {l:List Bs} {d:Nat}:oA l.dropLast d=oA l (d+1):=by
 unfold oA
 rw [ybz,List.take_take];congr 1;simp;omega
theorem Mn {l:List Bs} {s:Bool} {d:Nat}:oT l.dropLast (s||l.isEmpty) d=oT l s (d+1):=by
 unfold oT
 cases s with
 | true=>simp
 | false =>
  cases l with
  | nil=>simp
  | cons x r=>simp [List.length_dropLast]
theorem D16.dropLast {l:List Bs} (h:D16 l):D16 l.dropLast:=fun d hd=>h d (List.dropLast_subset l hd)
theorem abL {l:List Bs} (h:D16 l):(l.getLastD lQ).length=16:=by
 rw [ybx]
 cases hl:l.getLast? with
 | none=>rfl
 | some x=>exact h x (List.mem_of_getLast? hl)
theorem Gi:∀ (n:Nat) (x:Bs) (i:Nat) (l:List Bs),x.length=16→(cl x i n l).length=16:=by
 intro n x i l hx
 by_cases h2:2≤n
 ·by_cases hi:i<spl n
  ·rw [Pg h2 hi];exact iV
  ·rw [Jd h2 hi];exact iV
 ·rw [Bf h2];exact hx
def c125r:LCode:=sqR (sqR (sqR c125))
theorem c125_eq:c125=.seq (sqL c125) (.seq (sqL (sqR c125)) (.seq (sqL (sqR (sqR c125))) c125r)):=rfl
theorem aaV:∀ (n:Nat) (x:Bs) (i:Nat) (l:List Bs) (s:Bool),1≤n→i<n→x.length=16→D16 l→l.length≤1000000000→n≤1152921504606846976 →
  OkN Tryz.prog 125 [.i i,.i n,.ptr 0 0 0,.ptr 1 0 0,.ptr 2 0 0] (hC x l s) [] (IsA (.agg (us (cl x i n l))) (hC x (oA l (dep i n)) (oT l s (dep i n)))):=by
 intro n
 induction n using yba with
 | ind n ih =>
  intro x i l s h1 hi hx hD hl hn
  refine f7 pol [0,1,2,3] lw125 (by simp) ⟨trivial,trivial,trivial,trivial,trivial⟩ (fun k hk hm=>by simp at hk ⊢;omega) ?_
  obtain ⟨z1,z2,z3⟩:=dX cB
  obtain ⟨x1,x2,x3⟩:=dX hx
  by_cases h2:2≤n
  ·have hs:=fC h2
   have hd:=abL hD
   obtain ⟨d1,d2,d3⟩:=dX hd
   have rest:∀ (e:Env) (b:Nat),get e 0=.i i→get e 1=.i n→get e 4=.ptr 2 0 0→get e 7=.ptr 4 0 0→get e 8=.i (spl n)→get e 9=.ptr 5 0 0 →
     aw (cxN Tryz.prog [0,1,2,3]) c125r (eT [0,1,2,3] 4 [fG.cell 7 (some 16)] (IsA (.agg (us (cl x i n l))) (hC x (oA l (dep i n)) (oT l s (dep i n))))) (fun _ _=>False) (eT [0,1,2,3] 4 [fG.cell 7 (some 16)] (IsA (.agg (us (cl x i n l))) (hC x (oA l (dep i n)) (oT l s (dep i n))))) ⟨e,hC x l.dropLast (s||l.isEmpty)++[.var (us z16),.var (us (l.getLastD lQ))],b⟩:=by
    intro e b g0 g1 g4 g7 g8 g9
    unfold c125r
    simp -implicitDefEqProofs only [rX,↓rY,c125,sqR,rdK,↓reduceIte,Nat.reduceEqDiff,Nat.reduceAdd,reduceCtorEq,cxN,hC,g0,g1,g4,g8,g9,d1,d2]
    simp only [br,decide_eq_true_eq,decide_eq_false_iff_not]
    refine ⟨fun hi2=>?_,fun hi2=>?_⟩
    ·have hc:=ih (spl n) (by omega) x i l.dropLast (s||l.isEmpty) (by omega) (by omega) hx hD.dropLast (by simp;omega) (by omega)
     rw [Mo,Mn,←Gd h2 (by omega)] at hc
     have hcl:=Gi (spl n) x i l.dropLast hx
     obtain ⟨w1,w2,w3⟩:=dX (iV (a:=cl x i (spl n) l.dropLast) (b:=l.getLastD lQ))
     rw [Pg h2 (by omega)]
     refine ⟨?_,?_⟩
     all_goals
      refine eQ [0,1,2,3] _ (.agg (us (cl x i (spl n) l.dropLast))) (.agg (us (cl x i (spl n) l.dropLast))) (hC x l.dropLast (s||l.isEmpty)) _ (hC x (oA l (dep i n)) (oT l s (dep i n))++[.var (us z16),.var (us (l.getLastD lQ))]) hc (by simp) (by simp [blk,bW,cI,ren,aS,pos]) (by simp [aH,aZ,aT,cJ,wkL,wk,wkR,wkB,pos]) (by simp) (by simp [bW,cI,ren,aS,back,bZ]) (by simp [ren,aS]) (by simp [aD,aB,hC]) ?_
      simp -implicitDefEqProofs only [rX,↓rY,rdK,↓reduceIte,Nat.reduceEqDiff,hC,g9,d1,d2]
      refine aC (Nb _ _ hcl hd) ⟨⟨eA.1,eA.1,trivial⟩,eA.2,eA.2,trivial⟩ (by simp [ren,aS]) ⟨trivial,trivial,trivial,trivial,trivial⟩ ?_
      simp -implicitDefEqProofs only [rX,↓rY,cells?,splice,↓reduceIte,Nat.reduceEqDiff,Nat.reduceAdd,aP,aQ,leH,leB,leV,cN,aD,aB,wfB,wfV,wfL,g7,z3,w1,w2,eU,bV,bN]
     all_goals exact ⟨by omega,Li⟩
    ·have e1:(i:Int)-(spl n:Int)=((i-spl n:Nat):Int):=by omega
     have e2:(n:Int)-(spl n:Int)=((n-spl n:Nat):Int):=by omega
     rw [e1,e2]
     have hc:=ih (n-spl n) (by omega) x (i-spl n) l.dropLast (s||l.isEmpty) (by omega) (by omega) hx hD.dropLast (by simp;omega) (by omega)
     rw [Mo,Mn,←Ge h2 (by omega)] at hc
     have hcl:=Gi (n-spl n) x (i-spl n) l.dropLast hx
     obtain ⟨w1,w2,w3⟩:=dX (iV (a:=l.getLastD lQ) (b:=cl x (i-spl n) (n-spl n) l.dropLast))
     rw [Jd h2 (by omega)]
     refine ⟨by simp only [lo,Fx.hi];omega,by simp only [lo,Fx.hi];omega,?_,?_⟩
     all_goals
      refine eQ [0,1,2,3] [.i ((i-spl n:Nat):Int),.i ((n-spl n:Nat):Int),.ptr 0 0 0,.ptr 1 0 0,.ptr 2 0 0] (.agg (us (cl x (i-spl n) (n-spl n) l.dropLast))) (.agg (us (cl x (i-spl n) (n-spl n) l.dropLast))) (hC x l.dropLast (s||l.isEmpty)) _ (hC x (oA l (dep i n)) (oT l s (dep i n))++[.var (us z16),.var (us (l.getLastD lQ))]) hc (by simp) (by simp [blk,bW,cI,ren,aS,pos]) (by simp [aH,aZ,aT,cJ,wkL,wk,wkR,wkB,pos]) (by simp) (by simp [bW,cI,ren,aS,back,bZ]) (by simp [ren,aS]) (by simp [aD,aB,hC]) ?_
      simp -implicitDefEqProofs only [rX,↓rY,rdK,↓reduceIte,Nat.reduceEqDiff,hC,g9,d1,d2]
      refine aC (Nb _ _ hd hcl) ⟨⟨eA.1,eA.1,trivial⟩,eA.2,eA.2,trivial⟩ (by simp [ren,aS]) ⟨trivial,trivial,trivial,trivial,trivial⟩ ?_
      simp -implicitDefEqProofs only [rX,↓rY,cells?,splice,↓reduceIte,Nat.reduceEqDiff,Nat.reduceAdd,aP,aQ,leH,leB,leV,cN,aD,aB,wfB,wfV,wfL,g7,z3,w1,w2,eU,bV,bN]
     all_goals exact ⟨by omega,Li⟩
   have hb:((n:Int)==1)=false:=by rw [beq_eq_false_iff_ne];omega
   have c126:=aaU l s hD hl
   have e16:16≤(us z16).length:=by omega
   rw [c125_eq]
   simp -implicitDefEqProofs only [rX,↓rY,c125,sqL,sqR,aA,cells?,splice,↓reduceIte,Nat.reduceEqDiff,Nat.reduceAdd,reduceCtorEq,aE,cxN,aF,w16,hC,x1,x2,eU,hb]
   repeat' first
    | exact rest _ _ rfl rfl rfl rfl rfl rfl
    | refine And.intro ?_ ?_
    | (refine aC (Nc n h2 hn) ⟨⟨trivial,trivial⟩,rfl,trivial⟩ rfl (by simp [aD,aB]) ?_
       simp -implicitDefEqProofs only [rX,↓rY,rdK,aA,cells?,↓reduceIte,Nat.reduceEqDiff,reduceCtorEq,aE,w16])
    | (refine eQ [3] [.ptr 0 0 0] (.agg (us (l.getLastD lQ))) (.agg (us (l.getLastD lQ))) [.var [rD l,.b s]] _ (hC x l.dropLast (s||l.isEmpty)++[.var (us z16),.dead]) c126 (by simp) rfl (by simp [aH,aZ,aT,cJ,wkL,wk,wkR,wkB,pos]) (by simp) rfl (by simp [ren,aS]) (by simp [aD,aB,hC]) ?_
       simp -implicitDefEqProofs only [rX,↓rY,aA,cells?,splice,↓reduceIte,Nat.reduceEqDiff,aE,w16,hC,d1,z1,z3,eU])
    | (refine eQ [3] [.ptr 0 0 0] (.agg (us (l.getLastD lQ))) (.agg (us (l.getLastD lQ))) [.var [rD l,.b s]] _ (hC x l.dropLast (s||l.isEmpty)++[.var (us z16),.var (us z16)]) c126 (by simp) rfl (by simp [aH,aZ,aT,cJ,wkL,wk,wkR,wkB,pos]) (by simp) rfl (by simp [ren,aS]) (by simp [aD,aB,hC]) ?_
       simp -implicitDefEqProofs only [rX,↓rY,cells?,splice,↓reduceIte,Nat.reduceEqDiff,hC,d1,z1,z3,eU])
  ·have hn1:n=1:=by omega
   subst hn1
   unfold c125
   have hb:(((1:Nat):Int)==1)=true:=rfl
   simp -implicitDefEqProofs only [rX,↓rY,aA,cells?,splice,↓reduceIte,Nat.reduceEqDiff,Nat.reduceAdd,reduceCtorEq,aE,aP,aQ,leH,leB,leV,cN,aD,aB,wfB,wfV,wfL,cxN,aF,w16,hC,z1,z3,x1,x2,eU,bV,bN,hb]
   rw [Bf (by omega),Az (by omega)]
   refine ⟨⟨Li,?_,?_⟩,rfl⟩
   ·unfold oA;rw [ybl,yaW]
   ·unfold oT;simp
def ckI (x:Bs) (i n:Int) (l:List Bs) (r:Bs):Bool:=if n<1∨1099511627776<n∨i<0∨n≤i then false else nA x i.toNat n.toNat l r
theorem aeG (x:Bs) (i n:Int) (l:List Bs) (r:Bs) (hx:x.length=16) (hr:r.length=16) (hD:D16 l) (hl:l.length≤1000000000):Ok 81 [.agg (us x),.i i,.i n,rD l,.agg (us r)] (Is (.b (ckI x i n l r))):=by
 refine Rk pol [] lw81 (by simp) trivial (by simp) ?_
 obtain ⟨x1,x2,x3⟩:=dX hx
 obtain ⟨r1,r2,r3⟩:=dX hr
 unfold c81 c81a c81b
 simp -implicitDefEqProofs only [rX,↓rY,rdK,aA,cells?,splice,↓reduceIte,Nat.reduceEqDiff,Nat.reduceAdd,reduceCtorEq,aE,bO,aP,aQ,wfV,isC,Nat.reduceLeDiff,cxN,Pn,aF]
 simp only [br,decide_eq_true_eq,decide_eq_false_iff_not]
 refine ⟨fun h1=>?_,fun h1=>⟨fun h2=>?_,fun h2=>⟨fun h3=>?_,fun h3=>⟨fun h4=>?_,fun h4=>?_⟩⟩⟩⟩
 ·rw [ckI,if_pos (.inl h1)]
 ·rw [ckI,if_pos (.inr (.inl h2))]
 ·rw [ckI,if_pos (.inr (.inr (.inl h3)))]
 ·rw [ckI,if_pos (.inr (.inr (.inr h4)))]
 obtain ⟨i,rfl⟩:∃ a:Nat,i=a:=⟨i.toNat,by omega⟩
 obtain ⟨n,rfl⟩:∃ a:Nat,n=a:=⟨n.toNat,by omega⟩
 have hck:ckI x i n l r=nA x i n l r:=by rw [ckI,if_neg (by omega),yab,yab]
 have hcl:=Gi n x i l hx
 have hc:=aaV n x i l false (by omega) (by omega) hx hD hl (by omega)
 refine ⟨[3,2],_,⟨rfl,rfl⟩,⟨trivial,trivial,trivial⟩,?_⟩
 have fin:((cl x i n l==r)&&!(oT l false (dep i n))&&(oA l (dep i n)).isEmpty)=nA x i n l r:=by
  unfold nA oT oA
  rw [Bool.and_comm (decide _),Bool.and_assoc]
  congr 1
  rw [ybc]
  simp only [Bool.false_or,Bool.and_eq_true,Bool.not_eq_true',decide_eq_false_iff_not,List.isEmpty_iff,decide_eq_true_eq,List.take_eq_nil_iff]
  constructor
  ·rintro ⟨h5,h6|h6⟩
   ·omega
   ·subst h6;simp at h5 ⊢;omega
  ·intro h5;exact ⟨by omega,.inl (by omega)⟩
 have h124:=aaW (oA l (dep i n)) (oT l false (dep i n)) (cl x i n l==r) (by unfold oA;simp;omega)
 rw [fin,←hck] at h124
 refine ⟨?_,by omega,?_⟩
 all_goals
  refine eQ [0,4,5,3] [.i i,.i n,.ptr 0 0 0,.ptr 1 0 0,.ptr 2 0 0] (.agg (us (cl x i n l))) (.agg (us (cl x i n l))) (hC x l false) _ [.var (us x),.var (us r),.var [.b false],.var [rD (oA l (dep i n)),.b (oT l false (dep i n))],.var [.ptr 3 0 0],.var [.clo 125 [.ptr 0 0 0,.ptr 4 0 0,.ptr 5 0 0]]] hc (by simp) (by simp [blk,bW,cI,ren,aS,pos]) (by simp [aH,aZ,aT,cJ,wkL,wk,wkR,wkB,pos]) (by simp) (by simp [bW,cI,ren,aS,back,bZ]) (by simp [ren,aS]) (by simp [aD,aB]) ?_
  simp -implicitDefEqProofs only [rX,↓rY,rdK,cells?,splice,↓reduceIte,Nat.reduceEqDiff,isC,r1,r2]
 all_goals
  rw [mF hcl hr]
  refine eQ [3,2] [.ptr 0 0 0,.ptr 1 0 0] (.tup []) (.tup []) [.var [rD (oA l (dep i n)),.b (oT l false (dep i n))],.var [.b (cl x i n l==r)]] _ [.var (us x),.var (us r),.var [.b (ckI x i n l r)],.var [rD (oA l (dep i n)),.b (oT l false (dep i n))],.var [.ptr 3 0 0],.var [.clo 125 [.ptr 0 0 0,.ptr 4 0 0,.ptr 5 0 0]]] h124 (by simp) rfl (by simp [aH,aZ,aT,cJ,wkL,wk,wkR,wkB,pos]) (by simp) rfl rfl trivial ?_
  simp -implicitDefEqProofs only [rX,↓rY,↓reduceIte,Nat.reduceEqDiff,aP,aQ,wfV]
end Go.Fx.H
namespace Go.Fx.H
open Go Go.Fx Go.Proofs Go.Fx.R
set_option maxRecDepth 20000
section
variable {d:Bs} {tl:List V} {v:V}
theorem p_l (h:d.length=16):(us d).length=16:=by rw [cU,h]
end
end Go.Fx.H
namespace Go.Fx.H
open Go Go.Fx Go.Proofs Go.Fx.R
set_option maxRecDepth 20000
def chE (m:Man) (k:Int) (t:Bs) (p:List Bs):Int:=if k<0∨m.n≤k then 1 else if (t.length:Int)≠(m.span k).2-(m.span k).1∨ckI (lf t) k m.n p m.rt=false then 8 else 0
theorem Hl {m:Man} {k:Int} (h:m.okP) (h0:0≤k) (hk:k<m.n):0≤(m.span k).1∧(m.span k).1<(m.span k).2∧(m.span k).2≤m.size∧(m.span k).2≤65536:=by
 obtain ⟨p1,p2,p3⟩:=id h
 have hn:=Mw h
 have e:m.span k=(k*m.block,min m.size ((k+1)*m.block)):=by unfold Man.span;rw [if_neg (by omega)]
 rw [e]
 have h1:k+1≤(m.size+m.block-1)/m.block:=by
  have:=Bc (s:=m.size) (b:=m.block) p1.1 p2.1
  unfold Man.n at hk
  omega
 have h2:(k+1)*m.block≤m.size+m.block-1:=(Int.le_ediv_iff_mul_le (by omega)).1 h1
 have h3:(k+1)*m.block=k*m.block+m.block:=by rw [Int.add_mul,Int.one_mul]
 have h4:0≤k*m.block:=Int.mul_nonneg h0 (by omega)
 simp only
 omega
theorem Cf {m:Man} {k:Int} (hk:k<0∨m.n≤k):m.span k=(0,0):=by unfold Man.span;rw [if_pos hk]
theorem Vh {m:Man} {k:Int} (h:m.okP):(0≤(m.span k).1∧(m.span k).1≤65536)∧0≤(m.span k).2∧(m.span k).2≤65536:=by
 by_cases hk:k<0∨m.n≤k
 ·rw [Cf hk];simp
 ·have:=Hl h (by omega) (k:=k) (by omega);omega
theorem Zp (m:Man) (k:Int) (t:Bs) (p:List Bs) (h:m.okP) (hr:m.rt.length=16) (ht:t.length≤100000000000) (hD:D16 p) (hp:p.length≤1000000000):Ok 39 [.agg m.enc,.i k,sv t,rD p] (Is (.i (chE m k t p))):=by
 refine bA lw39 (by simp) ?_
 unfold c39
 obtain ⟨q1,q2,q3⟩:=jQ hr
 have sb:=Vh (k:=k) h
 simp -implicitDefEqProofs only [rX,↓rY,aA,cells?,↓reduceIte,Nat.reduceEqDiff,Nat.reduceAdd,reduceCtorEq,aE,cxN,aF,q1,q2]
 refine aC (Zq m k h hr) ⟨⟨cG.1,trivial,trivial⟩,cG.2,rfl,trivial⟩ (by simp [ren,cI,enS]) trivial ?_
 simp -implicitDefEqProofs only [rX,↓rY,qg,rdK,aA,cells?,splice,↓reduceIte,Nat.reduceEqDiff,Nat.reduceAdd,reduceCtorEq,aE,aP,aQ,wfV,b5,bJ,i4,fJ,jR,q1,q2]
 simp only [br,beq_iff_eq,beq_eq_false_iff_ne]
 refine ⟨fun h1=>?_,fun h1=>?_⟩
 ·unfold chE
  have:k<0∨m.n≤k:=by
   rcases Int.lt_or_le k 0 with h2|h2
   ·exact .inl h2
   ·rcases Int.lt_or_le k m.n with h3|h3
    ·have:=Hl h h2 h3;omega
    ·exact .inr h3
  rw [if_pos this]
 ·have hin:¬(k<0∨m.n≤k):=fun h2=>h1 (by rw [Cf h2])
  have tk2:yaf 16 (yak 2 m.enc)=us m.rt:=by
   show yaf 16 (us m.rt)=_
   exact yaa (by rw [cU,hr];exact yae _)
  refine ⟨by simp only [lo,Fx.hi];omega,fun h2=>?_,fun h2=>?_⟩
  ·unfold chE
   rw [if_neg hin,if_pos (.inl (by simpa using h2))]
  ·have h2':(t.length:Int)=(m.span k).2-(m.span k).1:=by simpa using h2
   refine aC (Wj t ht) ⟨⟨trivial,trivial⟩,rfl,trivial⟩ (by simp [ren,aS]) trivial ?_
   simp -implicitDefEqProofs only [rX,↓rY,↓reduceIte,Nat.reduceEqDiff,tk2]
   refine aC (Rn m h) l9 rfl trivial ?_
   simp -implicitDefEqProofs only [rX,↓rY,↓reduceIte,Nat.reduceEqDiff]
   refine aC (aeG (lf t) k m.n p m.rt jW hr hD hp) ⟨⟨eA.1,trivial,trivial,trivial,eA.1,trivial⟩,eA.2,rfl,rfl,⟨rfl,rfl⟩,eA.2,trivial⟩ rfl trivial ?_
   simp -implicitDefEqProofs only [rX,↓rY,aA,↓reduceIte,Nat.reduceEqDiff,Nat.reduceAdd,aP,aQ,wfV]
   unfold chE
   rw [if_neg hin]
   cases hc:ckI (lf t) k m.n p m.rt with
   | true=>simp [br,h2']
   | false=>simp [br,h2']
def prE (t:Bs) (b k:Int):Int:=if mkE t b≠0 then mkE t b else inE (lvs t b.toNat) k
def prL (t:Bs) (b k:Int):List Bs:=if mkE t b≠0 then [] else inL (lvs t b.toNat) k
theorem abJ {t:Bs} {b:Int} (h:mkE t b=0):1≤b∧b≤4096∧t.length≤65536∧nH t.length b≤4096:=by
 unfold mkE at h
 split at h
 ·omega
 ·split at h
  ·omega
  ·omega
theorem Rv {t:Bs} {b:Int}:(mkM t b).rt.length=16:=by
 unfold mkM
 split
 ·exact eL _ _ rfl Ik
 ·rfl
theorem xU {f:Nat→Option Nat}:∀ l:List V,(∀ x∈l,∃ u,x=.v u)→cI f l=l
 | [],_=>rfl
 | x::r,h=>by
  obtain ⟨u,rfl⟩:=h x yaP
  show V.v u::cI f r=_
  rw [xU r fun y hy=>h y (ybm _ hy)]
theorem Cy {m:Man} {f:Nat→Option Nat}:cI f m.enc=m.enc:=xU _ pS
theorem aeT (t:Bs) (b k:Int) (ht:t.length≤1000000000):Ok 29 [sv t,.i b,.i k] (Is (.tup [rD (prL t b k),.i (prE t b k)])):=by
 refine iU (R:=fun q hs=>wk (.tup [rD (prL t b k),.i (prE t b k)]) (gvV (fun _=>true) hs q)) ?_ fun _ _ h=>h
 refine bA lw29 (by simp) ?_
 unfold c29
 obtain ⟨q1,q2,q3⟩:=jQ (m:=mkM t b) Rv
 obtain ⟨s1,s2,s3⟩:=jQ (m:=Bq) rfl
 simp -implicitDefEqProofs only [rX,aA,↓reduceIte,Nat.reduceEqDiff,Nat.reduceAdd,reduceCtorEq,cxN,aF]
 refine aC (Zs t b ht) ⟨⟨trivial,trivial,trivial⟩,rfl,rfl,trivial⟩ (by simp [ren,cI,Cy]) trivial ?_
 simp -implicitDefEqProofs only [rX,↓rY,aA,cells?,splice,↓reduceIte,Nat.reduceEqDiff,reduceCtorEq,aE,aP,aQ,aD,wfV,wfL,q1,s1,s3,Ij,dR,zM]
 simp only [br,bne_iff_ne,bne_eq_false_iff_eq]
 refine ⟨fun h1=>⟨([]:List Blk),⟨trivial,yag _,trivial⟩,?_⟩,fun h1=>?_⟩
 ·rw [prL,prE,if_pos h1,if_pos h1];simp [gvV,gvL,wk,wkL,wkR]
 ·obtain ⟨b1,b2,b3,b4⟩:=abJ h1
  obtain ⟨n,rfl⟩:∃ n:Nat,b=n:=⟨b.toNat,by omega⟩
  refine aC (Wk t n ⟨by omega,by omega⟩ ht) ⟨⟨trivial,trivial,trivial⟩,rfl,rfl,trivial⟩ (by simp [ren]) trivial ?_
  simp -implicitDefEqProofs only [rX,↓reduceIte,Nat.reduceEqDiff,reduceCtorEq]
  have hn:nb t.length n≤t.length:=Ia (by omega)
  refine aC (aeH (lvs t n) k Ik (by rw [tU];omega)) ⟨⟨trivial,trivial,trivial⟩,⟨rfl,rfl⟩,rfl,trivial⟩ (by simp [ren,cI]) trivial ?_
  simp -implicitDefEqProofs only [rX,↓rY,↓reduceIte,Nat.reduceEqDiff,aP,aQ,aD,wfV,wfL,dR]
  refine ⟨([]:List Blk),⟨trivial,yag _,trivial⟩,?_⟩
  rw [prL,prE,if_neg (by simpa using h1),if_neg (by simpa using h1),yab]
  simp [gvV,gvL,wk,wkL,wkR]
end Go.Fx.H
namespace Go.Fx.H
open Go Go.Fx Go.Proofs Go.Fx.R
set_option maxRecDepth 20000
theorem sT (s:Sp):Ok 112 [.agg (enS s)] (Is (.b (decide (s.2≤s.1)))):=by
 refine bA lw112 (by simp) ?_
 unfold c112
 simp -implicitDefEqProofs only [rX,↓rY,aA,cells?,↓reduceIte,Nat.reduceEqDiff,aE,aP,aQ,wfV,cxN,i4,fJ,aF]
def Do (s:Sp):Bool:=decide (s.2≤s.1)||(decide (s.1≥0)&&decide (s.2≤1099511627776))
theorem abE (s:Sp):Ok 113 [.agg (enS s)] (Is (.b (Do s))):=by
 refine bA lw113 (by simp) ?_
 unfold c113
 simp -implicitDefEqProofs only [rX,↓rY,aA,cells?,↓reduceIte,Nat.reduceEqDiff,aE,cxN,bJ,bG,aF]
 refine aC (sT s) ⟨⟨⟨trivial,trivial,trivial⟩,trivial⟩,⟨rfl,rfl,trivial⟩,trivial⟩ rfl trivial ?_
 unfold Do
 cases h1:decide (s.2≤s.1)<;>cases h2:decide (s.1≥0)<;>cases h3:decide (s.2≤1099511627776)<;>simp -implicitDefEqProofs only [rX,↓rY,aA,↓reduceIte,Nat.reduceEqDiff,aP,aQ,wfV,i4,fJ,h2,h3]<;>simp_all
def xR (l:List Sp) (k:Nat) (h:k<l.length):Bool:=(decide (l[k].2≤l[k].1)||!Do l[k])||(decide (0<k)&&decide (l[k].1≤(l[k-1]'(by omega)).2))
structure OkR (l:List Sp) (k:Nat):Prop where
 h:∀ j (h:j<l.length),j<k→xR l j h=false
theorem Et:∀ {l:List Sp} {t:Int},vdB t l=true↔∀ j (h:j<l.length),(0≤l[j].1∧l[j].1<l[j].2∧l[j].2≤1099511627776)∧(if j=0 then t<l[j].1 else (l[j-1]'(by omega)).2<l[j].1)
 | [],t=>by simp [vdB]
 | s::r,t=>by
  simp only [vdB,Bool.and_eq_true,decide_eq_true_eq,Et (l:=r)]
  constructor
  ·rintro ⟨⟨⟨⟨h1,h2⟩,h3⟩,h4⟩,h5⟩ j hj
   cases j with
   | zero=>exact ⟨⟨h1,h2,h3⟩,h4⟩
   | succ j =>
    have:=h5 j (by simpa using hj)
    refine ⟨this.1,?_⟩
    have h6:=this.2
    simp only [List.getElem_cons_succ,Nat.add_eq_zero_iff,Nat.one_ne_zero,and_false,if_false]
    cases j with
    | zero=>simpa using h6
    | succ j=>simpa using h6
  ·intro h
   have h0:=h 0 (by simp)
   refine ⟨⟨⟨⟨h0.1.1,h0.1.2.1⟩,h0.1.2.2⟩,by simpa using h0.2⟩,fun j hj=>?_⟩
   have:=h (j+1) (by simpa using hj)
   refine ⟨this.1,?_⟩
   have h6:=this.2
   cases j with
   | zero=>simpa using h6
   | succ j=>simpa using h6
theorem Eb {l:List Sp} {k:Nat} {h:k<l.length}:xR l k h=false↔(0≤l[k].1∧l[k].1<l[k].2∧l[k].2≤1099511627776)∧(if k=0 then -1<l[k].1 else (l[k-1]'(by omega)).2<l[k].1):=by
 unfold xR Do
 by_cases h0:k=0
 ·subst h0
  simp
  omega
 ·have h1:0<k:=by omega
  simp [h0,h1]
  omega
theorem OkR.all {l:List Sp} {k:Nat} (h:OkR l k) (hk:l.length≤k):vd l=true:=by
 unfold vd
 rw [Et]
 intro j hj
 exact Eb.1 (h.h j hj (by omega))
theorem OkR.bad {l:List Sp} {k:Nat} (hk:k<l.length) (hb:xR l k hk=true):vd l=false:=by
 rw [←Bool.not_eq_true]
 intro hv
 unfold vd at hv
 rw [Et] at hv
 have:=Eb.2 (hv k hk)
 rw [hb] at this
 cases this
theorem aeO (l:List Sp):Ok 61 [aJ l] (Is (.b (vd l))):=by
 refine bA lw61 (by simp) ?_
 unfold c61 aJ
 simp -implicitDefEqProofs only [rX,aA,cxN,aF]
 refine aY (fun k:Nat=>⟨[(3,.i k),(0,.ro 2 (l.map enS))],[],0⟩) (fun k=>k≤l.length∧OkR l k) (fun k=>l.length-k) 0 ⟨by omega,⟨fun j h hj=>by omega⟩⟩ ?_ ?_
 ·simp -implicitDefEqProofs only [rX,↓reduceIte,reduceCtorEq,leE,leH,aD,wfE,wfB,wfV,yar]
 rintro k ⟨hk,hv⟩
 unfold c61l0
 simp -implicitDefEqProofs only [rX,↓rY,rdK,aA,↓reduceIte,Nat.reduceEqDiff,reduceCtorEq,aP,aQ,wfV,yad,yab,bJ,bG]
 intro hm
 simp only [br,decide_eq_true_eq,decide_eq_false_iff_not]
 refine ⟨fun h=>?_,fun h=>?_⟩
 ·have hk':k<l.length:=by omega
  refine ⟨⟨by omega,h⟩,hk',?_⟩
  refine aC (sT l[k]) ⟨⟨⟨trivial,trivial,trivial⟩,trivial⟩,⟨rfl,rfl,trivial⟩,trivial⟩ rfl trivial ?_
  have hgo:xR l k hk'=false→((lo IntKind.i64≤(k:Int)+1∧(k:Int)+1≤hi IntKind.i64)∧∃ g',((g'≤l.length∧OkR l g')∧l.length-g'<l.length-k)∧(k:Int)+1=(g':Int)):=fun hb =>
   ⟨by simp only [lo,hi,maxLen] at *;omega,k+1,⟨⟨by omega,⟨fun j h hj=>by
    by_cases e:j=k
    ·subst e;exact hb
    ·exact hv.h j h (by omega)⟩⟩,by omega⟩,by simp⟩
  cases h1:decide (l[k].2≤l[k].1) with
  | true =>
   simp -implicitDefEqProofs only [rX,↓rY,rdK,aA,↓reduceIte,Nat.reduceEqDiff,aP,aQ,wfV]
   exact (OkR.bad hk' (by simp [xR,h1])).symm
  | false =>
   simp -implicitDefEqProofs only [rX,↓rY,rdK,↓reduceIte,Nat.reduceEqDiff,reduceCtorEq,yad,yab,bJ,bG]
   refine ⟨⟨by omega,h⟩,hk',?_⟩
   refine aC (abE l[k]) ⟨⟨⟨trivial,trivial,trivial⟩,trivial⟩,⟨rfl,rfl,trivial⟩,trivial⟩ rfl trivial ?_
   cases h2:Do l[k] with
   | false =>
    simp -implicitDefEqProofs only [rX,↓rY,rdK,aA,↓reduceIte,Nat.reduceEqDiff,aP,aQ,wfV]
    exact (OkR.bad hk' (by simp [xR,h2])).symm
   | true =>
    cases h3:decide (0<k) with
    | false =>
     have h3':decide ((0:Int)<(k:Int))=false:=by simpa using h3
     simp -implicitDefEqProofs only [rX,↓rY,rdK,aA,↓reduceIte,Nat.reduceEqDiff,reduceCtorEq,aP,aQ,leE,leH,aD,wfE,wfB,wfV,yad,yab,i4,fJ,h3']
     exact hgo (by simp [xR,h1,h2,h3])
    | true =>
     have h3':decide ((0:Int)<(k:Int))=true:=by simpa using h3
     have h4:0<k:=by simpa using h3
     have hto:((k:Int)-1).toNat=k-1:=by omega
     simp -implicitDefEqProofs only [rX,↓rY,rdK,aA,↓reduceIte,Nat.reduceEqDiff,reduceCtorEq,aP,aQ,leE,leH,aD,wfE,wfB,wfV,yad,yab,i4,fJ,h3',hto]
     refine ⟨⟨by omega,h⟩,hk',by simp only [lo,hi,maxLen] at *;omega,by omega,by omega,?_⟩
     cases h5:decide (l[k].1≤(l[k-1]'(by omega)).2) with
     | true =>
      simp -implicitDefEqProofs only [↓rY]
      exact (OkR.bad hk' (by simp [xR,h3,h5])).symm
     | false =>
      simp -implicitDefEqProofs only [↓rY]
      exact hgo (by simp [xR,h1,h2,h5])
 ·exact (hv.all (by omega)).symm
theorem aeJ (l m:List Sp):Ok 66 [aJ l,aJ m] (Is (.b (l==m))):=by
 refine bA lw66 (by simp) ?_
 unfold c66 aJ
 simp -implicitDefEqProofs only [rX,↓rY,aA,↓reduceIte,Nat.reduceEqDiff,reduceCtorEq,aP,aQ,wfV,cxN,aF]
 intro hm1 hm2
 have hne:∀ j (h1:j<l.length) (h2:j<m.length),l[j]≠m[j]→(l==m)=false:=by
  intro j h1 h2 hne
  rw [beq_eq_false_iff_ne]
  intro e
  subst e
  exact hne rfl
 cases hb:(decide ((l.length:Int)=m.length)) with
 | false =>
  have hb':((l.length:Int) != (m.length:Int))=true:=by simpa using hb
  simp -implicitDefEqProofs only [↓rY,hb']
  rw [eq_comm,beq_eq_false_iff_ne]
  rintro rfl
  simp at hb
 | true =>
  have hb':((l.length:Int) != (m.length:Int))=false:=by simpa using hb
  have hlm:l.length=m.length:=by rw [decide_eq_true_eq] at hb;omega
  simp -implicitDefEqProofs only [↓rY,hb']
  refine aY (fun k:Nat=>⟨[(5,.i k),(1,.ro 2 (m.map enS)),(0,.ro 2 (l.map enS))],[],0⟩) (fun k=>k≤l.length∧l.take k=m.take k) (fun k=>l.length-k) 0 ⟨by omega,by simp⟩ ?_ ?_
  ·simp -implicitDefEqProofs only [rX,↓reduceIte,Nat.reduceEqDiff,reduceCtorEq,leE,leH,aD,wfE,wfB,wfV,yar]
  rintro k ⟨hk,hv⟩
  unfold c66l0
  simp -implicitDefEqProofs only [rX,↓rY,aA,↓reduceIte,Nat.reduceEqDiff,reduceCtorEq,aP,aQ,leE,leH,aD,wfE,wfB,wfV,yad,yab,bJ,bG,acA]
  simp only [br,decide_eq_true_eq,decide_eq_false_iff_not]
  refine fun hm'=>⟨fun h=>?_,fun h=>?_⟩
  ·have hk':k<l.length:=by omega
   have hk2:k<m.length:=by omega
   refine ⟨⟨by omega,h⟩,hk',⟨by omega,by omega⟩,hk2,?_⟩
   cases he:(l[k]==m[k]) with
   | true =>
    have he':l[k]=m[k]:=by simpa using he
    refine ⟨by simp,fun _=>⟨by simp only [lo,hi,maxLen] at *;omega,k+1,⟨⟨by omega,?_⟩,by omega⟩,by simp⟩⟩
    rw [yaq,yaq,hv,yah hk',yah hk2,he']
   | false=>exact ⟨fun _=>(hne k hk' hk2 (by simpa using he)).symm,by simp⟩
  ·have h1:l.take k=l:=yaa (by omega)
   have h2:m.take k=m:=yaa (by omega)
   rw [h1,h2] at hv
   simp [hv]
end Go.Fx.H
namespace Go.Fx.H
open Go Go.Fx Go.Proofs Go.Fx.R
set_option maxRecDepth 20000
theorem pF {l:List Sp} {n:Nat} (h:n=l.length):yaf n (l.map enS)=l.map enS:=yaa (by simp [h])
abbrev G68:=Nat × (List Sp × Bool × Sp)
theorem aeK (l:List Sp) (s:Sp) (hl:l.length≤4398046511103):Ok 65 [aJ l,.agg (enS s)] (Is (aJ (tH l s))):=by
 refine Fj ?_
 refine bA lw65 (by simp) ?_
 unfold c65 aJ
 simp -implicitDefEqProofs only [rX,↓rY,aA,cells?,↓reduceIte,Nat.reduceEqDiff,reduceCtorEq,aE,cxN,bJ,bG,aF]
 refine aC (sT s) ⟨⟨⟨trivial,trivial,trivial⟩,trivial⟩,⟨rfl,rfl,trivial⟩,trivial⟩ rfl trivial ?_
 cases hs:decide (s.2≤s.1) with
 | true =>
  simp -implicitDefEqProofs only [rX,↓rY,↓reduceIte,Nat.reduceEqDiff,reduceCtorEq,aE,bQ,aR,aU,kill,St.kill,eX]
  have e:tH l s=l:=if_pos (by simpa using hs)
  refine ⟨by simp,by omega,?_⟩
  refine uS rfl (sz:=2) ?_ ?_
  ·rw [e];rfl
  ·rw [e];simp
 | false =>
  have e:tH l s=i7 (l.foldl dE ([],false,s)):=if_neg (by simpa using hs)
  simp -implicitDefEqProofs only [rX,↓rY,aA,↓reduceIte]
  refine dH (.virt 1 2 (by decide) (.nilE 5 1 rfl (.refl _))) (fun g:G68=>⟨[(7,.i g.1),(6,.b g.2.2.1),(5,.sl 1 0 g.2.1.length),(3,.ptr 0 0 0),(0,.ro 2 (l.map enS))],[.var [.i g.2.2.2.1,.i g.2.2.2.2],.arr 2 (g.2.1.map enS)],0⟩)
   (fun g=>(g.1≤l.length∧g.2.1.length≤g.1+1)∧(g.2.2.1=false→g.2.1.length≤g.1)∧(l.take g.1).foldl dE ([],false,s)=g.2) (fun g=>l.length-g.1) (0,([],false,s)) ⟨by simp,by simp,by simp⟩ ?_ ?_
  ·simp -implicitDefEqProofs only [rX,↓reduceIte,Nat.reduceEqDiff,reduceCtorEq,leE,leH,leB,leV,cN,aD,aB,wfE,wfB,wfV,wfL,yar,yaz,enS]
  rintro ⟨k,o,put,t⟩ ⟨⟨hk,hol⟩,hop,hv⟩
  simp only at hk hol hop hv
  unfold c65l0
  simp -implicitDefEqProofs only [rX,↓rY,aA,cells?,splice,↓reduceIte,Nat.reduceEqDiff,Nat.reduceAdd,reduceCtorEq,aE,bQ,leE,leH,leB,leV,cN,aD,aB,wfE,wfB,wfV,wfL,aR,aU,kill,bL,St.kill,isD,isC,Nat.reduceLT,Nat.reduceLeDiff,yad,yab,bJ,bG,i4,fJ,mO,eX]
  intro hm
  have hend:∀ (hk':k<l.length) (st:List Sp × Bool × Sp) (n:Nat) (L:List (List V)),st=dE (o,put,t) l[k]→n=st.1.length→L=st.1.map enS →
    ((lo IntKind.i64≤(k:Int)+1∧(k:Int)+1≤hi IntKind.i64)∧∃ g':G68,(((g'.1≤l.length∧g'.2.1.length≤g'.1+1)∧(g'.2.2.1=false→g'.2.1.length≤g'.1)∧(l.take g'.1).foldl dE ([],false,s)=g'.2)∧l.length-g'.1<l.length-k) ∧
      ((k:Int)+1=g'.1∧st.2.1=g'.2.2.1∧V.sl 1 0 n=V.sl 1 0 g'.2.1.length)∧(st.2.2.1=g'.2.2.2.1∧st.2.2.2=g'.2.2.2.2)∧Blk.arr 2 L=Blk.arr 2 (g'.2.1.map enS)):=by
   rintro hk' st n L rfl rfl rfl
   refine ⟨by simp only [lo,hi,maxLen] at *;omega,(k+1,dE (o,put,t) l[k]),⟨⟨⟨by simp only;omega,?_⟩,?_,?_⟩,by simp only;omega⟩,⟨by simp,rfl,rfl⟩,⟨rfl,rfl⟩,rfl⟩
   ·unfold dE
    cases put<;>simp only<;>split<;>(try split)<;>simp<;>first|omega|(have:=hop rfl;omega)
   ·unfold dE
    cases put<;>simp only<;>split<;>(try split)<;>simp<;>first|omega|(have:=hop rfl;omega)
   ·rw [yaq,yah hk',ybn,hv];rfl
  have htk:yaf o.length (o.map enS)=o.map enS:=pF rfl
  have hm1:o.map enS++[[V.i t.1,V.i t.2]]=(o++[t]).map enS:=by rw [yap];rfl
  have hm2:yaf (o.length+1) ((o++[t]).map enS)=(o++[t]).map enS:=pF (by simp)
  simp only [htk,hm1,hm2,br,decide_eq_true_eq,decide_eq_false_iff_not]
  refine ⟨fun h=>?_,fun h=>?_⟩
  ·have hk':k<l.length:=by omega
   have hend:=hend hk'
   have hkk:(0:Int)≤k∧(k:Int)<l.length:=⟨by omega,h⟩
   refine ⟨hkk,hk',fun h1=>⟨hkk,hk',by omega,?_⟩,fun h1=>⟨hkk,hk',fun h2=>⟨fun hp=>?_,fun hp=>?_⟩,fun h2=>⟨hkk,hk',hkk,hk',?_⟩⟩⟩
   ·exact hend (o++[l[k]],put,t) _ _ (by simp [dE,h1]) (by simp) (by simp)
   ·have hp':put=false:=by simpa using hp
    subst hp'
    have:=hop rfl
    refine ⟨by omega,hkk,hk',⟨by simp,by omega⟩,?_⟩
    exact hend (o++[t]++[l[k]],true,t) _ _ (by simp [dE,h1,h2]) (by simp) (by simp)
   ·have hp':put=true:=by simpa using hp
    subst hp'
    refine ⟨hkk,hk',by omega,?_⟩
    exact hend (o++[l[k]],true,t) _ _ (by simp [dE,h1,h2]) (by simp) (by simp)
   ·exact hend (o,put,(min t.1 l[k].1,max t.2 l[k].2)) _ _ (by simp [dE,h1,h2]) rfl rfl
  ·have hr:tH l s=i7 (o,put,t):=by rw [e,←hv,yaa (by omega)]
   rw [hr]
   cases put with
   | true =>
    refine ⟨by simp,fun _=>?_⟩
    exact uS rfl rfl (by simp [i7])
   | false =>
    have:=hop rfl
    refine ⟨fun _=>⟨by omega,?_⟩,by simp⟩
    refine uS rfl rfl (by simp [i7])
end Go.Fx.H
namespace Go.Fx.H
open Go Go.Fx Go.Proofs Go.Fx.R
set_option maxRecDepth 20000
theorem Pb {s t:Sp}:(gV s t).length≤2:=by
 unfold gV
 split<;>split<;>simp
theorem aaB (l:List Sp) (s:Sp) (hl:l.length≤2199023255552):Ok 178 [aJ l,.agg (enS s)] (Is (aJ (tG l s))):=by
 refine Fj ?_
 refine bA lw178 (by simp) ?_
 unfold c178 aJ
 simp -implicitDefEqProofs only [rX,↓rY,aA,cells?,↓reduceIte,Nat.reduceEqDiff,reduceCtorEq,aE,cxN,bJ,bG,aF]
 refine aC (sT s) ⟨⟨⟨trivial,trivial,trivial⟩,trivial⟩,⟨rfl,rfl,trivial⟩,trivial⟩ rfl trivial ?_
 cases hs:decide (s.2≤s.1) with
 | true =>
  simp -implicitDefEqProofs only [rX,↓rY,↓reduceIte,Nat.reduceEqDiff,reduceCtorEq,aE,bQ,aR,aU,kill,St.kill,eX]
  have e:tG l s=l:=if_pos (by simpa using hs)
  refine ⟨by simp,by omega,?_⟩
  refine uS rfl (sz:=2) ?_ ?_
  ·rw [e];rfl
  ·rw [e];simp
 | false =>
  have e:tG l s=l.flatMap (gV s):=if_neg (by simpa using hs)
  simp -implicitDefEqProofs only [rX,↓rY,aA,↓reduceIte]
  refine dH (.virt 1 2 (by decide) (.nilE 5 1 rfl (.refl _))) (fun k:Nat=>⟨[(6,.i k),(5,.sl 1 0 ((l.take k).flatMap (gV s)).length),(3,.ptr 0 0 0),(0,.ro 2 (l.map enS))],[.var [.i s.1,.i s.2],.arr 2 (((l.take k).flatMap (gV s)).map enS)],0⟩)
   (fun k=>k≤l.length∧((l.take k).flatMap (gV s)).length≤2*k) (fun k=>l.length-k) 0 ⟨by omega,by simp⟩ ?_ ?_
  ·simp -implicitDefEqProofs only [rX,↓reduceIte,Nat.reduceEqDiff,reduceCtorEq,leE,leH,leB,leV,cN,aD,aB,wfE,wfB,wfV,wfL,yar,yaz,enS,List.flatMap_nil]
  rintro k ⟨hk,hol⟩
  generalize ho:(l.take k).flatMap (gV s)=o at hol
  unfold c178l0
  simp -implicitDefEqProofs only [rX,↓rY,qj,rdK,aA,cells?,splice,↓reduceIte,Nat.reduceEqDiff,Nat.reduceAdd,reduceCtorEq,aE,bO,isC,Nat.reduceLeDiff,yad,yab,i4,fJ]
  intro hm
  simp only [br,decide_eq_true_eq,decide_eq_false_iff_not]
  refine ⟨fun h=>?_,fun h=>?_⟩
  ·have hk':k<l.length:=by omega
   have hkk:(0:Int)≤k∧(k:Int)<l.length:=⟨by omega,h⟩
   have hstep:(l.take (k+1)).flatMap (gV s)=o++gV s l[k]:=by
    rw [yaq,yah hk',ybu,ho];simp
   have hc2:=Pb (s:=s) (t:=l[k])
   have hend:∀ (o':List Sp) (n:Nat) (L:List (List V)),o'=o++gV s l[k]→n=o'.length→L=o'.map enS →
     ((lo IntKind.i64≤(k:Int)+1∧(k:Int)+1≤hi IntKind.i64)∧∃ g',((g'≤l.length∧((l.take g').flatMap (gV s)).length≤2*g')∧l.length-g'<l.length-k)∧((k:Int)+1=(g':Int)∧V.sl 1 0 n=V.sl 1 0 ((l.take g').flatMap (gV s)).length)∧Blk.arr 2 L=Blk.arr 2 (((l.take g').flatMap (gV s)).map enS)):=by
    rintro o' n L rfl rfl rfl
    refine ⟨by simp only [lo,hi,maxLen] at *;omega,k+1,⟨⟨by omega,by rw [hstep,yac];omega⟩,by omega⟩,?_⟩
    rw [hstep]
    exact ⟨⟨by simp,rfl⟩,rfl⟩
   have htk:yaf o.length (o.map enS)=o.map enS:=pF rfl
   refine ⟨hkk,hk',hkk,hk',hkk,hk',hkk,hk',?_⟩
   have hcut:gV s l[k]=(if min l[k].2 s.1≤l[k].1 then [] else [(l[k].1,min l[k].2 s.1)])++(if l[k].2≤max l[k].1 s.2 then [] else [(max l[k].1 s.2,l[k].2)]):=rfl
   refine aC (sT (l[k].1,min l[k].2 s.1)) ⟨⟨⟨trivial,trivial,trivial⟩,trivial⟩,⟨rfl,rfl,trivial⟩,trivial⟩ rfl trivial ?_
   cases h1:decide (min l[k].2 s.1≤l[k].1) with
   | true =>
    simp -implicitDefEqProofs only [rX,↓rY,↓reduceIte,Nat.reduceEqDiff,Nat.reduceAdd]
    refine aC (sT (max l[k].1 s.2,l[k].2)) ⟨⟨⟨trivial,trivial,trivial⟩,trivial⟩,⟨rfl,rfl,trivial⟩,trivial⟩ rfl trivial ?_
    have h1':min l[k].2 s.1≤l[k].1:=by simpa using h1
    cases h2:decide (l[k].2≤max l[k].1 s.2) with
    | true =>
     have h2':l[k].2≤max l[k].1 s.2:=by simpa using h2
     simp -implicitDefEqProofs only [rX,↓rY,aA,↓reduceIte,Nat.reduceEqDiff,Nat.reduceAdd,reduceCtorEq,leE,leH,leB,leV,cN,aD,aB,wfE,wfB,wfV,wfL]
     exact hend o _ _ (by rw [hcut,if_pos h1',if_pos h2'];simp) rfl rfl
    | false =>
     have h2':¬l[k].2≤max l[k].1 s.2:=by simpa using h2
     simp -implicitDefEqProofs only [rX,↓rY,aA,cells?,↓reduceIte,Nat.reduceEqDiff,Nat.reduceAdd,reduceCtorEq,aE,bQ,leE,leH,leB,leV,cN,aD,aB,wfE,wfB,wfV,wfL,aR,aU,kill,bL,St.kill,isD,Nat.reduceLT]
     refine ⟨by omega,?_⟩
     exact hend (o++[(max l[k].1 s.2,l[k].2)]) _ _ (by rw [hcut,if_pos h1',if_neg h2'];simp) (by simp) (by rw [htk,yap];rfl)
   | false =>
    have h1':¬min l[k].2 s.1≤l[k].1:=by simpa using h1
    simp -implicitDefEqProofs only [rX,↓rY,cells?,↓reduceIte,Nat.reduceEqDiff,Nat.reduceAdd,reduceCtorEq,aE,bQ,aR,aU,kill,bL,St.kill,isD,Nat.reduceLT]
    refine ⟨by omega,?_⟩
    refine aC (sT (max l[k].1 s.2,l[k].2)) ⟨⟨⟨trivial,trivial,trivial⟩,trivial⟩,⟨rfl,rfl,trivial⟩,trivial⟩ rfl trivial ?_
    cases h2:decide (l[k].2≤max l[k].1 s.2) with
    | true =>
     have h2':l[k].2≤max l[k].1 s.2:=by simpa using h2
     simp -implicitDefEqProofs only [rX,↓rY,aA,↓reduceIte,Nat.reduceEqDiff,Nat.reduceAdd,reduceCtorEq,leE,leH,leB,leV,cN,aD,aB,wfE,wfB,wfV,wfL]
     exact hend (o++[(l[k].1,min l[k].2 s.1)]) _ _ (by rw [hcut,if_neg h1',if_pos h2'];simp) (by simp) (by rw [htk,yap];rfl)
    | false =>
     have h2':¬l[k].2≤max l[k].1 s.2:=by simpa using h2
     simp -implicitDefEqProofs only [rX,↓rY,aA,cells?,↓reduceIte,Nat.reduceEqDiff,Nat.reduceAdd,reduceCtorEq,aE,bQ,leE,leH,leB,leV,cN,aD,aB,wfE,wfB,wfV,wfL,aR,aU,kill,bL,St.kill,isD,Nat.reduceLT,Nat.reduceLeDiff]
     refine ⟨⟨by simp,by omega⟩,?_⟩
     refine hend (o++[(l[k].1,min l[k].2 s.1),(max l[k].1 s.2,l[k].2)]) _ _ (by rw [hcut,if_neg h1',if_neg h2'];simp) (by simp) ?_
     rw [htk,yaa (by simp),yap]
     simp [enS]
  ·rw [yaa (by omega)] at ho
   have e':tG l s=o:=by rw [e,ho]
   rw [e']
   exact uS rfl rfl (by simp)
theorem Ol {a b:List Sp} {k:Nat} (h:k<b.length):eN a (b.take (k+1))=tG (eN a (b.take k)) b[k]:=by
 unfold eN
 rw [yaq,yah h,ybn];rfl
end Go.Fx.H
namespace Go.Fx.H
open Go Go.Fx Go.Proofs Go.Fx.R
set_option maxRecDepth 20000
def cov (l:List Sp) (s:Sp):Bool:=(eN (ofS [s]) l).isEmpty
theorem Hu {s:Sp} (h:s.1<s.2):ofS [s]=[s]:=Ro (fA.2 h)
theorem Rw {s:Sp} (h:BdS s):Mid [s]:=by
 intro t ht
 simp at ht;subst ht
 unfold BdS at h;omega
theorem Ld {s:Sp} (h:BdS s):Vd (ofS [s]):=Vd.of (by
 intro t ht;simp at ht;subst ht;exact h)
theorem aeF (l:List Sp) (s:Sp) (hl:Vd l) (hs:BdS s):Ok 83 [aJ l,.agg (enS s)] (Is (aJ (eN (ofS [s]) l))):=by
 refine bA lw83 (by simp) ?_
 unfold c83
 simp -implicitDefEqProofs only [rX,↓rY,aA,cells?,↓reduceIte,Nat.reduceEqDiff,reduceCtorEq,aE,bQ,Nat.reduceLT,cxN,bJ,bG,mO,aF]
 refine d5 [1] [0] [1] [.sl 0 0 1] (aJ (ofS [s])) (aJ (ofS [s])) [.arr 2 [enS s]] [.dead] _ _ (Tt [s] (by simp) (Rw hs)) (by simp) (by simp) (by simp [blk,bW]) (by simp [aH,aZ,aT,cJ,wkL,wk,wkR,pos]) rfl rfl rfl trivial ?_
 simp -implicitDefEqProofs only [rX,↓reduceIte,Nat.reduceEqDiff,Nat.reduceAdd,reduceCtorEq,aR,aU,kill,St.kill,eX]
 refine aC (aeQ (ofS [s]) l (Ld hs) hl) ⟨⟨trivial,trivial,trivial⟩,⟨rfl,rfl⟩,⟨rfl,rfl⟩,trivial⟩ rfl trivial ?_
 simp -implicitDefEqProofs only [rX,↓reduceIte,aP,aQ,wfV]
theorem Jb {l:List Sp}:((l.length:Int)==0)=l.isEmpty:=by
 cases l with
 | nil=>rfl
 | cons a r=>simp;omega
theorem aeR (l:List Sp) (s:Sp) (hl:Vd l) (hs:BdS s):Ok 42 [aJ l,.agg (enS s)] (Is (.b (cov l s))):=by
 refine bA lw42 (by simp) ?_
 unfold c42
 simp -implicitDefEqProofs only [rX,↓rY,aA,cells?,↓reduceIte,Nat.reduceEqDiff,reduceCtorEq,aE,cxN,bJ,bG,aF]
 refine aC (aeF l s hl hs) ⟨⟨trivial,⟨trivial,trivial,trivial⟩,trivial⟩,⟨rfl,rfl⟩,⟨rfl,rfl,trivial⟩,trivial⟩ rfl trivial ?_
 simp -implicitDefEqProofs only [rX,↓rY,aA,↓reduceIte,aP,aQ,wfV]
 intro hm
 rw [Jb];rfl
theorem Wl (a b:List Sp) (ha:Vd a):Ok 152 [.bro 2 (a.map enS),aJ b] (Is (aJ (eN a b))):=by
 refine Fj ?_
 refine bA lw152 (by simp) ?_
 have hal:=ha.len
 unfold c152 aJ
 simp -implicitDefEqProofs only [rX,↓rY,aA,↓reduceIte,Nat.reduceEqDiff,Nat.reduceAdd,reduceCtorEq,aE,bQ,aR,aU,kill,St.kill,cxN,aF]
 refine ⟨by simp,by omega,?_⟩
 have htk:yaf a.length (a.map enS)=a.map enS:=pF rfl
 refine dH (.give (fun k=>k==0) (by simp) (.refl _)) (fun k:Nat=>⟨[(6,.i k),(5,.ro 2 ((eN a (b.take k)).map enS)),(1,.ro 2 (b.map enS))],[],0⟩) (fun k=>k≤b.length) (fun k=>b.length-k) 0 (by omega) ?_ ?_
 ·simp -implicitDefEqProofs only [rX,↓reduceIte,Nat.reduceEqDiff,reduceCtorEq,leE,leH,aD,wfE,wfB,wfV,St.give,gvE,gvV,gvH,gvB,ybd,yar,htk]
  rfl
 rintro k hk
 have hv:Vd (eN a (b.take k)):=ha.minus
 have hvl:=hv.len
 unfold c152l0
 simp -implicitDefEqProofs only [rX,↓rY,↓reduceIte,Nat.reduceEqDiff,yad,yab,bJ,bG]
 intro hm
 simp only [br,decide_eq_true_eq,decide_eq_false_iff_not]
 refine ⟨fun h=>?_,fun h=>?_⟩
 ·have hk':k<b.length:=by omega
  refine ⟨⟨by omega,h⟩,hk',?_⟩
  refine aC (aaB (eN a (b.take k)) b[k] (by omega)) ⟨⟨trivial,⟨trivial,trivial,trivial⟩,trivial⟩,⟨rfl,rfl⟩,⟨rfl,rfl,trivial⟩,trivial⟩ rfl trivial ?_
  simp -implicitDefEqProofs only [rX,↓rY,aA,↓reduceIte,Nat.reduceEqDiff,leE,leH,aD,wfE,wfB,wfV]
  refine ⟨by simp only [lo,hi,maxLen] at *;omega,k+1,⟨by omega,by omega⟩,?_⟩
  rw [Ol hk']
  simp
 ·rw [yaa (by omega)]
  exact Vy rfl
theorem Vd.of1 {s:Sp} (h:BdS s) (hss:s.1<s.2):Vd [s]:=by have:=Ld h;rwa [Hu hss] at this
theorem abA (l:List Sp) (s:Sp) (hs:BdS s) (hss:s.1<s.2):Ok 117 [aJ l,.agg (enS s)] (Is (aJ (eN [s] l))):=by
 refine bA lw117 (by simp) ?_
 unfold c117
 simp -implicitDefEqProofs only [rX,↓rY,aA,cells?,↓reduceIte,Nat.reduceEqDiff,reduceCtorEq,aE,cxN,bJ,bG,aF]
 refine aC (sT s) ⟨⟨⟨trivial,trivial,trivial⟩,trivial⟩,⟨rfl,rfl,trivial⟩,trivial⟩ rfl trivial ?_
 simp -implicitDefEqProofs only [rX,↓rY,aA,cells?,↓reduceIte,Nat.reduceEqDiff,reduceCtorEq,aE,bQ,aP,aQ,wfV,Nat.reduceLT,bJ,bG,mO]
 have hd:decide (s.2≤s.1)=false:=decide_eq_false (by omega)
 rw [hd]
 simp -implicitDefEqProofs only [↓rY]
 refine aC (Wl [s] l (Vd.of1 hs hss)) ⟨⟨by simp [aZ,blk],trivial,trivial⟩,⟨rfl,rfl⟩,⟨rfl,rfl⟩,trivial⟩ rfl trivial ?_
 simp -implicitDefEqProofs only [rX,↓reduceIte,aP,aQ,wfV]
theorem aeM (l:List Sp) (s:Sp) (hs:BdS s) (hss:s.1<s.2):Ok 63 [aJ l,.agg (enS s)] (Is (.b (cov l s))):=by
 refine bA lw63 (by simp) ?_
 unfold c63
 simp -implicitDefEqProofs only [rX,↓rY,aA,cells?,↓reduceIte,Nat.reduceEqDiff,reduceCtorEq,aE,cxN,bJ,bG,aF]
 refine aC (abA l s hs hss) ⟨⟨trivial,⟨trivial,trivial,trivial⟩,trivial⟩,⟨rfl,rfl⟩,⟨rfl,rfl,trivial⟩,trivial⟩ rfl trivial ?_
 simp -implicitDefEqProofs only [rX,↓rY,aA,↓reduceIte,aP,aQ,wfV]
 intro hm
 rw [Jb,cov,Hu hss]
end Go.Fx.H
namespace Go.Fx.H
open Go Go.Fx Go.Proofs Go.Fx.R
set_option maxRecDepth 20000
def spn (t:Bs) (b i:Nat):Sp:=(((i*b:Nat):Int),((i*b:Nat):Int)+((bk t b i).length:Int))
def fQ (hv:List Sp):Int:=(hv.getLast?.map (·.2)).getD 0
def dmE (m:Man) (ls:List Bs) (t:Bs) (hv:List Sp):Int :=
 if (ls.length:Int)≠m.n∨(t.length:Int)≠m.size∨vd hv=false∨(hv≠[]∧m.size<fQ hv) then 1 else if root ls≠m.rt then 8 else 0
def dmg (ls:List Bs) (t:Bs) (b:Nat) (hv:List Sp) (i:Nat):Bool:=(lf (bk t b i) != ls.getD i [])&&cov hv (spn t b i)
def dmO (ls:List Bs) (t:Bs) (b:Nat) (hv:List Sp) (n:Nat):List Sp:=((List.range n).filter (dmg ls t b hv)).map (spn t b)
def dmL (m:Man) (ls:List Bs) (t:Bs) (hv:List Sp):List Sp:=if dmE m ls t hv≠0 then [] else ofS (dmO ls t m.block.toNat hv (nb t.length m.block.toNat))
theorem dm1 {m:Man} {ls:List Bs} {t:Bs} {hv:List Sp} (h:(ls.length:Int)≠m.n∨(t.length:Int)≠m.size∨vd hv=false∨(hv≠[]∧m.size<fQ hv)):dmE m ls t hv=1:=if_pos h
theorem dm8 {m:Man} {ls:List Bs} {t:Bs} {hv:List Sp} (h:¬((ls.length:Int)≠m.n∨(t.length:Int)≠m.size∨vd hv=false∨(hv≠[]∧m.size<fQ hv))) (h2:root ls≠m.rt):dmE m ls t hv=8:=by
 unfold dmE;rw [if_neg h,if_pos h2]
theorem dm0 {m:Man} {ls:List Bs} {t:Bs} {hv:List Sp} (h:¬((ls.length:Int)≠m.n∨(t.length:Int)≠m.size∨vd hv=false∨(hv≠[]∧m.size<fQ hv))) (h2:root ls=m.rt):dmE m ls t hv=0:=by
 unfold dmE;rw [if_neg h,if_neg (by simpa using h2)]
theorem vL {hv:List Sp} (h:hv≠[]) {hh:((hv.length:Int)-1).toNat<hv.length}:(hv[((hv.length:Int)-1).toNat]'hh).2=fQ hv:=by
 unfold fQ
 rw [yby]
 have e:((hv.length:Int)-1).toNat=hv.length-1:=by omega
 rw [←e,yah hh];rfl
def pt:Nat→LCode→LCode
 | 0,.seq a _=>a
 | n+1,.seq _ b=>pt n b
 | _,c=>c
def rt:Nat→LCode→LCode
 | 0,c=>c
 | n+1,.seq _ b=>rt n b
 | _,c=>c
abbrev cT:Cx:=cxN Tryz.prog []
structure E14 (m:Man) (ls:List Bs) (t:Bs) (e:Env):Prop where
 g2:get e 2=sv t
 g4:get e 4=.ptr 0 0 0
 g5:get e 5=.ptr 1 0 0
 g7:get e 7=.ptr 2 0 0
abbrev h14 (m:Man) (ls:List Bs) (hv:List Sp):List Blk:=[.var m.enc,.var [bD ls],.var [aJ hv]]
theorem c14_parts:c14=.seq (pt 0 c14) (.seq (pt 1 c14) (rt 2 c14)):=by rfl
section
variable {m:Man} {ls:List Bs} {t:Bs} {hv:List Sp} {N R:St→Prop} {X:Nat→St→Prop} {e:Env}
theorem Yo (hm:m.okP) (hr:m.rt.length=16) (hD:D16 ls) (hl:ls.length≤1000000000) (hh:hv.length≤1000000000) (hE:E14 m ls t e)
  (hN:∀ e',E14 m ls t e'→dmE m ls t hv=0→N ⟨e',h14 m ls hv,3⟩)
  (hR:∀ e' k,get e' 8=.v (.slice none 0 0)→get e' 9=.v (.int .i64 k)→dmE m ls t hv=k→k≠0→R ⟨e',h14 m ls hv,3⟩) :
  aw cT (pt 1 c14) N X R ⟨e,h14 m ls hv,3⟩:=by
 obtain ⟨g2,g4,g5,g7⟩:=hE
 obtain ⟨q1,q2,q3⟩:=jQ (m:=m) hr
 have m0:m.enc[0]?=some (.i m.size):=rfl
 have tk2:yaf 16 (yak 2 m.enc)=us m.rt:=by
  show yaf 16 (us m.rt)=_
  exact yaa (by rw [cU,hr];exact yae _)
 conv=>arg 2;whnf
 simp -implicitDefEqProofs only [rX,↓rY,rdK,↓reduceIte,Nat.reduceEqDiff,Nat.reduceAdd,cxN,q1,q2,g4,g5]
 intro _
 refine aC (Rn m hm) l9 rfl trivial ?_
 cases h1:((ls.length:Int) != m.n) with
 | true =>
  simp -implicitDefEqProofs only [rX,↓rY,qg,rdK,aA,↓reduceIte,Nat.reduceEqDiff,Nat.reduceAdd,h1]
  exact hR _ 1 rfl rfl (dm1 (.inl (by simpa using h1))) (by decide)
 | false =>
 simp -implicitDefEqProofs only [rX,↓rY,qg,rdK,aA,↓reduceIte,Nat.reduceEqDiff,Nat.reduceAdd,b5,h1,m0,g2,g4,g7]
 cases h2:((t.length:Int) != m.size) with
 | true =>
  simp -implicitDefEqProofs only [↓rY,kb]
  exact hR _ 1 rfl rfl (dm1 (.inr (.inl (by simpa using h2)))) (by decide)
 | false =>
 simp -implicitDefEqProofs only [↓rY,kc]
 refine aC (Zo hv) ⟨⟨trivial,trivial⟩,⟨rfl,rfl⟩,trivial⟩ rfl trivial ?_
 cases h3:vd hv with
 | false =>
  simp -implicitDefEqProofs only [rX,↓rY,rdK,aA,↓reduceIte,Nat.reduceEqDiff,Nat.reduceAdd]
  exact hR _ 1 rfl rfl (dm1 (.inr (.inr (.inl h3)))) (by decide)
 | true =>
 have hx1:(ls.length:Int)=m.n:=by simpa using h1
 have hx2:(t.length:Int)=m.size:=by simpa using h2
 simp -implicitDefEqProofs only [rX,↓rY,rdK,aA,↓reduceIte,Nat.reduceEqDiff,Nat.reduceAdd,yad,fJ,g4,g5,g7]
 intro _
 have hor:hv=[]∨hv≠[]:=by cases hv<;>simp
 rcases hor with rfl|hne
 ·have hz:¬((ls.length:Int)≠m.n∨(t.length:Int)≠m.size∨vd []=false∨(([]:List Sp)≠[]∧m.size<fQ [])):=by simp [hx1,hx2,h3]
  simp -implicitDefEqProofs only [rX,↓rY,yar,Int.lt_irrefl,decide_false,kc,tk2,q1]
  refine aC (Mx _ ls rfl hD (by omega)) ⟨⟨trivial,trivial⟩,⟨rfl,rfl⟩,trivial⟩ (by simp [ren,aS]) trivial ?_
  simp -implicitDefEqProofs only [rX,aA,↓reduceIte,Nat.reduceEqDiff,Nat.reduceAdd,mF (eL _ ls rfl hD) hr]
  cases h5:(root ls==m.rt) with
  | false =>
   simp only [yaQ,kb]
   exact hR _ 8 rfl rfl (dm8 hz (by simpa using h5)) (by decide)
  | true =>
   simp only [yaR,kc]
   exact hN _ ⟨g2,g4,g5,g7⟩ (dm0 hz (by simpa using h5))
 ·have hp:0<hv.length:=ybA.2 hne
  have hlt:=fun hh=>vL hne (hh:=hh)
  simp -implicitDefEqProofs only [rX,↓rY,decide_eq_true (show (0:Int)<(hv.length:Int) by omega),kb,m0,tk2,q1]
  intro _
  refine ⟨by simp only [lo,Fx.hi];omega,by omega,by omega,?_⟩
  rw [hlt]
  cases h4:decide (m.size<fQ hv) with
  | true =>
   simp -implicitDefEqProofs only [↓rY,kb]
   exact hR _ 1 rfl rfl (dm1 (.inr (.inr (.inr ⟨hne,by simpa using h4⟩)))) (by decide)
  | false =>
  have hz:¬((ls.length:Int)≠m.n∨(t.length:Int)≠m.size∨vd hv=false∨(hv≠[]∧m.size<fQ hv)):=by
   have:¬m.size<fQ hv:=by simpa using h4
   simp [hx1,hx2,h3,this]
  simp -implicitDefEqProofs only [↓rY,kc]
  refine aC (Mx _ ls rfl hD (by omega)) ⟨⟨trivial,trivial⟩,⟨rfl,rfl⟩,trivial⟩ (by simp [ren,aS]) trivial ?_
  simp -implicitDefEqProofs only [rX,aA,↓reduceIte,Nat.reduceEqDiff,Nat.reduceAdd,mF (eL _ ls rfl hD) hr]
  cases h5:(root ls==m.rt) with
  | false =>
   simp only [yaQ,kb]
   exact hR _ 8 rfl rfl (dm8 hz (by simpa using h5)) (by decide)
  | true =>
   simp only [yaR,kc]
   exact hN _ ⟨g2,g4,g5,g7⟩ (dm0 hz (by simpa using h5))
end
abbrev hpD (m:Man) (ls:List Bs) (t:Bs) (hv:List Sp) (b:Nat) (i:Nat):List Blk:=[.var m.enc,.var [bD ls],.var [aJ hv],.var [.sl 7 0 (dmO ls t b hv i).length],.var [sv t],.var [.i b],.rcd .ready [(58,.clo 111 [.ptr 4 0 0,.ptr 5 0 0]),(10,.ptr 3 0 0),(2,sv t),(4,.ptr 0 0 0),(5,.ptr 1 0 0),(7,.ptr 2 0 0)],.arr 2 ((dmO ls t b hv i).map enS)]
theorem itD (m:Man) (ls:List Bs) (t:Bs) (hv:List Sp) (b:Nat) (hb:1≤b∧b≤1000000000) (ht:t.length≤1000000000):ItB (hpD m ls t hv b) 8 t b 6 4 5 [6]:=by
 refine ⟨hb,ht,fun g=>rfl,fun g tl=>rfl,fun g tl=>rfl,fun g=>⟨trivial,trivial⟩,fun g=>?_,fun g=>⟨_,_,rfl⟩⟩
 simp -implicitDefEqProofs only [rX,aB,wfE,wfB,wfV,wfL,iX]
theorem y9 {t:Bs} {b g:Nat} (hb:1≤b∧b≤1000000000) (ht:t.length≤1000000000) (h:g<nb t.length b):BdS (spn t b g)∧(spn t b g).1<(spn t b g).2:=by
 have hlt:=(sU hb.1).2 h
 have hl:=o8 (t:=t) (b:=b) (j:=g)
 unfold BdS spn
 simp only
 omega
theorem fT {ls:List Bs} {t:Bs} {b:Nat} {hv:List Sp} {n:Nat}:dmO ls t b hv (n+1)=dmO ls t b hv n++if dmg ls t b hv n=true then [spn t b n] else []:=by
 unfold dmO
 rw [List.range_succ,List.filter_append,yap]
 congr 1
 cases h:dmg ls t b hv n<;>simp [h]
theorem Sk {ls:List Bs} {t:Bs} {b:Nat} {hv:List Sp} {n:Nat} (hb:1≤b∧b≤1000000000) (ht:t.length≤1000000000) (h:n≤nb t.length b):Mid (dmO ls t b hv n):=by
 intro s hs
 obtain ⟨g,hg,rfl⟩:=yaY.1 hs
 have hg2:=ybo.1 (ybe.1 hg).1
 have:=y9 hb ht (show g<nb t.length b by omega)
 unfold BdS at this
 omega
theorem Gc {ls:List Bs} {t:Bs} {b:Nat} {hv:List Sp} {n:Nat}:(dmO ls t b hv n).length≤n:=by
 unfold dmO
 rw [yaA]
 exact Nat.le_trans (ybv _ _) (by simp)
theorem iG {m:Man} {M:List Nat}:bL M m.enc=m.enc:=lU _ pS
theorem Ue {m:Man} {ls:List Bs} {t:Bs} {hv:List Sp} {b:Nat} (hm:m.okP) (hb1:1≤b) (hb:m.block=b) (h:dmE m ls t hv=0):ls.length=nb t.length b∧Vd hv:=by
 unfold dmE at h
 split at h
 ·omega
 ·rename_i h1
  have h2:(ls.length:Int)=m.n:=Decidable.byContradiction fun c=>h1 (.inl c)
  have h3:(t.length:Int)=m.size:=Decidable.byContradiction fun c=>h1 (.inr (.inl c))
  have h4:vd hv=true:=by
   cases hv':vd hv with
   | true=>rfl
   | false=>exact absurd (.inr (.inr (.inl hv'))) h1
  refine ⟨?_,Lf.1 h4⟩
  unfold Man.n at h2
  rw [←h3,hb,Nj hb1] at h2
  omega
theorem aaL (m:Man) (ls:List Bs) (t:Bs) (hv:List Sp) (hm:m.okP) (hr:m.rt.length=16) (hD:D16 ls) (hl:ls.length≤1000000000) (ht:t.length≤1000000000) (hh:hv.length≤1000000000) :
  Ok 14 [.agg m.enc,bD ls,sv t,aJ hv] (Is (.tup [aJ (dmL m ls t hv),.i (dmE m ls t hv)])):=by
 refine iU (R:=fun q hs=>wk (.tup [aJ (dmL m ls t hv),.i (dmE m ls t hv)]) (gvV (fun _=>true) hs q)) ?_ fun _ _ h=>h
 refine bA lw14 (by simp) ?_
 rw [c14_parts]
 obtain ⟨q1,q2,q3⟩:=jQ (m:=m) hr
 obtain ⟨b,hb,hb2⟩:∃ b:Nat,m.block=b∧(1≤b∧b≤4096):=⟨m.block.toNat,by have:=hm.2.1;omega,by have:=hm.2.1;omega⟩
 have m1:m.enc[1]?=some (.i b):=by rw [←hb];rfl
 simp -implicitDefEqProofs only [qJ]
 conv=>arg 2;whnf
 simp -implicitDefEqProofs only [rX,↓rY,aA,cells?,↓reduceIte,Nat.reduceEqDiff,Nat.reduceAdd,reduceCtorEq,aE,cxN,aF]
 refine Yo hm hr hD hl hh ⟨rfl,rfl,rfl,rfl⟩ ?_ ?_
 ·rintro e ⟨g2,g4,g5,g7⟩ he0
  obtain ⟨hln,hvv⟩:=Ue hm hb2.1 hb he0
  conv=>arg 2;whnf
  simp -implicitDefEqProofs only [rX,↓rY,aA,cells?,↓reduceIte,Nat.reduceEqDiff,Nat.reduceAdd,aE,g2,g4,m1]
  refine dV [sv t,.i b] (.clo 111 [.ptr 0 0 0,.ptr 1 0 0]) (.clo 111 [.ptr 4 0 0,.ptr 5 0 0]) [.var [sv t],.var [.i b]] [.var [sv t],.var [.i b]] (Wi t b) ⟨⟨trivial,trivial,trivial⟩,rfl,rfl,trivial⟩ (by simp [ren,cI]) (by simp [bW,cI,ren]) trivial ?_
  simp -implicitDefEqProofs only [rX]
  refine uR 6 rfl rfl trivial ?_
  refine rE (as':=[.itr 6,.ptr 4 0 0,.ptr 5 0 0]) (h':=hpD m ls t hv b 0) rfl ⟨_,.virt 1 2 (by decide) (.nilB 3 [.nil] [.sl 7 0 0] rfl ⟨rfl,fun i a b h1 h2=>?_⟩ (.refl _)),?_⟩ (Nz (Inv:=fun i g=>g=i) (itD m ls t hv b (by omega) ht) ?_ ?_ _ rfl)
  ·match i with
   | 0=>simp at h1 h2;subst h1 h2;exact .inr ⟨rfl,_,rfl⟩
   | i+1=>simp at h1
  ·simp -implicitDefEqProofs only [rX,↓reduceIte,Nat.reduceEqDiff,Nat.reduceAdd,reduceCtorEq,leE,leH,leB,leV,cN,aD,aB,wfE,wfB,wfV,wfL,aF,yaz,or_true,g2,g4,g5,g7,iX]
   refine ⟨b7 _,?_,?_⟩<;>rfl
  ·rintro i g hi rfl e2 bb Z he hZ
   refine Bt 8 rfl rfl rfl ?_
   unfold c14a0
   simp -implicitDefEqProofs only [rX,rZ,↓rW,↓reduceIte,Nat.reduceEqDiff,Nat.reduceAdd,gW]
   unfold c14r0
   simp -implicitDefEqProofs only [rX,↓rY,rdK,aA,cells?,splice,↓reduceIte,Nat.reduceEqDiff,Nat.reduceAdd,aE,bO,isC,Nat.reduceLeDiff,yad,b5,m1]
   have hbl:(bk t b g).length≤1000000000:=by rw [o8];omega
   have hlt:=(sU hb2.1).2 hi
   have hq:(((g*b:Nat):Int).tdiv (b:Int))=(g:Int):=by
    rw [ybp,Int.mul_tdiv_cancel _ (by omega)]
   have hgl:g<ls.length:=by rw [hln];exact hi
   simp only [hq,yab]
   obtain ⟨hbd,hss⟩:=y9 (t:=t) (by omega) ht hi
   obtain ⟨u1,u2,u3⟩:=dX (hD _ (yaj hgl))
   have h1:g≤g*b:=ybi _ hb2.1
   refine ⟨by simp only [lo,Fx.hi];omega,by omega,by simp only [lo,Fx.hi];omega,by omega,hgl,by omega,?_⟩
   refine aC (Wj (bk t b g) (by omega)) ⟨⟨trivial,trivial⟩,rfl,trivial⟩ (by simp [ren,aS]) ⟨trivial,trivial,trivial⟩ ?_
   have hisd:dmg ls t b hv g=((lf (bk t b g) != ls[g])&&cov hv (spn t b g)):=by simp [dmg,List.getD,yah hgl]
   cases h6:(lf (bk t b g)==ls[g]) with
   | true =>
    simp -implicitDefEqProofs only [rX,↓rY,rZ,↓rW,rdK,aA,↓reduceIte,Nat.reduceEqDiff,Nat.reduceAdd,mF jW (hD _ (yaj hgl)),h6,u2]
    have e1:dmO ls t b hv (g+1)=dmO ls t b hv g:=by rw [fT,hisd];simp [bne,h6]
    have hs:=hZ e2 (g+1) [.dead,.var (enS (spn t b g))] ⟨he.e0,he.e1,he.e2,he.e4⟩ rfl
    unfold hpD at hs
    rw [e1] at hs
    exact hs
   | false =>
    simp -implicitDefEqProofs only [rX,↓rY,rZ,↓rW,rdK,aA,↓reduceIte,Nat.reduceEqDiff,Nat.reduceAdd,mF jW (hD _ (yaj hgl)),h6,u2]
    have es:spn t b g=(((g*b:Nat):Int),((g*b:Nat):Int)+((bk t b g).length:Int)):=rfl
    have o:=aeR hv (spn t b g) hvv hbd
    rw [es] at o
    refine aC o ⟨⟨trivial,⟨trivial,trivial,trivial⟩,trivial⟩,⟨rfl,rfl⟩,⟨rfl,rfl,trivial⟩,trivial⟩ rfl ⟨trivial,trivial,trivial⟩ ?_
    rw [←es]
    cases h7:cov hv (spn t b g) with
    | false =>
     simp -implicitDefEqProofs only [rX,↓rY,rZ,↓rW,↓reduceIte,Nat.reduceEqDiff]
     have e1:dmO ls t b hv (g+1)=dmO ls t b hv g:=by rw [fT,hisd];simp [h7]
     have hs:=hZ e2 (g+1) [.dead,.var (enS (spn t b g))] ⟨he.e0,he.e1,he.e2,he.e4⟩ rfl
     unfold hpD at hs
     rw [e1] at hs
     exact hs
    | true =>
     simp -implicitDefEqProofs only [rX,↓rY,rZ,↓rW,cells?,splice,↓reduceIte,Nat.reduceEqDiff,Nat.reduceAdd,reduceCtorEq,aE,bQ,aR,aU,kill,bL,St.kill,isD,isC,Nat.reduceLT]
     have hml:=Gc (ls:=ls) (t:=t) (b:=b) (hv:=hv) (n:=g)
     refine ⟨by omega,?_⟩
     have e1:dmO ls t b hv (g+1)=dmO ls t b hv g++[spn t b g]:=by rw [fT,hisd];simp [bne,h6,h7]
     have hs:=hZ (aR [7] e2) (g+1) [.dead,.var (enS (spn t b g)),.arr 2 [enS (spn t b g)],.dead] ?_ rfl
     ·unfold hpD at hs
      rw [e1,yac,yap,yaS] at hs
      rw [iG,yaa (by simp)]
      exact hs
     ·refine ⟨?_,?_,?_,?_⟩<;>rw [bF]
      ·rw [he.e0];simp [kill]
      ·rw [he.e1];simp [kill]
      ·rw [he.e2];simp [kill]
      ·rw [he.e4];rfl
  ·rintro g rfl
   simp -implicitDefEqProofs only [rX,↓rY,rZ,↓rW,↓reduceIte,Nat.reduceEqDiff,Nat.reduceAdd,aB,wfE,wfB,wfV,wfL]
   refine ⟨iX,?_⟩
   have hml:=Gc (ls:=ls) (t:=t) (b:=b) (hv:=hv) (n:=nb t.length b)
   have hnb:=Ia (n:=t.length) hb2.1
   refine w6 (dmO ls t b hv (nb t.length b)) rfl (by omega) (Sk (by omega) ht (yae _)) rfl rfl (by simp) trivial ?_
   simp -implicitDefEqProofs only [rX,aA,↓reduceIte,Nat.reduceEqDiff,reduceCtorEq,aP,aQ,aD,wfV,wfL,aR,aU,kill,bL,St.kill,dR]
   have e1:dmL m ls t hv=ofS (dmO ls t b hv (nb t.length b)):=by
    unfold dmL;rw [if_neg (by rw [he0];decide),hb,yab]
   rw [e1,he0]
   refine ⟨([]:List Blk),⟨trivial,yag _,trivial⟩,?_⟩
   simp [gvV,gvL,wk,wkL,wkR]
 ·intro e k g8 g9 hk hk0
  have e1:dmL m ls t hv=[]:=by unfold dmL;rw [if_pos (by rw [hk];exact hk0)]
  rw [dR,e1,hk]
  simp -implicitDefEqProofs only [rX,aP,aQ,aD,wfV,wfL,g8,g9]
  refine ⟨([]:List Blk),⟨trivial,yag _,trivial⟩,?_⟩
  simp [gvV,gvL,wk,wkL,wkR]
end Go.Fx.H
namespace Go.Fx.H
open Go Go.Fx Go.Proofs Go.Fx.R
set_option maxRecDepth 20000
structure E15 (ls:List Bs) (t:Bs) (hv:List Sp) (e:Env):Prop where
 g1:get e 1=bD ls
 g2:get e 2=sv t
 g3:get e 3=aJ hv
 g4:get e 4=.ptr 0 0 0
 g8:get e 8=.ptr 1 0 0
abbrev h15 (m:Man):List Blk:=[.var m.enc,.var [.v (.slice none 0 0),.v (.int .i64 0)]]
abbrev Wx (m:Man) (k:Int):List Blk:=[.var m.enc,.var [.v (.slice none 0 0),.v (.int .i64 k)]]
theorem c15_parts:c15=.seq (pt 0 c15) (.seq (pt 1 c15) (.seq (pt 2 c15) (.seq (pt 3 c15) (rt 4 c15)))):=by rfl
section
variable {m:Man} {ls:List Bs} {t:Bs} {hv:List Sp} {N R:St→Prop} {X:Nat→St→Prop} {e:Env}
def dmP (m:Man) (ls:List Bs) (t:Bs) (hv:List Sp):Prop:=(ls.length:Int)≠m.n∨(t.length:Int)≠m.size∨vd hv=false∨(hv≠[]∧m.size<fQ hv)
theorem Yn (hm:m.okP) (hr:m.rt.length=16) (hD:D16 ls) (hl:ls.length≤1000000000) (hh:hv.length≤1000000000) (hE:E15 ls t hv e) (h9:get e 9=.b (vd hv))
  (hN:∀ e',E15 ls t hv e'→¬dmP m ls t hv→N ⟨e',h15 m,2⟩)
  (hR:∀ e',get e' 8=.ptr 1 0 0→dmP m ls t hv→R ⟨e',Wx m 1,2⟩) :
  aw cT (pt 2 c15) N X R ⟨e,h15 m,2⟩:=by
 obtain ⟨g1,g2,g3,g4,g8⟩:=hE
 obtain ⟨q1,q2,q3⟩:=jQ (m:=m) hr
 have m0:m.enc[0]?=some (.i m.size):=rfl
 conv=>arg 2;whnf
 simp -implicitDefEqProofs only [rX,↓rY,rdK,↓reduceIte,Nat.reduceEqDiff,Nat.reduceAdd,cxN,q1,q2,g1,g4]
 intro _
 refine aC (Zr m hm) l9 rfl trivial ?_
 cases h1:((ls.length:Int) != m.n) with
 | true =>
  simp -implicitDefEqProofs only [rX,↓rY,qg,rdK,aA,cells?,splice,↓reduceIte,Nat.reduceEqDiff,Nat.reduceAdd,bO,isC,h1,g8]
  exact hR _ g8 (.inl (by simpa using h1))
 | false =>
 simp -implicitDefEqProofs only [rX,↓rY,qg,rdK,aA,cells?,splice,↓reduceIte,Nat.reduceEqDiff,Nat.reduceAdd,bO,isC,yad,b5,fJ,h1,m0,g2,g3,g4,g8,h9]
 cases h2:((t.length:Int) != m.size) with
 | true =>
  simp -implicitDefEqProofs only [↓rY,kb]
  exact hR _ g8 (.inr (.inl (by simpa using h2)))
 | false =>
 simp -implicitDefEqProofs only [↓rY,kc]
 cases h3:vd hv with
 | false =>
  simp -implicitDefEqProofs only [rX,↓rY,kb]
  exact hR _ g8 (.inr (.inr (.inl h3)))
 | true =>
 have hx1:(ls.length:Int)=m.n:=by simpa using h1
 have hx2:(t.length:Int)=m.size:=by simpa using h2
 simp -implicitDefEqProofs only [rX,↓rY,kc]
 intro _
 have hor:hv=[]∨hv≠[]:=by cases hv<;>simp
 rcases hor with rfl|hne
 ·have hz:¬dmP m ls t []:=by simp [dmP,hx1,hx2,h3]
  simp -implicitDefEqProofs only [rX,↓rY,yar,Int.lt_irrefl,decide_false,kc]
  exact hN _ ⟨g1,g2,g3,g4,g8⟩ hz
 ·have hp:0<hv.length:=ybA.2 hne
  have hlt:=fun hh=>vL hne (hh:=hh)
  simp -implicitDefEqProofs only [↓rY,decide_eq_true (show (0:Int)<(hv.length:Int) by omega),kb]
  intro _
  refine ⟨by simp only [lo,Fx.hi];omega,by omega,by omega,?_⟩
  rw [hlt]
  cases h4:decide (m.size<fQ hv) with
  | true =>
   simp only [kb]
   exact hR _ g8 (.inr (.inr (.inr ⟨hne,by simpa using h4⟩)))
  | false =>
   have hz:¬dmP m ls t hv:=by
    have:¬m.size<fQ hv:=by simpa using h4
    simp [dmP,hx1,hx2,h3,this]
   simp only [kc]
   exact hN _ ⟨g1,g2,g3,g4,g8⟩ hz
theorem Ym (hr:m.rt.length=16) (hD:D16 ls) (hl:ls.length≤1000000000) (hE:E15 ls t hv e)
  (hN:∀ e',E15 ls t hv e'→root ls=m.rt→N ⟨e',h15 m,2⟩)
  (hR:∀ e',get e' 8=.ptr 1 0 0→root ls≠m.rt→R ⟨e',Wx m 8,2⟩) :
  aw cT (pt 3 c15) N X R ⟨e,h15 m,2⟩:=by
 obtain ⟨g1,g2,g3,g4,g8⟩:=hE
 obtain ⟨q1,q2,q3⟩:=jQ (m:=m) hr
 have tk2:yaf 16 (yak 2 m.enc)=us m.rt:=by
  show yaf 16 (us m.rt)=_
  exact yaa (by rw [cU,hr];exact yae _)
 conv=>arg 2;whnf
 simp -implicitDefEqProofs only [rX,↓rY,rdK,↓reduceIte,Nat.reduceEqDiff,Nat.reduceAdd,cxN,q1,g1,g4,tk2]
 refine aC (aeN _ ls rfl hD (by omega)) ⟨⟨trivial,trivial⟩,⟨rfl,rfl⟩,trivial⟩ (by simp [ren,aS]) trivial ?_
 simp -implicitDefEqProofs only [rX,↓rY,aA,cells?,splice,↓reduceIte,Nat.reduceEqDiff,Nat.reduceAdd,bO,isC,mF (eL _ ls rfl hD) hr,g8]
 cases h5:(root ls==m.rt) with
 | false =>
  simp only [yaQ,kb]
  exact hR _ g8 (by simpa using h5)
 | true =>
  simp only [yaR,kc]
  exact hN _ ⟨g1,g2,g3,g4,g8⟩ (by simpa using h5)
end
theorem y3 {M:Nat→Bool} {h:List Blk}:∀ l:List V,(∀ x∈l,∃ u,x=.v u)→gvL M h l=l
 | [],_=>rfl
 | x::r,hx=>by
  obtain ⟨u,rfl⟩:=hx x yaP
  show V.v u::gvL M h r=_
  rw [y3 r fun y hy=>hx y (ybm _ hy)]
theorem Nr {m:Man} {M:Nat→Bool} {h:List Blk}:gvL M h m.enc=m.enc:=y3 _ pS
theorem Xi {m:Man} {ls:List Bs} {t:Bs} {hv:List Sp} (h:dmE m ls t hv=0):(t.length:Int)=m.size:=by
 unfold dmE at h
 split at h
 ·omega
 ·rename_i h1
  exact Decidable.byContradiction fun c=>h1 (.inr (.inl c))
theorem Lu {m:Man} {ls:List Bs} {t:Bs} {hv:List Sp} {b k:Nat} (hm:m.okP) (hb2:1≤b∧b≤4096) (hb:m.block=b) (h:dmE m ls t hv=0) (hk:k<nb t.length b):m.span k=spn t b k:=by
 have hs:=Xi h
 have hn:m.n=nb t.length b:=by unfold Man.n;rw [←hs,hb,Nj hb2.1]
 have hlt:=(sU hb2.1).2 hk
 have hl:=o8 (t:=t) (b:=b) (j:=k)
 unfold Man.span spn
 rw [if_neg (by omega),hb,←hs,hl]
 have e1:((k:Int)+1)*b=((k*b:Nat):Int)+b:=by rw [Int.add_mul,Int.one_mul,ybp]
 have e2:(k:Int)*b=((k*b:Nat):Int):=by rw [ybp]
 rw [e1,e2]
 congr 1
 omega
theorem Tp {t:Bs} {b g:Nat} (hb:1≤b) (h:g<nb t.length b):(spn t b g).2=(min t.length (g*b+b):Nat):=by
 have hlt:=(sU hb).2 h
 have hl:=o8 (t:=t) (b:=b) (j:=g)
 unfold spn
 simp only
 omega
theorem Ra {t:Bs} {b g:Nat} (hb:1≤b) (h:g<nb t.length b):(sb t).extract (spn t b g).1.toNat (spn t b g).2.toNat=sb (bk t b g):=by
 rw [Tp hb h,yab,show (spn t b g).1=((g*b:Nat):Int) from rfl,yab,fY,Pl]
theorem Xj {ls:List Bs} {t:Bs} {b:Nat} {hv:List Sp} {n:Nat} (hb:1≤b∧b≤1000000000) (ht:t.length≤1000000000) (h:n≤nb t.length b):Bd (dmO ls t b hv n):=by
 intro s hs
 obtain ⟨g,hg,rfl⟩:=yaY.1 hs
 have hg2:=ybo.1 (ybe.1 hg).1
 exact (y9 hb ht (show g<nb t.length b by omega)).1
theorem Pr {l:List Sp} {s:Sp}:tH (ofS l) s=ofS (l++[s]):=by
 rw [Rq];rfl
theorem aeX (m:Man) (ls:List Bs) (t:Bs) (hv:List Sp) (hm:m.okP) (hr:m.rt.length=16) (hD:D16 ls) (hl:ls.length≤1000000000) (ht:t.length≤1000000000) (hh:hv.length≤1000000000) :
  Ok 15 [.agg m.enc,bD ls,sv t,aJ hv] (Is (.agg [aJ (dmL m ls t hv),.i (dmE m ls t hv)])):=by
 refine iU (R:=fun q hs=>wk (.agg [aJ (dmL m ls t hv),.i (dmE m ls t hv)]) (gvV (fun _=>true) hs q)) ?_ fun _ _ h=>h
 refine bA lw15 (by simp) ?_
 rw [c15_parts]
 obtain ⟨q1,q2,q3⟩:=jQ (m:=m) hr
 obtain ⟨b,hb,hb2⟩:∃ b:Nat,m.block=b∧(1≤b∧b≤4096):=⟨m.block.toNat,by have:=hm.2.1;omega,by have:=hm.2.1;omega⟩
 simp -implicitDefEqProofs only [qJ]
 conv=>arg 2;whnf
 simp -implicitDefEqProofs only [rX,↓rY,aA,cells?,↓reduceIte,Nat.reduceAdd,aE,cxN,aF]
 conv=>arg 2;whnf
 simp -implicitDefEqProofs only [rX,↓reduceIte,Nat.reduceEqDiff,Nat.reduceAdd,reduceCtorEq]
 refine aC (aeO hv) ⟨⟨trivial,trivial⟩,⟨rfl,rfl⟩,trivial⟩ rfl trivial ?_
 simp -implicitDefEqProofs only [rX,↓reduceIte]
 have hret:∀ (e:Env) (k:Int),get e 8=.ptr 1 0 0→dmE m ls t hv=k→k≠0→eT [] 0 [fG.cell 8 (some 2)] (fun q hs=>wk (.agg [aJ (dmL m ls t hv),.i (dmE m ls t hv)]) (gvV (fun _=>true) hs q)) ⟨e,Wx m k,2⟩:=by
  intro e k g8 hk hk0
  have e1:dmL m ls t hv=[]:=by unfold dmL;rw [if_pos (by rw [hk];exact hk0)]
  rw [dR,e1,hk]
  simp -implicitDefEqProofs only [rX,↓rY,Nat.reduceAdd,aP,aQ,aD,wfV,wfL,g8]
  refine ⟨([]:List Blk),⟨trivial,yag _,trivial⟩,?_⟩
  simp [gvV,gvL,wk,wkL,wkR]
 refine Yn hm hr hD hl hh ⟨rfl,rfl,rfl,rfl,rfl⟩ rfl ?_ ?_
 ·intro e hE hz
  refine Ym hr hD hl hE ?_ ?_
  ·rintro e ⟨g1,g2,g3,g4,g8⟩ hrt
   have he0:dmE m ls t hv=0:=dm0 hz hrt
   obtain ⟨hln,hvv⟩:=Ue hm hb2.1 hb he0
   conv=>arg 2;whnf
   simp -implicitDefEqProofs only [rX,aA,Nat.reduceAdd]
   refine dH (.le (p:=⟨[(11,.i 0),(10,.v (.slice none 0 0)),(1,bD ls),(2,sv t),(3,aJ hv),(4,.ptr 0 0 0),(8,.ptr 1 0 0)],h15 m,2⟩) (by simp -implicitDefEqProofs only [rX,↓reduceIte,Nat.reduceEqDiff,leE,leH,leB,leV,cN,aD,aB,wfE,wfB,wfV,wfL,g1,g2,g3,g4,g8,iX];exact b7 _) (.virt 1 2 (by decide) (.nilE 10 2 rfl (.give (fun k=>k==2) (by simp) (.refl _))))) (fun k:Nat=>⟨[(11,.i k),(10,aJ (ofS (dmO ls t b hv k))),(1,bD ls),(2,sv t),(3,aJ hv),(4,.ptr 0 0 0),(8,.ptr 1 0 0)],h15 m,2⟩) (fun k=>k≤nb t.length b) (fun k=>nb t.length b-k) 0 (by omega) ?_ ?_
   ·simp -implicitDefEqProofs only [rX,↓reduceIte,Nat.reduceEqDiff,Nat.reduceAdd,leE,leH,leB,leV,cN,aD,aB,wfE,wfB,wfV,wfL,yar,St.give,gvE,gvV,gvH,gvB,gvL,ybd,yaz,Nr,iX]
    exact ⟨rfl,b7 _⟩
   rintro k hk
   unfold c15l0
   simp -implicitDefEqProofs only [rX,↓rY,cells?,splice,↓reduceIte,Nat.reduceEqDiff,Nat.reduceAdd,bO,isC,Nat.reduceLeDiff,q1,q2]
   intro _
   cases hd:decide ((k:Int)<(ls.length:Int)) with
   | false =>
    simp only [kc]
    have:¬(k:Int)<(ls.length:Int):=by simpa using hd
    have hkn:k=nb t.length b:=by omega
    have e1:dmL m ls t hv=ofS (dmO ls t b hv (nb t.length b)):=by
     unfold dmL;rw [if_neg (by rw [he0];decide),hb,yab]
    rw [dR,e1,he0,hkn]
    simp -implicitDefEqProofs only [rX,↓rY,↓reduceIte,Nat.reduceEqDiff,Nat.reduceAdd,aP,aQ,aD,wfV,wfL]
    refine ⟨([]:List Blk),⟨trivial,yag _,trivial⟩,?_⟩
    simp [gvV,gvL,wk,wkL,wkR]
   | true =>
   have hkl:k<ls.length:=by have:=of_decide_eq_true hd;omega
   have hkn:k<nb t.length b:=by omega
   simp only [kb]
   obtain ⟨hbd,hss⟩:=y9 (t:=t) (b:=b) (by omega) ht hkn
   refine aC (aeS m k hm hr) ⟨⟨cG.1,trivial,trivial⟩,cG.2,rfl,trivial⟩ (by simp [ren,cI,enS]) trivial ?_
   rw [Lu hm hb2 hb he0 hkn]
   simp -implicitDefEqProofs only [rX,↓rY,aA,cells?,splice,↓reduceIte,Nat.reduceEqDiff,Nat.reduceAdd,aE,bJ,bG,jR]
   refine aC (aeM hv (spn t b k) hbd hss) ⟨⟨trivial,⟨trivial,trivial,trivial⟩,trivial⟩,⟨rfl,rfl⟩,⟨rfl,rfl,trivial⟩,trivial⟩ rfl trivial ?_
   have hbl:(bk t b k).length≤1000000000:=by rw [o8];omega
   have hdm:dmg ls t b hv k=((lf (bk t b k) != ls[k])&&cov hv (spn t b k)):=by simp [dmg,List.getD,yah hkl]
   cases h7:cov hv (spn t b k) with
   | false =>
    simp -implicitDefEqProofs only [rX,↓rY,qs,rdK,aA,↓reduceIte,Nat.reduceEqDiff,Nat.reduceAdd,leE,leH,leB,leV,cN,aD,aB,wfE,wfB,wfV,wfL]
    have e1:dmO ls t b hv (k+1)=dmO ls t b hv k:=by rw [fT,hdm];simp [h7]
    exact ⟨by simp only [lo,Fx.hi];omega,k+1,⟨by omega,by omega⟩,⟨by omega,by rw [e1]⟩,b7 _,iX⟩
   | true =>
   simp -implicitDefEqProofs only [rX,↓rY,qs,rdK,zC,↓reduceIte,Nat.reduceEqDiff,Nat.reduceAdd,cQ,yad,yab,b5,i4,fJ]
   obtain ⟨u1,u2,u3⟩:=dX (hD _ (yaj hkl))
   have hbd2:=hbd
   unfold BdS at hbd2
   refine ⟨⟨⟨by omega,by omega⟩,by rw [Tp hb2.1 hkn];omega,ybq _⟩,⟨by omega,by omega⟩,hkl,by omega,?_⟩
   rw [Ra hb2.1 hkn]
   refine aC (aeL (bk t b k) (by omega)) ⟨⟨trivial,trivial⟩,rfl,trivial⟩ (by simp [ren,aS]) trivial ?_
   have hol:=Gc (ls:=ls) (t:=t) (b:=b) (hv:=hv) (n:=k)
   have hnb:=Ia (n:=t.length) hb2.1
   cases h6:(lf (bk t b k)==ls[k]) with
   | true =>
    simp -implicitDefEqProofs only [rX,↓rY,aA,↓reduceIte,Nat.reduceEqDiff,Nat.reduceAdd,leE,leH,leB,leV,cN,aD,aB,wfE,wfB,wfV,wfL,bJ,bG,mF jW (hD _ (yaj hkl)),h6,u2]
    have e1:dmO ls t b hv (k+1)=dmO ls t b hv k:=by rw [fT,hdm];simp [bne,h6]
    exact ⟨by simp only [lo,Fx.hi];omega,k+1,⟨by omega,by omega⟩,⟨by omega,by rw [e1]⟩,b7 _,iX⟩
   | false =>
    have e1:dmO ls t b hv (k+1)=dmO ls t b hv k++[spn t b k]:=by rw [fT,hdm];simp [bne,h6,h7]
    simp -implicitDefEqProofs only [rX,↓rY,aA,↓reduceIte,Nat.reduceEqDiff,Nat.reduceAdd,leE,leH,leB,leV,cN,aD,aB,wfE,wfB,wfV,wfL,bJ,bG,mF jW (hD _ (yaj hkl)),h6,u2]
    have hv1:Vd (ofS (dmO ls t b hv k)):=Vd.of (Xj (by omega) ht (by omega))
    have hvl:=hv1.len
    refine aC (aeK (ofS (dmO ls t b hv k)) (spn t b k) (by omega)) ⟨⟨trivial,⟨trivial,trivial,trivial⟩,trivial⟩,⟨rfl,rfl⟩,⟨rfl,rfl,trivial⟩,trivial⟩ rfl trivial ?_
    simp -implicitDefEqProofs only [rX,↓rY,aA,↓reduceIte,Nat.reduceEqDiff,Nat.reduceAdd,leE,leH,leB,leV,cN,aD,aB,wfE,wfB,wfV,wfL]
    exact ⟨by simp only [lo,Fx.hi];omega,k+1,⟨by omega,by omega⟩,⟨by omega,by rw [e1,←Pr]⟩,b7 _,iX⟩
  ·intro e g8 h
   exact hret e 8 g8 (dm8 hz h) (by decide)
 ·intro e g8 h
  exact hret e 1 g8 (dm1 h) (by decide)
end Go.Fx.H
namespace Go.Fx.H
open Go Go.Fx Go.Proofs Go.Fx.R
set_option maxRecDepth 20000
def len (s:Sp):Int:=s.2-s.1
def Be (s t:Sp):Int:=len s-len t
theorem Rm (s t:Sp) (hs:BdS s) (ht:BdS t):Ok 68 [.agg (enS s),.agg (enS t)] (Is (.i (Be s t))):=by
 refine bA lw68 (by simp) ?_
 unfold c68
 unfold BdS at hs ht
 simp -implicitDefEqProofs only [rX,↓rY,aA,cells?,↓reduceIte,Nat.reduceEqDiff,Nat.reduceAdd,reduceCtorEq,aE,aP,aQ,wfV,cxN,i4,fJ,aF]
 refine ⟨by simp only [lo,Fx.hi];omega,by simp only [lo,Fx.hi];omega,by simp only [lo,Fx.hi];omega,?_⟩
 rfl
def lt (s t:Sp):Prop:=len s<len t∨(len s=len t∧s.1<t.1)
instance:DecidableRel lt:=fun s t=>inferInstanceAs (Decidable (_∨_))
theorem m8 {s t u:Sp} (h:lt s t) (h2:lt t u):lt s u:=by unfold lt at *;omega
theorem Wr {s:Sp}:¬lt s s:=by unfold lt;omega
theorem vF {s t:Sp} (h:s.1<t.1∨t.1<s.1):lt s t∨lt t s:=by unfold lt;omega
def SrL (l:List Sp):Prop:=l.Pairwise lt
def Fy (x:Sp):List Sp→List Sp
 | []=>[x]
 | y::r=>if lt x y then x::y::r else y::Fy x r
def bU:List Sp→List Sp
 | []=>[]
 | x::r=>Fy x (bU r)
theorem r5 {x:Sp}:∀ {l:List Sp},(Fy x l).Perm (x::l)
 | []=>.refl _
 | y::r=>by
  unfold Fy
  split
  ·exact .refl _
  ·exact (r5.cons y).trans (.swap x y r)
theorem bX:∀ {l:List Sp},(bU l).Perm l
 | []=>.refl _
 | x::r=>r5.trans (bX.cons x)
theorem Cd:∀ {l m:List Sp},SrL l→SrL m→l.Perm m→l=m
 | [],m,_,_,h=>by have:=h.length_eq;cases m with
  | nil=>rfl
  | cons=>simp at this
 | x::r,[],_,_,h=>by have:=h.length_eq;simp at this
 | x::r,y::t,hl,hm,h=>by
  have hl':=yau.1 hl
  have hm':=yau.1 hm
  have exy:x=y:=by
   have h1:x∈y::t:=h.mem_iff.1 (by simp)
   have h2:y∈x::r:=h.mem_iff.2 (by simp)
   rcases yaG.1 h1 with h1|h1
   ·exact h1
   ·rcases yaG.1 h2 with h2|h2
    ·exact h2.symm
    ·exact absurd (m8 (hl'.1 y h2) (hm'.1 x h1)) Wr
  subst exy
  rw [Cd hl'.2 hm'.2 (List.Perm.cons_inv h)]
def Asc (l:List Sp):Prop:=l.Pairwise fun s t=>s.1<t.1
def Dst (l:List Sp):Prop:=l.Pairwise fun s t=>s.1≠t.1
theorem nF {l m:List Sp} (h:Dst l) (hp:l.Perm m):Dst m:=hp.pairwise h (fun h=>Ne.symm h)
theorem Dg {x:Sp}:∀ {l:List Sp},SrL l→Dst (x::l)→SrL (Fy x l)
 | [],_,_=>by simp [Fy,SrL]
 | y::r,h,hd=>by
  have h':=yau.1 h
  have hd':=yau.1 hd
  unfold Fy
  split
  ·rename_i hxy
   refine yau.2 ⟨fun z hz=>?_,h⟩
   rcases yaG.1 hz with rfl|hz
   ·exact hxy
   ·exact m8 hxy (h'.1 z hz)
  ·rename_i hxy
   refine yau.2 ⟨fun z hz=>?_,Dg h'.2 (yau.2 ⟨fun z hz=>hd'.1 z (by simp [hz]),(yau.1 hd'.2).2⟩)⟩
   have hz':=r5.mem_iff.1 hz
   rcases yaG.1 hz' with rfl|hz'
   ·have:=hd'.1 y (by simp)
    rcases vF (s:=z) (t:=y) (by omega) with h|h
    ·exact absurd h hxy
    ·exact h
   ·exact h'.1 z hz'
theorem gQ:∀ {l:List Sp},Dst l→SrL (bU l)
 | [],_=>by simp [bU,SrL]
 | x::r,h=>by
  have h':=yau.1 h
  refine Dg (gQ h'.2) (yau.2 ⟨fun z hz=>h'.1 z (bX.mem_iff.1 hz),nF h'.2 bX.symm⟩)
theorem tO {l m:List Sp} (h:SrL m) (hp:m.Perm l) (hd:Dst l):bU l=m:=Cd (gQ hd) h (bX.trans hp.symm)
theorem Jh {l:List Sp} (h:Asc l):Dst l:=h.imp fun h=>by omega
theorem Lw {α:Type} {A B:List α} {x y:α}:((A++y::x::B).set A.length x).set (A.length+1) y=A++x::y::B:=by
 rw [yaH _ _ (yae _),Nat.sub_self,List.set_cons_zero,yaH _ _ (by omega)]
 simp
theorem Jo {α:Type} {A B:List α} {x y:α}:((A++y::x::B).set (A.length+1) y).set A.length x=A++x::y::B:=by
 rw [yaH _ _ (by omega),yaH _ _ (yae _)]
 simp
theorem vP {S M:List Sp} {x:Sp} {g:Nat} (hS:SrL S) (hp:S.Perm M) (hd:Dst (M++[x])) (hgt:∀ y∈S.drop g,lt x y) (hle:∀ y∈S.take g,lt y x):bU (M++[x])=S.take g++x::S.drop g:=by
 refine tO ?_ ?_ hd
 ·have h0:=hS
  rw [←yan g S] at h0
  obtain ⟨h1,h2,h3⟩:=yax.1 h0
  refine yax.2 ⟨h1,yau.2 ⟨hgt,h2⟩,fun y hy z hz=>?_⟩
  rcases yaG.1 hz with rfl|hz
  ·exact hle y hy
  ·exact h3 y hy z hz
 ·refine List.perm_middle.trans ?_
  rw [yan]
  exact (hp.cons x).trans (List.perm_append_singleton x M).symm
abbrev rw2 (l:List Sp):Blk:=.arr 2 (l.map enS)
def mid (P S:List Sp) (x:Sp) (T:List Sp) (g:Nat):List Sp:=P++(S.take g++x::S.drop g)++T
theorem No {P S T:List Sp} {x:Sp} {g:Nat} (hg:g≤S.length) (hh:((P.length:Int)+g).toNat<(mid P S x T g).length):(mid P S x T g)[((P.length:Int)+g).toNat]'hh=x:=by
 have e:((P.length:Int)+g).toNat=P.length+g:=by omega
 have hl:(S.take g).length=g:=by rw [yai];omega
 simp only [e,mid]
 rw [yay (by simp;omega),yao (by omega),yao (by omega)]
 simp [hl]
theorem Tz {P S T:List Sp} {x:Sp} {g:Nat} (hg:1≤g) (hS:g-1<S.length) (hh:((P.length:Int)+g-1).toNat<(mid P S x T g).length):(mid P S x T g)[((P.length:Int)+g-1).toNat]'hh=S[g-1]:=by
 have e:((P.length:Int)+g-1).toNat=P.length+(g-1):=by omega
 have hl:(S.take g).length=g:=by rw [yai];omega
 simp only [e,mid]
 rw [yay (by simp;omega),yao (by omega),yay (by omega)]
 simp
theorem Np {P S T:List Sp} {x:Sp} {g:Nat} (hg:1≤g) (hS:g-1<S.length):((mid P S x T g).set ((P.length:Int)+g).toNat S[g-1]).set ((P.length:Int)+g-1).toNat x=mid P S x T (g-1):=by
 have e1:((P.length:Int)+g).toNat=(P++S.take (g-1)).length+1:=by rw [yac,yai];omega
 have e2:((P.length:Int)+g-1).toNat=(P++S.take (g-1)).length:=by rw [yac,yai];omega
 have e3:S.take g=S.take (g-1)++[S[g-1]]:=by
  have:=yaq (l:=S) (i:=g-1)
  rw [yah hS,show g-1+1=g by omega] at this
  exact this
 have e4:mid P S x T g=(P++S.take (g-1))++S[g-1]::x::(S.drop g++T):=by unfold mid;rw [e3];simp only [yal,yaO,yaE]
 have e5:mid P S x T (g-1)=(P++S.take (g-1))++x::S[g-1]::(S.drop g++T):=by
  unfold mid;rw [yaw hS,show g-1+1=g by omega];simp
 rw [e1,e2,e4,e5]
 exact Jo
theorem Hk {L L':List Sp} {i j:Nat} {x y:Sp} {hh:j<((L.map enS).set i (enS y)).length} (h:(L.set i y).set j x=L'):Blk.arr 2 (((L.map enS).set i (enS y)).set j (enS x++yak 2 (((L.map enS).set i (enS y))[j]'hh)))=rw2 L':=by
 have e1:(L.map enS).set i (enS y)=(L.set i y).map enS:=List.map_set.symm
 have e2:yak 2 (((L.map enS).set i (enS y))[j]'hh)=[]:=by
  simp only [e1,yad];rfl
 rw [e2,yas,e1,←List.map_set,h]
theorem Tw (P M Q:List Sp) (a b:Int) (n:Nat) (hn:n=(P++M++Q).length) (h:n≤100000) (ha:a=P.length) (hb:b=P.length+M.length) (hasc:Asc M) (hbd:Bd M) :
  OkN Tryz.prog 155 [.sl 0 0 n,.i a,.i b,.clo 68 []] [rw2 (P++M++Q)] [] (IsA (.tup []) [rw2 (P++bU M++Q)]):=by
 subst ha hb
 have hlen:n=P.length+M.length+Q.length:=by rw [hn];simp;omega
 refine f7 pol [0] lw155 (by simp) ⟨trivial,trivial⟩ (fun k hk hm=>by simp at hk ⊢;omega) ?_
 unfold c155
 simp -implicitDefEqProofs only [rX,↓rY,aA,↓reduceIte,Nat.reduceAdd,reduceCtorEq,cxN,aF]
 refine ⟨by simp only [lo,Fx.hi];omega,?_⟩
 refine aY (fun k:Nat=>⟨[(8,.i (P.length+k)),(0,.sl 0 0 n),(1,.i P.length),(2,.i (P.length+M.length)),(3,.clo 68 [])],[rw2 (P++(bU (M.take k)++M.drop k)++Q)],0⟩) (fun k=>1≤k∧k≤max 1 M.length) (fun k=>1+M.length-k) 1 (by omega) ?_ ?_
 ·have e1:bU (M.take 1)++M.drop 1=M:=by cases M with
   | nil=>rfl
   | cons x r=>rfl
  rw [e1]
  simp -implicitDefEqProofs only [rX,↓reduceIte,Nat.reduceEqDiff,reduceCtorEq,leE,leH,leB,aD,aB,wfE,wfB,wfV,wfL,Int.natCast_one]
 rintro k ⟨hk1,hk⟩
 unfold c155l0
 simp -implicitDefEqProofs only [rX,↓rY,↓reduceIte,Nat.reduceEqDiff,reduceCtorEq]
 cases hd:decide ((P.length:Int)+k<P.length+M.length) with
 | false =>
  have hkm:k=max 1 M.length:=by have:=of_decide_eq_false hd;omega
  simp only [kc]
  rw [yaa (by omega),yam (by omega),bN]
  simp -implicitDefEqProofs only [rX,aP,aQ,leH,leB,aD,aB,wfB,wfV,wfL]
 | true =>
 have hkm:k<M.length:=by have:=of_decide_eq_true hd;omega
 have hPb:Bd M:=hbd
 have hsl:(bU (M.take k)).length=k:=by rw [bX.length_eq,yai];omega
 have hin:rw2 (P++(bU (M.take k)++M.drop k)++Q)=rw2 (mid P (bU (M.take k)) M[k] (M.drop (k+1)++Q) k):=by
  unfold mid
  rw [yaw hkm,yaa (show (bU (M.take k)).length≤k by omega),yam (show (bU (M.take k)).length≤k by omega)]
  simp only [yal,yaO,yaE]
 rw [hin,kb]
 have hdst:Dst M:=Jh hasc
 have hS:SrL (bU (M.take k)):=gQ (hdst.sublist (yaI k M))
 have hSM:(bU (M.take k)).Perm (M.take k):=bX
 have hSx:∀ y∈bU (M.take k),y.1<M[k].1:=by
  intro y hy
  have hy':=hSM.mem_iff.1 hy
  have h0:=hasc
  rw [←yan k M] at h0
  refine (yax.1 h0).2.2 y hy' _ ?_
  rw [yaw hkm];exact yaP
 have hSb:Bd (bU (M.take k)):=fun y hy=>hbd y (ybf (hSM.mem_iff.1 hy))
 have hxb:BdS M[k]:=hbd _ (yaj hkm)
 have hfin:∀ g,g≤k→(∀ y∈(bU (M.take k)).drop g,lt M[k] y)→(∀ y∈(bU (M.take k)).take g,lt y M[k])→rw2 (mid P (bU (M.take k)) M[k] (M.drop (k+1)++Q) g)=rw2 (P++(bU (M.take (k+1))++M.drop (k+1))++Q):=by
  intro g hg h1 h2
  have e1:M.take (k+1)=M.take k++[M[k]]:=by rw [yaq,yah hkm];rfl
  have h0:Dst (M.take k++[M[k]]):=by rw [←e1];exact hdst.sublist (yaI _ M)
  rw [e1,vP hS hSM h0 h1 h2,mid]
  simp
 generalize bU (M.take k)=S at *
 generalize hx:M[k]=x at *
 refine aY (fun g:Nat=>⟨[(9,.i (P.length+g)),(8,.i (P.length+k)),(0,.sl 0 0 n),(1,.i P.length),(2,.i (P.length+M.length)),(3,.clo 68 [])],[rw2 (mid P S x (M.drop (k+1)++Q) g)],0⟩) (fun g=>g≤k∧∀ y∈S.drop g,lt x y) (fun g=>g) k ⟨yae _,by rw [yam (by omega)];simp⟩ ?_ ?_
 ·simp -implicitDefEqProofs only [rX,↓reduceIte,Nat.reduceEqDiff,reduceCtorEq,leE,leH,leB,aD,aB,wfE,wfB,wfV,wfL]
 rintro g ⟨hg,hgt⟩
 have hml:(mid P S x (M.drop (k+1)++Q) g).length=n:=by simp [mid,hlen];omega
 unfold c155l1
 simp -implicitDefEqProofs only [rX,↓rY,aA,↓reduceIte,Nat.reduceEqDiff,fM,reduceCtorEq,leE,leH,leB,aD,aB,wfE,wfB,wfV,wfL,yad,bJ,bG]
 cases hd2:decide ((P.length:Int)<P.length+g) with
 | false =>
  have hg0:g=0:=by have:=of_decide_eq_false hd2;omega
  subst hg0
  simp -implicitDefEqProofs only [↓rY]
  refine ⟨by simp only [lo,Fx.hi];omega,k+1,⟨by omega,by omega⟩,by omega,hfin 0 (by omega) (by simpa using hgt) (by simp)⟩
 | true =>
 have hg1:1≤g:=by have:=of_decide_eq_true hd2;omega
 simp -implicitDefEqProofs only [↓rY,hml]
 have hgS:g-1<S.length:=by omega
 have h1:∀ hh,(mid P S x (M.drop (k+1)++Q) g)[((P.length:Int)+g).toNat]'hh=x:=No (by omega)
 have h2:∀ hh,(mid P S x (M.drop (k+1)++Q) g)[((P.length:Int)+g-1).toNat]'hh=S[g-1]:=Tz (by omega) hgS
 refine ⟨by omega,by omega,by simp only [lo,Fx.hi];omega,by omega,by omega,?_⟩
 rw [h1,h2]
 have hyb:=hSb _ (yaj hgS)
 have hyx:=hSx _ (yaj hgS)
 refine aC (Rm x S[g-1] hxb hyb) ⟨⟨⟨trivial,trivial,trivial⟩,⟨trivial,trivial,trivial⟩,trivial⟩,⟨rfl,rfl,trivial⟩,⟨rfl,rfl,trivial⟩,trivial⟩ rfl ⟨trivial,trivial⟩ ?_
 have hc:decide (Be x S[g-1]<0)=decide (lt x S[g-1]):=by
  unfold Be lt
  exact decide_eq_decide.2 (by omega)
 simp -implicitDefEqProofs only [rX,↓rY,rdK,aA,cells?,splice,↓reduceIte,Nat.reduceEqDiff,fM,reduceCtorEq,leE,leH,leB,aD,aB,wfE,wfB,wfV,wfL,yad,bJ,bG,jR,mO,nE,hc]
 cases hd3:decide (lt x S[g-1]) with
 | false =>
  have hn3:¬lt x S[g-1]:=of_decide_eq_false hd3
  have hl3:lt S[g-1] x:=(vF (.inl hyx)).resolve_right hn3
  simp -implicitDefEqProofs only [↓rY,kc]
  refine ⟨by simp only [lo,Fx.hi];omega,k+1,⟨by omega,by omega⟩,by omega,hfin g hg hgt fun y hy=>?_⟩
  rw [show g=g-1+1 by omega,yaq,yah hgS] at hy
  rcases yaD.1 hy with hy|hy
  ·refine m8 ?_ hl3
   have h0:=hS
   rw [←yan (g-1) S] at h0
   refine (yax.1 h0).2.2 y hy _ ?_
   rw [yaw hgS];exact yaP
  ·simp at hy;subst hy;exact hl3
 | true =>
  have hl3:lt x S[g-1]:=of_decide_eq_true hd3
  simp -implicitDefEqProofs only [↓rY,kb,hml,h1,h2]
  refine ⟨by simp only [lo,Fx.hi];omega,by simp only [lo,Fx.hi];omega,by omega,by omega,by omega,by omega,by omega,by omega,by omega,by simp;omega,by simp only [lo,Fx.hi];omega,g-1,⟨⟨by omega,fun y hy=>?_⟩,by omega⟩,by omega,?_⟩
  ·rw [yaw hgS] at hy
   rcases yaG.1 hy with rfl|hy
   ·exact hl3
   ·rw [show g-1+1=g by omega] at hy;exact hgt y hy
  ·exact Hk (Np (by omega) hgS)
end Go.Fx.H
namespace Go.Fx.H
open Go Go.Fx Go.Proofs Go.Fx.R
set_option maxRecDepth 20000
def swr (P A C B Q:List Sp) (i:Nat):List Sp:=P++((B.take i++A.drop i)++(C++((A.take i++B.drop i)++Q)))
theorem Qy {P A C B Q:List Sp} {i:Nat} (h:A.length=B.length):(swr P A C B Q i).length=P.length+A.length+C.length+B.length+Q.length:=by
 unfold swr
 simp only [yac,yai,yav]
 omega
theorem Ya {P A C B Q:List Sp} {i:Nat} (h:A.length=B.length) (hi:i<A.length) (hh:((P.length:Int)+i).toNat<(swr P A C B Q i).length):(swr P A C B Q i)[((P.length:Int)+i).toNat]'hh=A[i]:=by
 have e:((P.length:Int)+i).toNat=P.length+i:=by omega
 have hl:(B.take i).length=i:=by rw [yai];omega
 simp only [e,swr]
 rw [yao (by omega),yay (by simp;omega),yao (by omega)]
 simp [hl]
theorem Xz {P A C B Q:List Sp} {i:Nat} {b:Int} (h:A.length=B.length) (hi:i<A.length) (hb:b=P.length+A.length+C.length) (hh:(b+i).toNat<(swr P A C B Q i).length):(swr P A C B Q i)[(b+i).toNat]'hh=B[i]:=by
 subst hb
 have e:((P.length:Int)+A.length+C.length+i).toNat=P.length+(A.length+(C.length+i)):=by omega
 have hl:(A.take i).length=i:=by rw [yai];omega
 have hl2:(B.take i++A.drop i).length=A.length:=by rw [yac,yai,yav];omega
 simp only [e,swr]
 rw [yao (by omega),yao (by omega),yao (by omega),yay (by simp;omega),yao (by omega)]
 simp [hl,hl2]
theorem Ce {α:Type} {A:List α} {i:Nat} (h:i<A.length):∃ A1 A2,A=A1++A[i]::A2∧A1.length=i :=
 ⟨A.take i,A.drop (i+1),by rw [←yaw h,yan],by rw [yai];omega⟩
theorem To {P A1 A2 C B1 B2 Q:List Sp} {x y:Sp} {i:Nat} (h1:A1.length=i) (h2:B1.length=i):swr P (A1++x::A2) C (B1++y::B2) Q i=P++((B1++x::A2)++(C++((A1++y::B2)++Q))):=by
 subst h1
 unfold swr
 rw [yaJ (by omega),yaa (show B1.length≤A1.length by omega),yaM (yae _),List.drop_length,yaJ (yae _),yaW,yaM (by omega),yam (show B1.length≤A1.length by omega)]
 rfl
theorem Ve {P A1 A2 C B1 B2 Q:List Sp} {x y:Sp} {i:Nat} (h1:A1.length=i) (h2:B1.length=i):swr P (A1++x::A2) C (B1++y::B2) Q (i+1)=P++((B1++y::A2)++(C++((A1++x::B2)++Q))):=by
 have:=To (P:=P) (A1:=A1++[x]) (A2:=A2) (C:=C) (B1:=B1++[y]) (B2:=B2) (Q:=Q) (x:=x) (y:=y) (i:=i+1) (by simp [h1]) (by simp [h2])
 unfold swr
 rw [show A1++x::A2=(A1++[x])++A2 by simp,show B1++y::B2=(B1++[y])++B2 by simp]
 rw [yaJ (by simp;omega),yaa (show (B1++[y]).length≤i+1 by simp;omega),yaM (by simp;omega),yam (show (A1++[x]).length≤i+1 by simp;omega),yaJ (by simp;omega),yaa (show (A1++[x]).length≤i+1 by simp;omega),yaM (by simp;omega),yam (show (B1++[y]).length≤i+1 by simp;omega)]
 simp
theorem Lx {X Y Z:List Sp} {u v:Sp} {i:Nat} (hX:X.length=i):((X++u::Y)++Z).set i v=(X++v::Y)++Z:=by
 rw [List.set_append_left _ _ (by simp;omega),yaH _ _ (by omega),hX,Nat.sub_self];rfl
theorem pH {X Z:List Sp} {k:Nat} {v:Sp}:(X++Z).set (X.length+k) v=X++Z.set k v:=by
 rw [yaH _ _ (by omega),Nat.add_sub_cancel_left]
theorem Vc {P A C B Q:List Sp} {i:Nat} {b:Int} (h:A.length=B.length) (hi:i<A.length) (hb:b=P.length+A.length+C.length) :
  ((swr P A C B Q i).set ((P.length:Int)+i).toNat (B[i]'(by omega))).set (b+i).toNat A[i]=swr P A C B Q (i+1):=by
 have hiB:i<B.length:=by omega
 obtain ⟨A1,A2,hA,hA1⟩:=Ce hi
 obtain ⟨B1,B2,hB,hB1⟩:=Ce hiB
 have e:((P.length:Int)+i).toNat=P.length+i:=by omega
 have e2:(b+i).toNat=P.length+(A.length+(C.length+i)):=by omega
 have hl3:(B1++B[i]::A2).length=A.length:=by
  have:=congrArg List.length hA
  simp at this ⊢;omega
 rw [e,e2,←hl3]
 generalize A[i]=x at *
 generalize B[i]=y at *
 subst hA hB
 rw [To hA1 hB1,Ve hA1 hB1,pH,Lx hB1,pH,pH,pH,Lx hA1]
theorem My (P A C B Q:List Sp) (a b:Int) (n:Nat) (hn:n=(P++(A++(C++(B++Q)))).length) (h:n≤100000) (hAB:A.length=B.length) (ha:a=P.length) (hb:b=P.length+A.length+C.length) :
  OkN Tryz.prog 210 [.sl 0 0 n,.i a,.i b,.i A.length,.clo 68 []] [rw2 (P++(A++(C++(B++Q))))] [] (IsA (.tup []) [rw2 (P++(B++(C++(A++Q))))]):=by
 have hlen:n=P.length+A.length+C.length+B.length+Q.length:=by rw [hn];simp;omega
 subst ha
 refine f7 pol [0] lw210 (by simp) ⟨trivial,trivial⟩ (fun k hk hm=>by simp at hk ⊢;omega) ?_
 unfold c210
 simp -implicitDefEqProofs only [rX,aA,Nat.reduceAdd,cxN,aF]
 refine aY (fun i:Nat=>⟨[(10,.i i),(0,.sl 0 0 n),(1,.i P.length),(2,.i b),(3,.i A.length)],[rw2 (swr P A C B Q i)],0⟩) (fun i=>i≤A.length) (fun i=>A.length-i) 0 (yag _) ?_ ?_
 ·have e0:swr P A C B Q 0=P++(A++(C++(B++Q))):=by simp [swr]
  simp -implicitDefEqProofs only [rX,↓reduceIte,Nat.reduceEqDiff,reduceCtorEq,leE,leH,leB,aD,aB,wfE,wfB,wfV,e0,yar]
 rintro i hi
 have hml:=Qy (P:=P) (A:=A) (C:=C) (B:=B) (Q:=Q) (i:=i) hAB
 unfold c210l0
 simp -implicitDefEqProofs only [rX,↓rY,rdK,aA,cells?,splice,↓reduceIte,Nat.reduceEqDiff,fM,reduceCtorEq,leE,leH,leB,aD,aB,wfE,wfB,wfV,yad,bJ,bG,jR,mO,nE]
 cases hd:decide ((i:Int)<A.length) with
 | false =>
  have hie:i=A.length:=by have:=of_decide_eq_false hd;omega
  have e0:swr P A C B Q A.length=P++(B++(C++(A++Q))):=by
   unfold swr
   rw [yaa (by omega),yam (by omega),yaa (by omega),yam (by omega)]
   simp
  subst hie
  simp -implicitDefEqProofs only [rX,↓rY,aP,aQ,leH,leB,aD,aB,wfB,wfV,wfL,kc,bN,e0]
 | true =>
 have hil:i<A.length:=by have:=of_decide_eq_true hd;omega
 simp -implicitDefEqProofs only [↓rY,kb,hml]
 have h1:∀ hh,(swr P A C B Q i)[((P.length:Int)+i).toNat]'hh=A[i]:=Ya hAB hil
 have h2:∀ hh,(swr P A C B Q i)[(b+i).toNat]'hh=B[i]'(by omega):=Xz hAB hil hb
 refine ⟨by simp only [lo,Fx.hi];omega,by simp only [lo,Fx.hi];omega,by simp only [lo,Fx.hi];omega,by omega,by omega,by simp only [lo,Fx.hi];omega,by omega,by omega,by omega,by omega,by omega,by simp;omega,by simp only [lo,Fx.hi];omega,i+1,⟨by omega,by omega⟩,by omega,?_⟩
 rw [h1,h2]
 exact Hk (Vc hAB hil hb)
theorem fU {cx:Cx} {f:FuncId} {args:List V} {e:Env} {b:Nat} {K:V→St→Prop} {L L':List Sp} (xs:List V) (hC:cx.C f xs [rw2 L] [] (IsA (.tup []) [rw2 L'])) (hbn:0∉cx.bn)
  (ha:aH [rw2 L] (pos [0]) args∧wkL xs (aT [rw2 L] (pos [0]) args)) (keep:aD cx.fx [rw2 L']) (h3:K (.tup []) ⟨e,[rw2 L'],b⟩):eR cx f args ⟨e,[rw2 L],b⟩ K:=by
 refine eQ [0] xs (.tup []) (.tup []) [rw2 L] [rw2 L'] [rw2 L'] hC ⟨by simp,fun k hk=>?_⟩ rfl ha (by simp) rfl rfl keep h3
 simp at hk
 subst hk
 exact ⟨by simp,hbn⟩
structure Pw (P L R Q p u v q:List Sp):Prop where
 hu:1≤u.length
 hv:1≤v.length
 hp:p.length+u.length=P.length+L.length
 ht:p++(v++(u++q))=P++(R++(L++Q))
abbrev G4:=List Sp × List Sp × List Sp × List Sp
theorem Pw.len {P L R Q p u v q:List Sp} (h:Pw P L R Q p u v q):p.length+v.length+u.length+q.length=P.length+L.length+R.length+Q.length:=by
 have:=congrArg List.length h.ht
 simp at this;omega
theorem Zx (P L R Q:List Sp) (a m b:Int) (n:Nat) (hn:n=(P++(L++(R++Q))).length) (h:n≤100000) (ha:a=P.length) (hm:m=P.length+L.length) (hb:b=P.length+L.length+R.length) (hL:1≤L.length) (hR:1≤R.length) :
  OkN Tryz.prog 181 [.sl 0 0 n,.i a,.i m,.i b,.clo 68 []] [rw2 (P++(L++(R++Q)))] [] (IsA (.tup []) [rw2 (P++(R++(L++Q)))]):=by
 have hlen:n=P.length+L.length+R.length+Q.length:=by rw [hn];simp;omega
 refine f7 pol [0] lw181 (by simp) ⟨trivial,trivial⟩ (fun k hk hm=>by simp at hk ⊢;omega) ?_
 unfold c181
 simp -implicitDefEqProofs only [rX,↓rY,↓reduceIte,Nat.reduceEqDiff,Nat.reduceAdd,reduceCtorEq,cxN,aF]
 refine ⟨by simp only [lo,Fx.hi];omega,by simp only [lo,Fx.hi];omega,?_⟩
 refine aY (fun g:G4=>⟨[(10,.i g.2.1.length),(11,.i g.2.2.1.length),(0,.sl 0 0 n),(2,.i m),(4,.clo 68 [])],[rw2 (g.1++(g.2.1++(g.2.2.1++g.2.2.2)))],0⟩) (fun g=>Pw P L R Q g.1 g.2.1 g.2.2.1 g.2.2.2) (fun g=>g.2.1.length+g.2.2.1.length) (P,L,R,Q) ⟨hL,hR,rfl,rfl⟩ ?_ ?_
 ·simp -implicitDefEqProofs only [rX,↓reduceIte,Nat.reduceEqDiff,reduceCtorEq,leE,leH,leB,aD,aB,wfE,wfB,wfV,wfL]
  refine ⟨?_,?_⟩<;>congr 1<;>omega
 rintro ⟨p,u,v,q⟩ hI
 have hIl:=hI.len
 obtain ⟨hu,hv,hp,ht⟩:=hI
 simp only at hu hv hp ht hIl
 have hnn:n=(p++(u++(v++q))).length:=by simp;omega
 unfold c181l0
 simp -implicitDefEqProofs only [rX,↓rY,↓reduceIte,Nat.reduceEqDiff,reduceCtorEq]
 cases hd:((u.length:Int) != v.length) with
 | false =>
  have huv:u.length=v.length:=by
   have:(u.length:Int)=v.length:=by simpa using hd
   omega
  simp -implicitDefEqProofs only [↓rY,kc]
  refine ⟨by simp only [lo,Fx.hi];omega,?_⟩
  have o:=My p u [] v q (m-u.length) m n (by simpa using hnn) h huv (by omega) (by simp;omega)
  refine fU _ o (by simp) ⟨⟨trivial,trivial,trivial,trivial,trivial,trivial⟩,rfl,rfl,rfl,rfl,⟨rfl,trivial⟩,trivial⟩ ⟨trivial,trivial⟩ ?_
  simp -implicitDefEqProofs only [rX,aP,aQ,leH,leB,aD,aB,wfB,wfV,wfL,bN]
  rw [ht]
 | true =>
 have huv:u.length≠v.length:=by
  have:(u.length:Int)≠v.length:=by simpa using hd
  omega
 simp -implicitDefEqProofs only [↓rY,kb]
 cases hd2:decide ((v.length:Int)<u.length) with
 | true =>
  have hlt:v.length<u.length:=by have:=of_decide_eq_true hd2;omega
  have hu2:u=u.take v.length++u.drop v.length:=(yan _ _).symm
  have hu1l:(u.take v.length).length=v.length:=by rw [yai];omega
  have hu2l:(u.drop v.length).length=u.length-v.length:=by rw [yav]
  have o:=My p (u.take v.length) (u.drop v.length) v q (m-u.length) m n (by simp;omega) h hu1l (by omega) (by omega)
  rw [hu1l] at o
  have e1:p++(u.take v.length++(u.drop v.length++(v++q)))=p++(u++(v++q)):=by rw [←yal (u.take _),←hu2]
  rw [e1] at o
  simp only [kb]
  refine ⟨by simp only [lo,Fx.hi];omega,fU _ o (by simp) ⟨⟨trivial,trivial,trivial,trivial,trivial,trivial⟩,rfl,rfl,rfl,rfl,⟨rfl,trivial⟩,trivial⟩ ⟨trivial,trivial⟩ ?_⟩
  simp -implicitDefEqProofs only [rX,↓rY,↓reduceIte,Nat.reduceEqDiff,reduceCtorEq,leE,leH,leB,aD,aB,wfE,wfB,wfV,wfL]
  have hI':Pw P L R Q (p++v) (u.drop v.length) (u.take v.length) q:=by
   refine ⟨by omega,by omega,by rw [yac];omega,?_⟩
   rw [←ht,yal,←yal (u.take _),←hu2]
  refine ⟨by simp only [lo,Fx.hi];omega,(p++v,u.drop v.length,u.take v.length,q),⟨hI',by simp only;omega⟩,⟨by simp only;omega,by simp only;omega⟩,by simp⟩
 | false =>
  have hlt:u.length<v.length:=by have:=of_decide_eq_false hd2;omega
  have hv2:v=v.take (v.length-u.length)++v.drop (v.length-u.length):=(yan _ _).symm
  have hv1l:(v.take (v.length-u.length)).length=v.length-u.length:=by rw [yai];omega
  have hv2l:(v.drop (v.length-u.length)).length=u.length:=by rw [yav];omega
  have o:=My p u (v.take (v.length-u.length)) (v.drop (v.length-u.length)) q (m-u.length) (m+v.length-u.length) n (by simp;omega) h (by omega) (by omega) (by omega)
  have e1:p++(u++(v.take (v.length-u.length)++(v.drop (v.length-u.length)++q)))=p++(u++(v++q)):=by rw [←yal (v.take _),←hv2]
  rw [e1] at o
  simp only [kc]
  refine ⟨by simp only [lo,Fx.hi];omega,by simp only [lo,Fx.hi];omega,by simp only [lo,Fx.hi];omega,fU _ o (by simp) ⟨⟨trivial,trivial,trivial,trivial,trivial,trivial⟩,rfl,rfl,rfl,rfl,⟨rfl,trivial⟩,trivial⟩ ⟨trivial,trivial⟩ ?_⟩
  simp -implicitDefEqProofs only [rX,↓rY,↓reduceIte,Nat.reduceEqDiff,reduceCtorEq,leE,leH,leB,aD,aB,wfE,wfB,wfV,wfL]
  have hI':Pw P L R Q p (v.drop (v.length-u.length)) (v.take (v.length-u.length)) (u++q):=by
   refine ⟨by omega,by omega,by omega,?_⟩
   rw [←ht,←yal (v.take _),←hv2]
  refine ⟨by simp only [lo,Fx.hi];omega,(p,v.drop (v.length-u.length),v.take (v.length-u.length),u++q),⟨hI',by simp only;omega⟩,⟨by simp only;omega,by simp only;omega⟩,rfl⟩
end Go.Fx.H
namespace Go.Fx.H
open Go Go.Fx Go.Proofs Go.Fx.R
set_option maxRecDepth 20000
structure tK (L R:List Sp):Prop where
 hL:SrL L
 hR:SrL R
 sep:∀ x∈L,∀ y∈R,x.1<y.1
 bd:Bd (L++R)
 dst:Dst (L++R)
def Uk (P L R Q:List Sp):Prop:=∀ (n:Nat) (a m b:Int),n=(P++(L++(R++Q))).length→n≤100000→a=P.length→m=P.length+L.length→b=P.length+L.length+R.length→tK L R→1≤L.length→1≤R.length →
 OkN Tryz.prog 156 [.sl 0 0 n,.i a,.i m,.i b,.clo 68 []] [rw2 (P++(L++(R++Q)))] [] (IsA (.tup []) [rw2 (P++(bU (L++R)++Q))])
abbrev cM:Cx:=cxN Tryz.prog [0]
theorem c156_parts:c156=.seq (pt 0 c156) (.seq (pt 1 c156) (rt 2 c156)):=by rfl
theorem pG {x:Int} (h0:0≤x) (h:x≤1000000) {K:V→Prop}:bK .shr .u64 (IntKind.u64.wrap x) 1 K=K (.v (.int .u64 (x/2))):=by
 have e:IntKind.u64.wrap x=x:=by rw [wrap64];omega
 rw [e,Yd]
 have e2:(x.fdiv (2 ^ (min (1:Int).toNat 64)))=x/2:=by
  rw [show (2:Int) ^ (min (1:Int).toNat 64)=2 from rfl,Int.fdiv_eq_ediv_of_nonneg _ (by omega)]
 rw [e2]
 exact propext ⟨fun h=>h.2,fun h=>⟨by decide,h⟩⟩
theorem nN {x:Int} (h0:0≤x) (h:x≤1000000):IntKind.i64.wrap (x/2)=x/2:=gI _ _ (by simp only [lo,Fx.hi];omega)
theorem abK {P S T:List Sp} {x:Sp} {g c:Nat} {k:Int} (hg:g≤S.length) (hc:c<g) (hk:k=P.length+c) (hh:k.toNat<(mid P S x T g).length):(mid P S x T g)[k.toNat]'hh=S[c]'(by omega):=by
 subst hk
 have e:((P.length:Int)+c).toNat=P.length+c:=by omega
 have hl:(S.take g).length=g:=by rw [yai];omega
 simp only [e,mid]
 rw [yay (by simp;omega),yao (by omega),yay (by omega)]
 simp
theorem Ty {P S T:List Sp} {x:Sp} {g c:Nat} {k:Int} (hg:g≤c) (hc:c<S.length) (hk:k=P.length+1+c) (hh:k.toNat<(mid P S x T g).length):(mid P S x T g)[k.toNat]'hh=S[c]:=by
 subst hk
 have e:((P.length:Int)+1+c).toNat=P.length+(g+(1+(c-g))):=by omega
 have hl:(S.take g).length=g:=by rw [yai];omega
 have e2:x::S.drop g=[x]++S.drop g:=rfl
 simp only [e,mid,e2]
 rw [yay (by simp;omega),yao (by omega),yao (by omega),yao (by simp;omega)]
 simp only [hl,List.getElem_drop,yaS]
 congr 1
 omega
theorem Fp {P S T:List Sp} {x:Sp} {g:Nat} {k:Int} (hg:g≤S.length) (hk:k=P.length+g) (hh:k.toNat<(mid P S x T g).length):(mid P S x T g)[k.toNat]'hh=x:=by
 subst hk
 exact No hg hh
theorem Ig {P S T:List Sp} {x:Sp} {g:Nat}:(mid P S x T g).length=P.length+S.length+1+T.length:=by
 have:(S.take g).length+(S.drop g).length=S.length:=by rw [←yac,yan]
 unfold mid
 simp only [yac,yaN]
 omega
theorem Wq {P S T:List Sp} {x:Sp} {g:Nat} {k k1:Int} (hS:g<S.length) (hk:k=P.length+g) (hk1:k1=P.length+g+1):((mid P S x T g).set k.toNat S[g]).set k1.toNat x=mid P S x T (g+1):=by
 subst hk hk1
 have hl:(S.take g).length=g:=by rw [yai];omega
 have e1:((P.length:Int)+g).toNat=(P++S.take g).length:=by rw [yac,hl];omega
 have e2:((P.length:Int)+g+1).toNat=(P++S.take g).length+1:=by rw [yac,hl];omega
 have e3:S.take (g+1)=S.take g++[S[g]]:=by rw [yaq,yah hS];rfl
 have e4:mid P S x T g=(P++S.take g)++x::S[g]::(S.drop (g+1)++T):=by
  unfold mid;rw [yaw hS];simp only [yal,yaO]
 have e5:mid P S x T (g+1)=(P++S.take g)++S[g]::x::(S.drop (g+1)++T):=by
  unfold mid;rw [e3];simp only [yal,yaO,yaE]
 rw [e1,e2,e4,e5]
 exact Lw
theorem tN {R:List Sp} {x y:Sp} {h:Nat} (hR:SrL R) (hy:R[h]?=some y) (hl:lt y x):∀ z∈R.take (h+1),lt z x:=by
 intro z hz
 rw [yaq,hy] at hz
 rcases yaD.1 hz with hz|hz
 ·refine m8 ?_ hl
  have h0:=hR
  rw [←yan h R] at h0
  refine (yax.1 h0).2.2 z hz _ ?_
  exact List.mem_of_getElem? (i:=0) (by rw [List.getElem?_drop];exact hy)
 ·simp at hz;subst hz;exact hl
theorem tZ {R:List Sp} {x y:Sp} {h:Nat} (hR:SrL R) (hy:R[h]?=some y) (hl:lt x y):∀ z∈R.drop h,lt x z:=by
 intro z hz
 obtain ⟨hh,rfl⟩:=List.getElem?_eq_some_iff.1 hy
 rw [yaw hh] at hz
 rcases yaG.1 hz with rfl|hz
 ·exact hl
 ·refine m8 hl ?_
  have h0:=hR
  rw [←yan h R,yaw hh] at h0
  exact (yau.1 (yax.1 h0).2.1).1 z hz
theorem uI {l m:List Sp} (h:l.Perm m) (hd:Dst m):bU l=bU m:=by
 have hd':Dst l:=nF hd h.symm
 exact tO (gQ hd) (bX.trans h.symm) hd'
section
variable {P L R Q:List Sp} {x:Sp} {n:Nat} {a m b:Int} {N Z:St→Prop} {X:Nat→St→Prop} {e:Env} {bb:Nat}
structure Td (n:Nat) (a m b:Int) (e:Env):Prop where
 e0:get e 0=.sl 0 0 n
 e1:get e 1=.i a
 e2:get e 2=.i m
 e3:get e 3=.i b
 e4:get e 4=.clo 68 []
theorem Vq (hn:n=(P++(L++(R++Q))).length) (h:n≤100000) (ha:a=P.length) (hm:m=P.length+L.length) (hb:b=P.length+L.length+R.length) (hI:tK L R) (hL:1≤L.length) (hR:1≤R.length)
  (hE:Td n a m b e) (hN:∀ e b',Td n a m b e→2≤L.length→N ⟨e,[rw2 (P++(L++(R++Q)))],b'⟩) (hZ:∀ e b',Z ⟨e,[rw2 (P++(bU (L++R)++Q))],b'⟩) :
  aw cM (pt 0 c156) N X Z ⟨e,[rw2 (P++(L++(R++Q)))],bb⟩:=by
 obtain ⟨e0,e1,e2,e3,e4⟩:=hE
 have hlen:n=P.length+L.length+R.length+Q.length:=by rw [hn];simp;omega
 conv=>arg 2;whnf
 simp -implicitDefEqProofs only [rX,↓rY,aA,↓reduceIte,Nat.reduceEqDiff,cxN,e1,e2,e3]
 refine ⟨by simp only [lo,Fx.hi];omega,?_⟩
 cases hd:(m-a==1) with
 | false =>
  have:m-a≠1:=by simpa using hd
  simp -implicitDefEqProofs only [↓rY,kc]
  exact hN _ _ ⟨e0,e1,e2,e3,e4⟩ (by omega)
 | true =>
 have h1:L.length=1:=by
  have:m-a=1:=by simpa using hd
  omega
 obtain ⟨x,rfl⟩:∃ x,L=[x]:=by
  match L,h1 with
  | [x],_=>exact ⟨x,rfl⟩
 have e9:P++([x]++(R++Q))=mid P R x Q 0:=by simp [mid]
 rw [e9]
 have hml:=fun g=>Ig (P:=P) (S:=R) (T:=Q) (x:=x) (g:=g)
 have hxb:BdS x:=hI.bd x (by simp)
 simp -implicitDefEqProofs only [↓rY,kb]
 refine aY (fun g:Nat × Nat=>⟨[(10,.i (m+g.1)),(11,.i (m+g.2)),(0,.sl 0 0 n),(1,.i a),(4,.clo 68 [])],[rw2 (mid P R x Q 0)],bb⟩) (fun g=>g.1≤g.2∧g.2≤R.length∧(g.1=0∨∃ y,R[g.1-1]?=some y∧lt y x)∧(g.2=R.length∨∃ y,R[g.2]?=some y∧lt x y)) (fun g=>g.2-g.1) (0,R.length) ⟨yag _,yae _,.inl rfl,.inl rfl⟩ ?_ ?_
 ·simp -implicitDefEqProofs only [rX,↓reduceIte,Nat.reduceEqDiff,reduceCtorEq,leE,leH,leB,aD,aB,wfE,wfB,wfV,wfL,e0,e1,e4]
  simp only [yaS] at *
  exact ⟨by omega,by omega⟩
 rintro ⟨i,j⟩ ⟨hij,hj,hi1,hj1⟩
 simp only [yaS] at hij hj hi1 hj1 hm hb hlen
 unfold c156l0
 simp -implicitDefEqProofs only [rX,↓rY,aA,↓reduceIte,Nat.reduceEqDiff,fM,reduceCtorEq,yad,bJ,bG]
 cases hd2:decide (m+(i:Int)<m+j) with
 | false =>
  have hij2:i=j:=by have:=of_decide_eq_false hd2;omega
  subst hij2
  simp -implicitDefEqProofs only [↓rY,kc]
  have hlow:∀ z∈R.take i,lt z x:=by
   rcases hi1 with h0|⟨y,hy,hl⟩
   ·subst h0;simp
   ·rcases yat i with h0|h0
    ·subst h0;simp
    ·rw [show i=i-1+1 by omega];exact tN hI.hR hy hl
  have hhigh:∀ z∈R.drop i,lt x z:=by
   rcases hj1 with h0|⟨y,hy,hl⟩
   ·rw [yam (by omega)];simp
   ·exact tZ hI.hR hy hl
  have hres:rw2 (mid P R x Q i)=rw2 (P++(bU ([x]++R)++Q)):=by
   have hd':Dst (R++[x]):=nF hI.dst ybB
   rw [uI (m:=R++[x]) ybB hd',vP hI.hR (.refl _) hd' hhigh hlow]
   simp [mid]
  refine aY (fun t:Nat=>⟨[(13,.i (a+t)),(10,.i (m+i)),(0,.sl 0 0 n)],[rw2 (mid P R x Q t)],bb⟩) (fun t=>t≤i) (fun t=>i-t) 0 (yag _) ?_ ?_
  ·simp -implicitDefEqProofs only [rX,↓reduceIte,Nat.reduceEqDiff,reduceCtorEq,leE,leH,leB,aD,aB,wfE,wfB,wfV,yar,Int.add_zero]
  rintro t ht
  unfold c156l1
  simp -implicitDefEqProofs only [rX,↓rY,rdK,aA,cells?,splice,↓reduceIte,Nat.reduceEqDiff,fM,reduceCtorEq,leE,leH,leB,aD,aB,wfE,wfB,wfV,yad,bJ,bG,jR,mO,nE]
  refine ⟨by simp only [lo,Fx.hi];omega,?_⟩
  cases hd3:decide (a+(t:Int)<m+i-1) with
  | false =>
   have hti:t=i:=by have:=of_decide_eq_false hd3;omega
   subst hti
   simp -implicitDefEqProofs only [↓rY,kc]
   rw [hres]
   exact hZ _ _
  | true =>
   have hti:t<R.length:=by have:=of_decide_eq_true hd3;omega
   have hti2:t<i:=by have:=of_decide_eq_true hd3;omega
   simp -implicitDefEqProofs only [↓rY,kb,hml]
   have h1:∀ hh,(mid P R x Q t)[(a+(t:Int)).toNat]'hh=x:=Fp (by omega) (by omega)
   have h2:∀ hh,(mid P R x Q t)[(a+(t:Int)+1).toNat]'hh=R[t]:=Ty (yae _) hti (by omega)
   refine ⟨by simp only [lo,Fx.hi];omega,by simp only [lo,Fx.hi];omega,by omega,by omega,by omega,by omega,by omega,by omega,by omega,by simp [hml];omega,by simp only [lo,Fx.hi];omega,t+1,⟨by omega,by omega⟩,by omega,?_⟩
   rw [h1,h2]
   exact Hk (Wq hti (by omega) (by omega))
 | true =>
 have hij2:i<j:=by have:=of_decide_eq_true hd2;omega
 have hc:(m+(i:Int)+(m+j))/2=m+((i+j)/2:Nat):=by omega
 generalize hcc:(i+j)/2=c at hc
 have hcR:c<R.length:=by omega
 simp -implicitDefEqProofs only [↓rY,kb]
 rw [pG (by omega) (by omega),hc]
 have hw:IntKind.i64.wrap (m+(c:Int))=m+c:=by rw [←hc];exact nN (by omega) (by omega)
 simp -implicitDefEqProofs only [rX,hw,hml]
 refine ⟨by simp only [lo,Fx.hi];omega,by omega,by omega,by omega,by omega,?_⟩
 have h1:∀ hh,(mid P R x Q 0)[(m+(c:Int)).toNat]'hh=R[c]:=Ty (yag _) hcR (by omega)
 have h2:∀ hh,(mid P R x Q 0)[a.toNat]'hh=x :=
  Fp (yag _) (by omega)
 rw [h1,h2]
 have hyb:BdS R[c]:=hI.bd _ (by simp)
 have hsep:=hI.sep x (by simp) R[c] (yaj hcR)
 refine aC (Rm R[c] x hyb hxb) ⟨⟨⟨trivial,trivial,trivial⟩,⟨trivial,trivial,trivial⟩,trivial⟩,⟨rfl,rfl,trivial⟩,⟨rfl,rfl,trivial⟩,trivial⟩ rfl ⟨trivial,trivial⟩ ?_
 have hcm:decide (Be R[c] x<0)=decide (lt R[c] x):=by
  unfold Be lt
  exact decide_eq_decide.2 (by omega)
 have hcy:R[c]?=some R[c]:=yah hcR
 simp -implicitDefEqProofs only [rX,↓rY,aA,↓reduceIte,Nat.reduceEqDiff,reduceCtorEq,leE,leH,leB,aD,aB,wfE,wfB,wfV,wfL,hcm]
 cases hd3:decide (lt R[c] x) with
 | true =>
  have hl3:lt R[c] x:=of_decide_eq_true hd3
  simp only [kb]
  refine ⟨by simp only [lo,Fx.hi];omega,(c+1,j),⟨⟨by simp only;omega,hj,.inr ⟨R[c],hcy,hl3⟩,hj1⟩,by simp only;omega⟩,by simp only;omega,rfl⟩
 | false =>
  have hl3:lt x R[c]:=(vF (.inl hsep)).resolve_right (of_decide_eq_false hd3)
  simp only [kc]
  refine ⟨(i,c),⟨⟨by simp only;omega,by simp only;omega,hi1,.inr ⟨R[c],hcy,hl3⟩⟩,by simp only;omega⟩,rfl,rfl⟩
theorem Vp (hn:n=(P++(L++(R++Q))).length) (h:n≤100000) (ha:a=P.length) (hm:m=P.length+L.length) (hb:b=P.length+L.length+R.length) (hI:tK L R) (hL:1≤L.length) (hR:1≤R.length)
  (hE:Td n a m b e) (hN:∀ e b',Td n a m b e→2≤R.length→N ⟨e,[rw2 (P++(L++(R++Q)))],b'⟩) (hZ:∀ e b',Z ⟨e,[rw2 (P++(bU (L++R)++Q))],b'⟩) :
  aw cM (pt 1 c156) N X Z ⟨e,[rw2 (P++(L++(R++Q)))],bb⟩:=by
 obtain ⟨e0,e1,e2,e3,e4⟩:=hE
 have hlen:n=P.length+L.length+R.length+Q.length:=by rw [hn];simp;omega
 conv=>arg 2;whnf
 simp -implicitDefEqProofs only [rX,↓rY,aA,↓reduceIte,Nat.reduceEqDiff,cxN,e1,e2,e3]
 refine ⟨by simp only [lo,Fx.hi];omega,?_⟩
 cases hd:(b-m==1) with
 | false =>
  have:b-m≠1:=by simpa using hd
  simp -implicitDefEqProofs only [↓rY,kc]
  exact hN _ _ ⟨e0,e1,e2,e3,e4⟩ (by omega)
 | true =>
 have h1:R.length=1:=by
  have:b-m=1:=by simpa using hd
  omega
 obtain ⟨x,rfl⟩:∃ x,R=[x]:=by
  match R,h1 with
  | [x],_=>exact ⟨x,rfl⟩
 have e9:P++(L++([x]++Q))=mid P L x Q L.length:=by simp [mid]
 rw [e9]
 have hml:=fun g=>Ig (P:=P) (S:=L) (T:=Q) (x:=x) (g:=g)
 have hxb:BdS x:=hI.bd x (by simp)
 simp -implicitDefEqProofs only [↓rY,kb]
 refine aY (fun g:Nat × Nat=>⟨[(14,.i (a+g.1)),(15,.i (a+g.2)),(0,.sl 0 0 n),(2,.i m),(4,.clo 68 [])],[rw2 (mid P L x Q L.length)],bb⟩) (fun g=>g.1≤g.2∧g.2≤L.length∧(g.1=0∨∃ y,L[g.1-1]?=some y∧lt y x)∧(g.2=L.length∨∃ y,L[g.2]?=some y∧lt x y)) (fun g=>g.2-g.1) (0,L.length) ⟨yag _,yae _,.inl rfl,.inl rfl⟩ ?_ ?_
 ·simp -implicitDefEqProofs only [rX,↓reduceIte,Nat.reduceEqDiff,reduceCtorEq,leE,leH,leB,aD,aB,wfE,wfB,wfV,wfL,e0,e2,e4]
  exact ⟨by omega,by omega⟩
 rintro ⟨i,j⟩ ⟨hij,hj,hi1,hj1⟩
 simp only [yaS] at hij hj hi1 hj1 hm hb hlen
 unfold c156l2
 simp -implicitDefEqProofs only [rX,↓rY,aA,↓reduceIte,Nat.reduceEqDiff,fM,reduceCtorEq,yad,bJ,bG]
 cases hd2:decide (a+(i:Int)<a+j) with
 | false =>
  have hij2:i=j:=by have:=of_decide_eq_false hd2;omega
  subst hij2
  simp -implicitDefEqProofs only [↓rY,kc]
  have hlow:∀ z∈L.take i,lt z x:=by
   rcases hi1 with h0|⟨y,hy,hl⟩
   ·subst h0;simp
   ·rcases yat i with h0|h0
    ·subst h0;simp
    ·rw [show i=i-1+1 by omega];exact tN hI.hL hy hl
  have hhigh:∀ z∈L.drop i,lt x z:=by
   rcases hj1 with h0|⟨y,hy,hl⟩
   ·rw [yam (by omega)];simp
   ·exact tZ hI.hL hy hl
  have hres:rw2 (mid P L x Q i)=rw2 (P++(bU (L++[x])++Q)):=by
   rw [vP hI.hL (.refl _) hI.dst hhigh hlow]
   simp [mid]
  refine aY (fun t:Nat=>⟨[(17,.i (P.length+t)),(14,.i (a+i)),(0,.sl 0 0 n)],[rw2 (mid P L x Q t)],bb⟩) (fun t=>i≤t∧t≤L.length) (fun t=>t-i) L.length ⟨hj,yae _⟩ ?_ ?_
  ·simp -implicitDefEqProofs only [rX,↓reduceIte,Nat.reduceEqDiff,reduceCtorEq,leE,leH,leB,aD,aB,wfE,wfB,wfV]
   omega
  rintro t ⟨hit,ht⟩
  unfold c156l3
  simp -implicitDefEqProofs only [rX,↓rY,rdK,aA,cells?,splice,↓reduceIte,Nat.reduceEqDiff,fM,reduceCtorEq,leE,leH,leB,aD,aB,wfE,wfB,wfV,yad,bJ,bG,jR,mO,nE]
  cases hd3:decide (a+(i:Int)<P.length+t) with
  | false =>
   have hti:t=i:=by have:=of_decide_eq_false hd3;omega
   subst hti
   simp -implicitDefEqProofs only [↓rY,kc]
   rw [hres]
   exact hZ _ _
  | true =>
   have hti2:i<t:=by have:=of_decide_eq_true hd3;omega
   have hti:t-1<L.length:=by omega
   have h1:∀ hh,(mid P L x Q t)[((P.length:Int)+t).toNat]'hh=x:=No ht
   have h2:∀ hh,(mid P L x Q t)[((P.length:Int)+t-1).toNat]'hh=L[t-1]:=Tz (by omega) hti
   simp -implicitDefEqProofs only [↓rY,kb,hml,h1,h2]
   refine ⟨by simp only [lo,Fx.hi];omega,by simp only [lo,Fx.hi];omega,by omega,by omega,by omega,by omega,by omega,by omega,by omega,by simp [hml];omega,by simp only [lo,Fx.hi];omega,t-1,⟨⟨by omega,by omega⟩,by omega⟩,by omega,?_⟩
   exact Hk (Np (by omega) hti)
 | true =>
 have hij2:i<j:=by have:=of_decide_eq_true hd2;omega
 have hc:(a+(i:Int)+(a+j))/2=a+((i+j)/2:Nat):=by omega
 generalize hcc:(i+j)/2=c at hc
 have hcR:c<L.length:=by omega
 simp -implicitDefEqProofs only [↓rY,kb]
 rw [pG (by omega) (by omega),hc]
 have hw:IntKind.i64.wrap (a+(c:Int))=a+c:=by rw [←hc];exact nN (by omega) (by omega)
 simp -implicitDefEqProofs only [rX,hw,hml]
 refine ⟨by simp only [lo,Fx.hi];omega,by omega,by omega,by omega,by omega,?_⟩
 have h1:∀ hh,(mid P L x Q L.length)[(a+(c:Int)).toNat]'hh=L[c]:=abK (yae _) hcR (by omega)
 have h2:∀ hh,(mid P L x Q L.length)[m.toNat]'hh=x:=Fp (yae _) (by omega)
 rw [h1,h2]
 have hyb:BdS L[c]:=hI.bd _ (by simp)
 have hsep:=hI.sep L[c] (yaj hcR) x (by simp)
 refine aC (Rm x L[c] hxb hyb) ⟨⟨⟨trivial,trivial,trivial⟩,⟨trivial,trivial,trivial⟩,trivial⟩,⟨rfl,rfl,trivial⟩,⟨rfl,rfl,trivial⟩,trivial⟩ rfl ⟨trivial,trivial⟩ ?_
 have hcm:decide (Be x L[c]<0)=decide (lt x L[c]):=by
  unfold Be lt
  exact decide_eq_decide.2 (by omega)
 have hcy:L[c]?=some L[c]:=yah hcR
 simp -implicitDefEqProofs only [rX,↓rY,aA,↓reduceIte,Nat.reduceEqDiff,reduceCtorEq,leE,leH,leB,aD,aB,wfE,wfB,wfV,wfL,hcm]
 cases hd3:decide (lt x L[c]) with
 | false =>
  have hl3:lt L[c] x:=(vF (.inl hsep)).resolve_right (of_decide_eq_false hd3)
  simp only [yaQ,kb]
  refine ⟨by simp only [lo,Fx.hi];omega,(c+1,j),⟨⟨by simp only;omega,hj,.inr ⟨L[c],hcy,hl3⟩,hj1⟩,by simp only;omega⟩,by simp only;omega,rfl⟩
 | true =>
  have hl3:lt x L[c]:=of_decide_eq_true hd3
  simp only [yaR,kc]
  refine ⟨(i,c),⟨⟨by simp only;omega,by simp only;omega,hi1,.inr ⟨L[c],hcy,hl3⟩⟩,by simp only;omega⟩,rfl,rfl⟩
end
end Go.Fx.H
namespace Go.Fx.H
open Go Go.Fx Go.Proofs Go.Fx.R
set_option maxRecDepth 20000
section
variable {L R:List Sp} {s e:Nat}
theorem adX (hI:tK L R) (hs:s≤L.length) (he:e≤R.length) (b1:s=0∨e=R.length∨∃ x y,L[s-1]?=some x∧R[e]?=some y∧lt x y) (b2:e=0∨s=L.length∨∃ x y,R[e-1]?=some x∧L[s]?=some y∧lt x y) :
  bU (L++R)=bU (L.take s++R.take e)++bU (L.drop s++R.drop e):=by
 have hp:((L.take s++R.take e)++(L.drop s++R.drop e)).Perm (L++R):=by
  refine List.perm_iff_count.2 fun a=>?_
  have h1:=congrArg (List.count a) (yan s L)
  have h2:=congrArg (List.count a) (yan e R)
  simp only [List.count_append] at *
  omega
 have hd:Dst ((L.take s++R.take e)++(L.drop s++R.drop e)):=nF hI.dst hp.symm
 obtain ⟨hd1,hd2,-⟩:=yax.1 hd
 have c1:∀ u∈L.take s,∀ v∈R.drop e,lt u v:=by
  intro u hu v hv
  rcases b1 with h|h|⟨x,y,hx,hy,hl⟩
  ·subst h;simp at hu
  ·rw [yam (by omega)] at hv;simp at hv
  ·have h0:1≤s:=by
    rcases yat s with h|h
    ·subst h;simp at hu
    ·exact h
   exact tZ hI.hR hy (tN hI.hL hx hl u (by rwa [show s-1+1=s by omega])) v hv
 have c2:∀ u∈R.take e,∀ v∈L.drop s,lt u v:=by
  intro u hu v hv
  rcases b2 with h|h|⟨x,y,hx,hy,hl⟩
  ·subst h;simp at hu
  ·rw [yam (by omega)] at hv;simp at hv
  ·have h0:1≤e:=by
    rcases yat e with h|h
    ·subst h;simp at hu
    ·exact h
   exact tZ hI.hL hy (tN hI.hR hx hl u (by rwa [show e-1+1=e by omega])) v hv
 have c3:∀ u∈L.take s,∀ v∈L.drop s,lt u v:=by
  have h0:=hI.hL
  rw [←yan s L] at h0
  exact (yax.1 h0).2.2
 have c4:∀ u∈R.take e,∀ v∈R.drop e,lt u v:=by
  have h0:=hI.hR
  rw [←yan e R] at h0
  exact (yax.1 h0).2.2
 refine tO (yax.2 ⟨gQ hd1,gQ hd2,fun u hu v hv=>?_⟩) ((bX.append bX).trans hp) hI.dst
 have hu':=bX.mem_iff.1 hu
 have hv':=bX.mem_iff.1 hv
 rcases yaD.1 hu' with hu'|hu'<;>rcases yaD.1 hv' with hv'|hv'
 ·exact c3 u hu' v hv'
 ·exact c1 u hu' v hv'
 ·exact c2 u hu' v hv'
 ·exact c4 u hu' v hv'
theorem tK.sub {L' R':List Sp} (h:tK L R) (h1:L'.Sublist L) (h2:R'.Sublist R):tK L' R' :=
 ⟨h.hL.sublist h1,h.hR.sublist h2,fun x hx y hy=>h.sep x (h1.mem hx) y (h2.mem hy),fun x hx=>h.bd x ((h1.append h2).mem hx),h.dst.sublist (h1.append h2)⟩
theorem tP {l:List Sp} (h:SrL l) (hd:Dst l):bU l=l:=tO h (.refl _) hd
end
theorem afB {P L R Q:List Sp} {c:Nat} {k:Int} (hc:c<L.length) (hk:k=P.length+c) (hh:k.toNat<(P++(L++(R++Q))).length):(P++(L++(R++Q)))[k.toNat]'hh=L[c]:=by
 subst hk
 have e:((P.length:Int)+c).toNat=P.length+c:=by omega
 simp only [e]
 rw [yao (by omega),yay (by omega)]
 simp
theorem afA {P L R Q:List Sp} {c:Nat} {k:Int} (hc:c<R.length) (hk:k=P.length+L.length+c) (hh:k.toNat<(P++(L++(R++Q))).length):(P++(L++(R++Q)))[k.toNat]'hh=R[c]:=by
 subst hk
 have e:((P.length:Int)+L.length+c).toNat=P.length+(L.length+c):=by omega
 simp only [e]
 rw [yao (by omega),yao (by omega),yay (by omega)]
 simp
theorem c156_parts2:rt 2 c156=.seq (pt 2 c156) (.seq (pt 3 c156) (.seq (pt 4 c156) (.seq (pt 5 c156) (.seq (pt 6 c156) (.seq (pt 7 c156) (.seq (pt 8 c156) (.seq (pt 9 c156) (.seq (pt 10 c156) (rt 11 c156))))))))):=by rfl
section
variable {P L R Q:List Sp} {n w:Nat} {a m b:Int} {N Z:St→Prop} {X:Nat→St→Prop} {e:Env} {bb:Nat}
structure E2 (n:Nat) (a m b:Int) (w:Nat) (e:Env):Prop where
 e0:get e 0=.sl 0 0 n
 e1:get e 1=.i a
 e2:get e 2=.i m
 e3:get e 3=.i b
 e4:get e 4=.clo 68 []
 e18:get e 18=.i (a+w)
 e19:get e 19=.i (a+w+m)
def B1 (L R:List Sp) (w lo i:Nat):Prop:=i=lo∨∃ x y,L[i-1]?=some x∧R[w-i]?=some y∧lt x y
def B2 (L R:List Sp) (w hi j:Nat):Prop:=j=hi∨∃ x y,R[w-1-j]?=some x∧L[j]?=some y∧lt x y
theorem Vo (hn:n=(P++(L++(R++Q))).length) (h:n≤100000) (ha:a=P.length) (hm:m=P.length+L.length) (hb:b=P.length+L.length+R.length) (hI:tK L R) (hL:1≤L.length) (hR:1≤R.length) (hw:(L.length+R.length)/2=w)
  (hE:E2 n a m b w e) (e20:get e 20=.i (a+(w-R.length:Nat))) (e21:get e 21=.i (a+(min w L.length:Nat))) (e22:get e 22=.i (a+w+m-1))
  (hN:∀ e b' s,E2 n a m b w e→get e 20=.i (a+(s:Nat))→s≤w→w-R.length≤s→s≤L.length→B1 L R w (w-R.length) s→B2 L R w (min w L.length) s→N ⟨e,[rw2 (P++(L++(R++Q)))],b'⟩) :
  aw cM (pt 7 c156) N X Z ⟨e,[rw2 (P++(L++(R++Q)))],bb⟩:=by
 obtain ⟨e0,e1,e2,e3,e4,e18,e19⟩:=hE
 have hlen:n=P.length+L.length+R.length+Q.length:=by rw [hn];simp;omega
 conv=>arg 2;whnf
 simp -implicitDefEqProofs only [rX,cxN]
 refine aY (fun g:Nat × Nat=>⟨[(20,.i (a+g.1)),(21,.i (a+g.2)),(22,.i (a+w+m-1)),(0,.sl 0 0 n),(1,.i a),(2,.i m),(3,.i b),(4,.clo 68 []),(18,.i (a+w)),(19,.i (a+w+m))],[rw2 (P++(L++(R++Q)))],bb⟩) (fun g=>w-R.length≤g.1∧g.1≤g.2∧g.2≤min w L.length∧B1 L R w (w-R.length) g.1∧B2 L R w (min w L.length) g.2) (fun g=>g.2-g.1) (w-R.length,min w L.length) ⟨yae _,by simp only;omega,yae _,.inl rfl,.inl rfl⟩ ?_ ?_
 ·simp -implicitDefEqProofs only [rX,leE,leH,leB,aD,aB,wfE,wfB,wfV,wfL,e0,e1,e2,e3,e4,e18,e19,e20,e21,e22]
 rintro ⟨i,j⟩ ⟨hi0,hij,hj,hi1,hj1⟩
 simp only at hi0 hij hj hi1 hj1
 unfold c156l4
 simp -implicitDefEqProofs only [rX,↓rY,aA,↓reduceIte,Nat.reduceEqDiff,fM,reduceCtorEq,yad,bJ,bG]
 cases hd2:decide (a+(i:Int)<a+j) with
 | false =>
  have hij2:i=j:=by have:=of_decide_eq_false hd2;omega
  subst hij2
  simp -implicitDefEqProofs only [↓rY,kc]
  exact hN _ _ i ⟨rfl,rfl,rfl,rfl,rfl,rfl,rfl⟩ rfl (by omega) (by omega) (by omega) hi1 hj1
 | true =>
 have hij2:i<j:=by have:=of_decide_eq_true hd2;omega
 have hc:(a+(i:Int)+(a+j))/2=a+((i+j)/2:Nat):=by omega
 generalize hcc:(i+j)/2=c at hc
 have hcL:c<L.length:=by omega
 have hcR:w-1-c<R.length:=by omega
 simp -implicitDefEqProofs only [↓rY,kb]
 rw [pG (by omega) (by omega),hc]
 have hw2:IntKind.i64.wrap (a+(c:Int))=a+c:=by rw [←hc];exact nN (by omega) (by omega)
 simp -implicitDefEqProofs only [rX,hw2]
 refine ⟨by simp only [lo,Fx.hi];omega,by simp only [lo,Fx.hi];omega,by omega,by omega,by omega,by omega,?_⟩
 have h1:∀ hh,(P++(L++(R++Q)))[(a+(w:Int)+m-1-(a+c)).toNat]'hh=R[w-1-c]:=afA hcR (by omega)
 have h2:∀ hh,(P++(L++(R++Q)))[(a+(c:Int)).toNat]'hh=L[c]:=afB hcL (by omega)
 rw [h1,h2]
 have hyb:BdS R[w-1-c]:=hI.bd _ (by simp)
 have hxb:BdS L[c]:=hI.bd _ (by simp)
 have hsep:=hI.sep L[c] (yaj hcL) R[w-1-c] (yaj hcR)
 refine aC (Rm R[w-1-c] L[c] hyb hxb) ⟨⟨⟨trivial,trivial,trivial⟩,⟨trivial,trivial,trivial⟩,trivial⟩,⟨rfl,rfl,trivial⟩,⟨rfl,rfl,trivial⟩,trivial⟩ rfl ⟨trivial,trivial⟩ ?_
 have hcm:decide (Be R[w-1-c] L[c]<0)=decide (lt R[w-1-c] L[c]):=by
  unfold Be lt
  exact decide_eq_decide.2 (by omega)
 have hcy:L[c]?=some L[c]:=yah hcL
 have hcz:R[w-1-c]?=some R[w-1-c]:=yah hcR
 simp -implicitDefEqProofs only [rX,↓rY,aA,↓reduceIte,Nat.reduceEqDiff,reduceCtorEq,leE,leH,leB,aD,aB,wfE,wfB,wfV,wfL,hcm]
 cases hd3:decide (lt R[w-1-c] L[c]) with
 | false =>
  have hl3:lt L[c] R[w-1-c]:=(vF (.inl hsep)).resolve_right (of_decide_eq_false hd3)
  simp only [yaQ,kb]
  refine ⟨by simp only [lo,Fx.hi];omega,(c+1,j),⟨⟨by simp only;omega,by simp only;omega,hj,.inr ⟨L[c],R[w-1-c],hcy,?_,hl3⟩,hj1⟩,by simp only;omega⟩,by simp only;omega,rfl⟩
  rw [←hcz];congr 1;omega
 | true =>
  have hl3:lt R[w-1-c] L[c]:=of_decide_eq_true hd3
  simp only [yaR,kc]
  refine ⟨(i,c),⟨⟨by simp only;omega,by simp only;omega,by simp only;omega,hi1,.inr ⟨R[w-1-c],L[c],hcz,hcy,hl3⟩⟩,by simp only;omega⟩,rfl,rfl⟩
theorem Me (hn:n=(P++(L++(R++Q))).length) (h:n≤100000) (ha:a=P.length) (hm:m=P.length+L.length) (hb:b=P.length+L.length+R.length) (hI:tK L R) (hL:2≤L.length) (hR:2≤R.length) (hw:(L.length+R.length)/2=w)
  (ih:∀ z',z'<L.length+R.length→∀ P L R Q,L.length+R.length=z'→Uk P L R Q)
  (hE:E2 n a m b w e) (e20:get e 20=.i (a+(w-R.length:Nat))) (e21:get e 21=.i (a+(min w L.length:Nat)))
  (hN:∀ e b',N ⟨e,[rw2 (P++(bU (L++R)++Q))],b'⟩) :
  aw cM (pt 6 c156) (fun s'=>aw cM (.seq (pt 7 c156) (.seq (pt 8 c156) (.seq (pt 9 c156) (.seq (pt 10 c156) (rt 11 c156))))) N X Z s') X Z ⟨e,[rw2 (P++(L++(R++Q)))],bb⟩:=by
 have hE':=hE
 obtain ⟨e0,e1,e2,e3,e4,e18,e19⟩:=hE
 have hlen:n=P.length+L.length+R.length+Q.length:=by rw [hn];simp;omega
 conv=>arg 2;whnf
 simp -implicitDefEqProofs only [rX,↓rY,aA,↓reduceIte,cxN,e19]
 refine ⟨by simp only [lo,Fx.hi];omega,?_⟩
 refine Vo hn h ha hm hb hI (by omega) (by omega) hw ⟨e0,e1,e2,e3,e4,e18,e19⟩ e20 e21 rfl ?_
 rintro e b' s ⟨e0,e1,e2,e3,e4,e18,e19⟩ e20 hs1 hs2 hs3 hB1 hB2
 have e24:a+(w:Int)+m-(a+s)=m+(w-s:Nat):=by omega
 obtain ⟨t,ht⟩:∃ t,w-s=t:=⟨_,rfl⟩
 rw [ht] at e24
 have htR:t≤R.length:=by omega
 have hspl:=adX (s:=s) (e:=t) hI hs3 htR (by
  rcases hB1 with h1|⟨x,y,h1,h2,h3⟩
  ·rcases yat s with h4|h4
   ·exact .inl h4
   ·exact .inr (.inl (by omega))
  ·exact .inr (.inr ⟨x,y,h1,by rw [←ht];exact h2,h3⟩)) (by
  rcases hB2 with h1|⟨x,y,h1,h2,h3⟩
  ·rcases yat t with h4|h4
   ·exact .inl h4
   ·exact .inr (.inl (by omega))
  ·refine .inr (.inr ⟨x,y,?_,h2,h3⟩)
   rw [←h1];congr 1;omega)
 have hL12:=yan s L
 have hR12:=yan t R
 have iA:tK (L.take s) (R.take t):=hI.sub (yaI s L) (yaI t R)
 have iB:tK (L.drop s) (R.drop t):=hI.sub (yaT s L) (yaT t R)
 have lL1:(L.take s).length=s:=by rw [yai];omega
 have lL2:(L.drop s).length=L.length-s:=yav
 have lR1:(R.take t).length=t:=by rw [yai];omega
 have lR2:(R.drop t).length=R.length-t:=yav
 have hin:rw2 (P++(L++(R++Q)))=rw2 ((P++L.take s)++(L.drop s++(R.take t++(R.drop t++Q)))):=by
  conv=>lhs;rw [←hL12,←hR12]
  simp only [yal]
 rw [hin]
 rw [hspl] at hN
 generalize L.take s=L1 at *
 generalize L.drop s=L2 at *
 generalize R.take t=R1 at *
 generalize R.drop t=R2 at *
 simp -implicitDefEqProofs only [qJ]
 conv=>arg 2;whnf
 simp -implicitDefEqProofs only [rX,↓rY,↓reduceIte,Nat.reduceEqDiff,e19,e20,e24]
 refine ⟨by simp only [lo,Fx.hi];omega,?_⟩
 have dA:bU (L1++R1)=L1++R1∨(1≤s∧1≤t):=by
  rcases yat s with h0|h0
  ·left
   have:L1=[]:=yaF (by omega)
   subst this
   exact tP iA.hR iA.dst
  ·rcases yat t with h1|h1
   ·left
    have:R1=[]:=yaF (by omega)
    subst this
    rw [yas]
    exact tP iA.hL (by simpa using iA.dst)
   ·exact .inr ⟨h0,h1⟩
 have dB:bU (L2++R2)=L2++R2∨(s<L.length∧t<R.length):=by
  rcases yaB s L.length with h0|h0
  ·rcases yaB t R.length with h1|h1
   ·exact .inr ⟨h0,h1⟩
   ·left
    have:R2=[]:=yaF (by omega)
    subst this
    rw [yas]
    exact tP iB.hL (by simpa using iB.dst)
  ·left
   have:L2=[]:=yaF (by omega)
   subst this
   exact tP iB.hR iB.dst
 have hAl:(bU (L1++R1)).length=s+t:=by rw [bX.length_eq,yac];omega
 have hr2:∀ e b',E2 n a m b w e→get e 24=.i (m+(t:Nat))→aw cM (rt 11 c156) N X Z ⟨e,[rw2 ((P++bU (L1++R1))++(L2++(R2++Q)))],b'⟩:=by
  rintro e b' ⟨e0,e1,e2,e3,e4,e18,e19⟩ e24
  have hNB:∀ e b',bU (L2++R2)=L2++R2→N ⟨e,[rw2 ((P++bU (L1++R1))++(L2++(R2++Q)))],b'⟩:=by
   intro e b' h0
   have:=hN e b'
   rw [h0] at this
   simpa only [yal] using this
  conv=>arg 2;whnf
  simp -implicitDefEqProofs only [rX,↓rY,aA,↓reduceIte,Nat.reduceEqDiff,reduceCtorEq,cxN,e0,e3,e4,e18,e24]
  cases hd1:decide (a+(w:Int)<m+t) with
  | false =>
   have h0:=of_decide_eq_false hd1
   simp -implicitDefEqProofs only [↓rY,kc]
   exact hNB _ _ (dB.resolve_right (by omega))
  | true =>
   have h0:=of_decide_eq_true hd1
   simp -implicitDefEqProofs only [↓rY,kb]
   cases hd2:decide (m+(t:Int)<b) with
   | false =>
    have h1:=of_decide_eq_false hd2
    simp -implicitDefEqProofs only [↓rY,kc]
    exact hNB _ _ (dB.resolve_right (by omega))
   | true =>
    have h1:=of_decide_eq_true hd2
    simp -implicitDefEqProofs only [↓rY,kb]
    have o:=ih (L2.length+R2.length) (by omega) (P++bU (L1++R1)) L2 R2 Q rfl n (a+w) (m+t) b (by simp only [yac,hAl];omega) h (by rw [yac,hAl];omega) (by rw [yac,hAl];omega) (by rw [yac,hAl];omega) iB (by omega) (by omega)
    refine fU _ o (by simp) ⟨⟨trivial,trivial,trivial,trivial,trivial,trivial⟩,rfl,rfl,rfl,rfl,⟨rfl,trivial⟩,trivial⟩ ⟨trivial,trivial⟩ ?_
    simp -implicitDefEqProofs only [rX]
    have:=hN
    simp only [yal] at this ⊢
    exact this _ _
 have hrest:∀ e b',E2 n a m b w e→get e 20=.i (a+(s:Nat))→get e 24=.i (m+(t:Nat))→aw cM (pt 10 c156) (fun s'=>aw cM (rt 11 c156) N X Z s') X Z ⟨e,[rw2 ((P++L1)++(R1++(L2++(R2++Q))))],b'⟩:=by
  rintro e b' ⟨e0,e1,e2,e3,e4,e18,e19⟩ e20 e24
  have hNA:∀ e b',bU (L1++R1)=L1++R1→E2 n a m b w e→get e 24=.i (m+(t:Nat))→aw cM (rt 11 c156) N X Z ⟨e,[rw2 ((P++L1)++(R1++(L2++(R2++Q))))],b'⟩:=by
   intro e b' h0 hE h24
   have:=hr2 e b' hE h24
   rw [h0] at this
   simpa only [yal] using this
  conv=>arg 2;whnf
  simp -implicitDefEqProofs only [rX,↓rY,aA,↓reduceIte,Nat.reduceEqDiff,reduceCtorEq,cxN,e0,e1,e4,e18,e20]
  cases hd1:decide (a<a+(s:Int)) with
  | false =>
   have h0:=of_decide_eq_false hd1
   simp -implicitDefEqProofs only [↓rY,kc]
   exact hNA _ _ (dA.resolve_right (by omega)) ⟨e0,e1,e2,e3,e4,e18,e19⟩ e24
  | true =>
   have h0:=of_decide_eq_true hd1
   simp -implicitDefEqProofs only [↓rY,kb]
   cases hd2:decide (a+(s:Int)<a+w) with
   | false =>
    have h1:=of_decide_eq_false hd2
    simp -implicitDefEqProofs only [↓rY,kc]
    exact hNA _ _ (dA.resolve_right (by omega)) ⟨e0,e1,e2,e3,e4,e18,e19⟩ e24
   | true =>
    have h1:=of_decide_eq_true hd2
    simp -implicitDefEqProofs only [↓rY,kb]
    have o:=ih (L1.length+R1.length) (by omega) P L1 R1 (L2++(R2++Q)) rfl n a (a+s) (a+w) (by simp only [yac];omega) h ha (by omega) (by omega) iA (by omega) (by omega)
    rw [yal]
    refine fU _ o (by simp) ⟨⟨trivial,trivial,trivial,trivial,trivial,trivial⟩,rfl,rfl,rfl,rfl,⟨rfl,trivial⟩,trivial⟩ ⟨trivial,trivial⟩ ?_
    simp -implicitDefEqProofs only [rX]
    rw [←yal]
    exact hr2 _ _ ⟨e0,e1,e2,e3,e4,e18,e19⟩ e24
 conv=>arg 2;whnf
 simp -implicitDefEqProofs only [rX,↓rY,aA,↓reduceIte,Nat.reduceEqDiff,reduceCtorEq,e0,e2,e4,e20]
 cases hd1:decide (a+(s:Int)<m) with
 | false =>
  have h0:=of_decide_eq_false hd1
  have:L2=[]:=yaF (by omega)
  subst this
  simp -implicitDefEqProofs only [rX,↓rY,kc]
  exact hrest _ _ ⟨e0,e1,e2,e3,e4,e18,e19⟩ e20 rfl
 | true =>
  have h0:=of_decide_eq_true hd1
  simp -implicitDefEqProofs only [↓rY,kb]
  cases hd2:decide (m<m+(t:Int)) with
  | false =>
   have h1:=of_decide_eq_false hd2
   have:R1=[]:=yaF (by omega)
   subst this
   simp -implicitDefEqProofs only [rX,↓rY,kc]
   exact hrest _ _ ⟨e0,e1,e2,e3,e4,e18,e19⟩ e20 rfl
  | true =>
   have h1:=of_decide_eq_true hd2
   simp -implicitDefEqProofs only [↓rY,kb]
   have o:=Zx (P++L1) L2 R1 (R2++Q) (a+s) m (m+t) n (by simp only [yac];omega) h (by rw [yac];omega) (by rw [yac];omega) (by rw [yac];omega) (by omega) (by omega)
   refine fU _ o (by simp) ⟨⟨trivial,trivial,trivial,trivial,trivial,trivial⟩,rfl,rfl,rfl,rfl,⟨rfl,trivial⟩,trivial⟩ ⟨trivial,trivial⟩ ?_
   simp -implicitDefEqProofs only [rX]
   exact hrest _ _ ⟨e0,e1,e2,e3,e4,e18,e19⟩ e20 rfl
end
theorem aaG:∀ (z:Nat) (P L R Q:List Sp),L.length+R.length=z→Uk P L R Q:=by
 intro z
 induction z using yba with
 | ind z ih =>
 intro P L R Q hz n a m b hn h ha hm hb hI hL hR
 have hlen:n=P.length+L.length+R.length+Q.length:=by rw [hn];simp;omega
 refine f7 pol [0] lw156 (by simp) ⟨trivial,trivial⟩ (fun k hk hm=>by simp at hk ⊢;omega) ?_
 rw [c156_parts]
 have hret:∀ e b',eT [0] 1 [] (IsA (.tup []) [rw2 (P++(bU (L++R)++Q))]) ⟨e,[rw2 (P++(bU (L++R)++Q))],b'⟩:=by
  intro e b'
  rw [bN]
  simp -implicitDefEqProofs only [rX,aP,aQ,leH,leB,aD,aB,wfB,wfV,wfL]
 simp -implicitDefEqProofs only [qJ,aF]
 refine Vq hn h ha hm hb hI hL hR ⟨rfl,rfl,rfl,rfl,rfl⟩ (fun e b' hE h2L=>?_) hret
 refine Vp hn h ha hm hb hI hL hR hE (fun e b' hE h2R=>?_) hret
 obtain ⟨e0,e1,e2,e3,e4⟩:=hE
 have hw:(a+b)/2=a+((L.length+R.length)/2:Nat):=by omega
 generalize hww:(L.length+R.length)/2=w at hw
 have hwr:IntKind.i64.wrap (a+(w:Int))=a+w:=by rw [←hw];exact nN (by omega) (by omega)
 rw [c156_parts2]
 simp -implicitDefEqProofs only [qJ]
 conv=>arg 2;whnf
 simp -implicitDefEqProofs only [rX,↓rY,aA,↓reduceIte,Nat.reduceEqDiff,cxN,e1,e3]
 rw [pG (by omega) (by omega),hw]
 simp -implicitDefEqProofs only [rX,hwr]
 refine ⟨by simp only [lo,Fx.hi];omega,?_⟩
 conv=>arg 2;whnf
 simp -implicitDefEqProofs only [rX,↓rY,↓reduceIte,Nat.reduceEqDiff,e2]
 refine ⟨by simp only [lo,Fx.hi];omega,?_⟩
 conv=>arg 2;whnf
 simp -implicitDefEqProofs only [rX,aA]
 conv=>arg 2;whnf
 simp -implicitDefEqProofs only [rX,↓rY,↓reduceIte,Nat.reduceEqDiff,e1,e2,e3]
 cases hd:decide (a+(w:Int)<m) with
 | true =>
  have:=of_decide_eq_true hd
  simp only [kb]
  refine ⟨by simp only [lo,Fx.hi];omega,Me hn h ha hm hb hI h2L h2R hww (fun z' hz'=>ih z' (by omega)) ⟨e0,e1,e2,e3,e4,rfl,rfl⟩ ?_ ?_ hret⟩
  ·simp -implicitDefEqProofs only [rX,↓reduceIte,Nat.reduceEqDiff];omega
  ·simp -implicitDefEqProofs only [rX,↓reduceIte];omega
 | false =>
  have:=of_decide_eq_false hd
  simp only [kc]
  refine Me hn h ha hm hb hI h2L h2R hww (fun z' hz'=>ih z' (by omega)) ⟨e0,e1,e2,e3,e4,rfl,rfl⟩ ?_ ?_ hret
  ·simp -implicitDefEqProofs only [rX,↓reduceIte,Nat.reduceEqDiff];omega
  ·simp -implicitDefEqProofs only [rX,↓reduceIte];omega
end Go.Fx.H
namespace Go.Fx.H
open Go Go.Fx Go.Proofs Go.Fx.R
set_option maxRecDepth 20000
theorem aaZ (G:List Sp) (hG:G.length≤39) (hasc:Asc G) (hbd:Bd G) :
  OkN Tryz.prog 119 [.sl 0 0 G.length,.i G.length,.clo 68 []] [rw2 G] [] (IsA (.tup []) [rw2 (bU G)]):=by
 refine f7 pol [0] lw119 (by simp) ⟨trivial,trivial⟩ (fun k hk hm=>by simp at hk ⊢;omega) ?_
 have hsub:∀ {M},M.Sublist G→Asc M∧Bd M:=fun h=>⟨hasc.sublist h,fun x hx=>hbd x (h.mem hx)⟩
 unfold c119
 simp -implicitDefEqProofs only [rX,aA,↓reduceIte,Nat.reduceEqDiff,Nat.reduceAdd,cxN,aF]
 have hA:∀ k,G.take k++G.drop k=G:=fun k=>yan k G
 refine aY (fun g:Nat=>⟨[(6,.i 20),(7,.i (20*g:Nat)),(8,.i (20*g+20:Nat)),(0,.sl 0 0 G.length),(1,.i G.length),(2,.clo 68 [])],[rw2 (bU (G.take (20*g))++G.drop (20*g))],1⟩) (fun g=>g≤1∧20*g≤G.length) (fun g=>1-g) 0 ⟨by omega,by omega⟩ ?_ ?_
 ·have e0:bU (G.take (20*0))++G.drop (20*0)=G:=by simp [bU]
  rw [e0]
  simp -implicitDefEqProofs only [rX,↓reduceIte,Nat.reduceEqDiff,reduceCtorEq,leE,leH,leB,aD,aB,wfE,wfB,wfV,wfL]
  exact ⟨rfl,rfl⟩
 rintro g ⟨hg,hgl⟩
 unfold c119l0
 simp -implicitDefEqProofs only [rX,↓rY,↓reduceIte,Nat.reduceEqDiff,reduceCtorEq]
 cases hd:decide (((20*g+20:Nat):Int)≤G.length) with
 | true =>
  have hd':=of_decide_eq_true hd
  have hg0:g=0:=by omega
  subst hg0
  have o:=Tw [] (G.take 20) (G.drop 20) 0 20 G.length (by simp) (by omega) rfl (by simp;omega) (hsub (yaI _ _)).1 (hsub (yaI _ _)).2
  have e0:bU (G.take (20*0))++G.drop (20*0)=[]++G.take 20++G.drop 20:=by simp [bU]
  rw [e0,kb]
  refine fU _ o (by simp) ⟨⟨trivial,trivial,trivial,trivial,trivial⟩,rfl,rfl,rfl,⟨rfl,trivial⟩,trivial⟩ ⟨trivial,trivial⟩ ?_
  simp -implicitDefEqProofs only [rX,↓rY,↓reduceIte,Nat.reduceEqDiff,reduceCtorEq,leE,leH,leB,aD,aB,wfE,wfB,wfV,wfL]
  exact ⟨by simp only [lo,Fx.hi];omega,1,⟨⟨by omega,by omega⟩,by omega⟩,⟨rfl,rfl⟩,by simp⟩
 | false =>
 have hd':=of_decide_eq_false hd
 have hP:(bU (G.take (20*g))).length=20*g:=by rw [bX.length_eq,yai];omega
 have o:=Tw (bU (G.take (20*g))) (G.drop (20*g)) [] (20*g:Nat) G.length G.length (by simp only [yas,yac,hP,yav];omega) (by omega) (by rw [hP]) (by rw [hP,yav];omega) (hsub (yaT _ _)).1 (hsub (yaT _ _)).2
 simp only [yas] at o
 rw [kc]
 refine fU _ o (by simp) ⟨⟨trivial,trivial,trivial,trivial,trivial⟩,rfl,rfl,rfl,⟨rfl,trivial⟩,trivial⟩ ⟨trivial,trivial⟩ ?_
 simp -implicitDefEqProofs only [rX]
 have hAB:(bU (G.take (20*g))++bU (G.drop (20*g))).Perm G:=by
  conv=>rhs;rw [←hA (20*g)]
  exact bX.append bX
 have hdG:Dst G:=Jh hasc
 have hfin:g=0∨G.length=20→bU (G.take (20*g))++bU (G.drop (20*g))=bU G:=by
  rintro (h0|h0)
  ·subst h0;simp [bU]
  ·rcases yat g with h1|h1
   ·subst h1;simp [bU]
   ·have:g=1:=by omega
    subst this
    rw [yaa (by omega),yam (by omega)];simp [bU]
 refine aY (fun t:Nat=>⟨[(6,.i (20*t+20:Nat)),(0,.sl 0 0 G.length),(1,.i G.length),(2,.clo 68 [])],[rw2 (if t=0 then bU (G.take (20*g))++bU (G.drop (20*g)) else bU G)],1⟩) (fun t=>t≤1) (fun t=>1-t) 0 (by omega) ?_ ?_
 ·simp -implicitDefEqProofs only [rX,↓reduceIte,Nat.reduceEqDiff,reduceCtorEq,leE,leH,leB,aD,aB,wfE,wfB,wfV,wfL]
  rfl
 rintro t ht
 unfold c119l1
 simp -implicitDefEqProofs only [rX,↓rY,aA,↓reduceIte,Nat.reduceEqDiff,reduceCtorEq]
 cases hd2:decide (((20*t+20:Nat):Int)<G.length) with
 | false =>
  have hd2':=of_decide_eq_false hd2
  simp only [kc,bN]
  simp -implicitDefEqProofs only [rX,aP,aQ,leH,leB,aD,aB,wfB,wfV,wfL]
  rcases yat t with h0|h0
  ·rw [if_pos h0,hfin (by omega)]
  ·rw [if_neg (by omega)]
 | true =>
 have hd2':=of_decide_eq_true hd2
 have ht0:t=0:=by omega
 have hg1:g=1:=by omega
 subst ht0 hg1
 simp -implicitDefEqProofs only [↓rY,↓reduceIte,yaX,kb]
 refine ⟨by decide,?_⟩
 have hP2:(bU (G.take 20)).length=20:=by rw [bX.length_eq,yai];omega
 have hQ2:(bU (G.drop 20)).length=G.length-20:=by rw [bX.length_eq,yav]
 have hI:tK (bU (G.take 20)) (bU (G.drop 20)):=by
  refine ⟨gQ (hdG.sublist (yaI _ _)),gQ (hdG.sublist (yaT _ _)),fun x hx y hy=>?_,fun x hx=>hbd x (hAB.mem_iff.1 hx),nF hdG hAB.symm⟩
  have h0:=hasc
  rw [←yan 20 G] at h0
  exact (yax.1 h0).2.2 x (bX.mem_iff.1 hx) y (bX.mem_iff.1 hy)
 have o:=aaG _ [] (bU (G.take 20)) (bU (G.drop 20)) [] rfl G.length 0 20 G.length (by simp only [yaE,yas,yac,hP2,hQ2];omega) (by omega) rfl (by rw [hP2];rfl) (by rw [hP2,hQ2,ybh];omega) hI (by omega) (by omega)
 rw [uI hAB hdG] at o
 simp only [yaE,yas] at o
 refine aY (fun t:Nat=>⟨[(6,.i 20),(7,.i 0),(8,.i 40),(0,.sl 0 0 G.length),(1,.i G.length),(2,.clo 68 [])],[rw2 (bU (G.take 20)++bU (G.drop 20))],1⟩) (fun t=>True) (fun t=>t) 0 trivial ?_ ?_
 ·simp -implicitDefEqProofs only [rX,↓reduceIte,Nat.reduceEqDiff,reduceCtorEq,leE,leH,leB,aD,aB,wfE,wfB,wfV,wfL]
  exact ⟨rfl,rfl⟩
 rintro t -
 unfold c119l2
 have h40:decide ((40:Int)≤G.length)=false:=decide_eq_false (by omega)
 have h20:decide ((20:Int)<G.length)=true:=decide_eq_true (by omega)
 simp -implicitDefEqProofs only [rX,↓rY,aA,↓reduceIte,Nat.reduceEqDiff,reduceCtorEq,leE,leH,leB,aD,aB,wfE,wfB,wfV,wfL,h40,kc]
 refine ⟨by decide,?_⟩
 rw [show decide ((0:Int)+20<G.length)=true from decide_eq_true (by omega),kb]
 refine fU _ o (by simp) ⟨⟨trivial,trivial,trivial,trivial,trivial,trivial⟩,rfl,rfl,rfl,rfl,⟨rfl,trivial⟩,trivial⟩ ⟨trivial,trivial⟩ ?_
 simp -implicitDefEqProofs only [rX,↓rY,aA,↓reduceIte,Nat.reduceEqDiff,reduceCtorEq,leE,leH,leB,aD,aB,wfE,wfB,wfV,wfL]
 exact ⟨by decide,1,⟨by omega,by omega⟩,rfl,rfl⟩
theorem aeI (G:List Sp) (hG:G.length≤39) (hasc:Asc G) (hbd:Bd G) :
  OkN Tryz.prog 67 [.sl 0 0 G.length,.clo 68 []] [rw2 G] [] (IsA (.tup []) [rw2 (bU G)]):=by
 refine f7 pol [0] lw67 (by simp) ⟨trivial,trivial⟩ (fun k hk hm=>by simp at hk ⊢;omega) ?_
 unfold c67
 simp -implicitDefEqProofs only [rX,↓rY,↓reduceIte,Nat.reduceEqDiff,reduceCtorEq,cxN,aF]
 intro _
 refine fU _ (aaZ G hG hasc hbd) (by simp) ⟨⟨trivial,trivial,trivial,trivial⟩,rfl,rfl,⟨rfl,trivial⟩,trivial⟩ ⟨trivial,trivial⟩ ?_
 simp -implicitDefEqProofs only [rX,aP,aQ,leH,leB,aD,aB,wfB,wfV,wfL,bN]
def Oh (fx:List Nat) (v:V) (r:List Nat) (s:St) (K:St→Prop):Prop :=
 match v with
 | .sl k _ _=>Ax fx k (blk s.h k) s fun s'=>mT fx r s' K
 | _=>mT fx r s K
theorem Xb {fx:List Nat} {s:St} {K:St→Prop}:mT fx [] s K=K s:=rfl
theorem Xc {fx:List Nat} {x:Nat} {r:List Nat} {e:Env} {h:List Blk} {b:Nat} {K:St→Prop}:mT fx (x::r) ⟨e,h,b⟩ K=Oh fx (get e x) r ⟨e,h,b⟩ K:=rfl
theorem Wz {fx:List Nat} {k i n:Nat} {r:List Nat} {e:Env} {h:List Blk} {b:Nat} {K:St→Prop}:Oh fx (.sl k i n) r ⟨e,h,b⟩ K=Ax fx k (blk h k) ⟨e,h,b⟩ fun s'=>mT fx r s' K:=rfl
theorem Xd {fx:List Nat} {k sz:Nat} {els:List (List V)} {e:Env} {h:List Blk} {b:Nat} {K:St→Prop}:Ax fx k (.arr sz els) ⟨e,h,b⟩ K=(k∉fx∧K ⟨Aw k sz els e,(h.map (pZ k sz els)).set k .dead,b⟩):=rfl
@[congr] theorem afY {fx:List Nat} {v v':V} {r:List Nat} {s:St} {K:St→Prop} (q:v=v'):Oh fx v r s K=Oh fx v' r s K:=by rw [q]
@[congr] theorem agA {fx:List Nat} {k:Nat} {B B':Blk} {s:St} {K:St→Prop} (q:B=B'):Ax fx k B s K=Ax fx k B' s K:=by rw [q]
@[congr] theorem afZ {fx xs:List Nat} {s s':St} {K:St→Prop} (q:s=s'):mT fx xs s K=mT fx xs s' K:=by rw [q]
theorem Mv {cx:Cx} {e:Env} {h:List Blk} {b:Nat} {K:V→St→Prop} {xs:List Nat} {j sz n:Nat} {z:List Value} {ps:List (Nat × Operand)}:aOp cx (.litsf xs j sz n z ps) ⟨e,h,b⟩ K =
  mT (cx.fx++cx.bn) xs ⟨e,h,b⟩ fun s=>bQ s.e sz (yaK n (z.map .v)) ps fun els=>aE s.h (s.b+j)∧K (.sl (s.b+j) 0 n) { s with h:=s.h.set (s.b+j) (.arr sz els) }:=rfl
theorem Xa {fx:List Nat} {k:Nat} {l:List (List V)} {r:List Nat} {s:St} {K:St→Prop}:Oh fx (.ro k l) r s K=mT fx r s K:=rfl
end Go.Fx.H
namespace Go.Fx.H
open Go Go.Fx Go.Proofs Go.Fx.R
set_option maxRecDepth 20000
def gap (l:List Sp) (i:Nat):Sp:=((l.getD i (0,0)).2,(l.getD (i+1) (0,0)).1)
def Av (l:List Sp) (k:Nat):List Sp:=(List.range k).map (gap l)
def oC (l:List Sp):List Sp:=Av l (l.length-1)
theorem Kf {l:List Sp} {k:Nat}:Av l (k+1)=Av l k++[gap l k]:=by
 unfold Av;rw [List.range_succ,yap];rfl
theorem pW {l:List Sp} {k:Nat}:(Av l k).length=k:=by simp [Av]
theorem Au {l:List Sp} {i:Nat} (h:i+1<l.length):gap l i=((l[i]'(by omega)).2,l[i+1].1):=by
 unfold gap
 rw [ybj,ybj,yah h,yah (show i<l.length by omega)]
 rfl
theorem Vl {l:List Sp} (h:Sep l) {i j:Nat} (hij:i<j) (hj:j<l.length):(l[i]'(by omega)).2<l[j].1:=by
 exact yaV.1 h.2 i j (by omega) hj hij
theorem Of {l:List Sp} (h:Vd l):Asc (oC l):=by
 refine yaV.2 fun i j hi hj hij=>?_
 have hl:(oC l).length=l.length-1:=pW
 have h1:∀ k (hk:k<(oC l).length),(oC l)[k]=gap l k:=fun k hk=>by simp [oC,Av]
 rw [h1 i hi,h1 j hj,Au (by omega),Au (by omega)]
 have h2:=Vl h.1 hij (show j<l.length by omega)
 have h3:=h.1.1 _ (yaj (show j<l.length by omega))
 simp only
 omega
theorem Iz {l:List Sp} (h:Vd l):Bd (oC l):=by
 intro s hs
 obtain ⟨i,hi,rfl⟩:=yaY.1 hs
 have hi2:=ybo.1 hi
 rw [Au (by omega)]
 have h1:=h.2 _ (yaj (show i<l.length by omega))
 have h2:=h.2 _ (yaj (show i+1<l.length by omega))
 simp only
 omega
def Ed (l:List Sp) (most:Int):Int:=if vd l=false∨most<1 then 1 else 0
def Ec (l:List Sp) (most:Int):Nat:=min (oC l).length ((l.length:Int)-most).toNat
def Gq (l:List Sp) (most:Int):List Sp:=if Ed l most≠0 then [] else ofS (l++(bU (oC l)).take (Ec l most))
theorem aeW (l:List Sp) (most:Int) (hl:l.length≤40) (hm:most≤9223372036854775807):Ok 17 [aJ l,.i most] (Is (.tup [aJ (Gq l most),.i (Ed l most)])):=by
 refine iU (R:=fun q hs=>wk (.tup [aJ (Gq l most),.i (Ed l most)]) (gvV (fun _=>true) hs q)) ?_ fun _ _ h=>h
 refine bA lw17 (by simp) ?_
 unfold c17
 simp -implicitDefEqProofs only [rX,aA,↓reduceIte,reduceCtorEq,cxN,aF]
 refine aC (Zo l) ⟨⟨trivial,trivial⟩,⟨rfl,rfl⟩,trivial⟩ rfl trivial ?_
 have hbad:vd l=false∨most<1→∀ e b,get e 4=.v (.slice none 0 0)→get e 5=.v (.int .i64 1)→eT [] 0 [fG.tmp 4,fG.tmp 5] (fun q hs=>wk (.tup [aJ (Gq l most),.i (Ed l most)]) (gvV (fun _=>true) hs q)) ⟨e,[],b⟩:=by
  intro hc e b g4 g5
  have e1:Ed l most=1:=if_pos hc
  have e2:Gq l most=[]:=if_pos (by rw [e1];decide)
  rw [dR,e1,e2]
  simp -implicitDefEqProofs only [rX,aP,aQ,aD,wfV,wfL,g4,g5]
  refine ⟨([]:List Blk),⟨trivial,yag _,trivial⟩,?_⟩
  simp [gvV,gvL,wk,wkL,wkR]
 cases hv:vd l with
 | false =>
  simp -implicitDefEqProofs only [rX,↓rY,aA,↓reduceIte,Nat.reduceEqDiff]
  exact hbad (.inl hv) _ _ rfl rfl
 | true =>
 simp -implicitDefEqProofs only [rX,↓rY,aA,↓reduceIte,Nat.reduceEqDiff,reduceCtorEq]
 cases hd:decide (most<1) with
 | true =>
  simp -implicitDefEqProofs only [↓rY,kb]
  exact hbad (.inr (of_decide_eq_true hd)) _ _ rfl rfl
 | false =>
 have hm1:=of_decide_eq_false hd
 simp -implicitDefEqProofs only [↓rY,kc]
 have hvd:Vd l:=Lf.1 hv
 have he0:Ed l most=0:=if_neg (by rw [hv];simp;omega)
 have hgl:(oC l).length=l.length-1:=pW
 have hle:Gq l most=ofS (l++(bU (oC l)).take (Ec l most)):=if_neg (by rw [he0];decide)
 refine dH (.virt 1 2 (by decide) (.nilE 6 0 rfl (.refl _))) (fun k:Nat=>⟨[(7,.i (k+1:Nat)),(6,.sl 0 0 k),(0,aJ l),(1,.i most)],[rw2 (Av l k)],0⟩) (fun k=>k≤l.length-1) (fun k=>l.length-k) 0 (by omega) ?_ ?_
 ·simp -implicitDefEqProofs only [rX,↓reduceIte,Nat.reduceEqDiff,reduceCtorEq,leE,leH,leB,aD,aB,wfE,wfB,wfV,yaz]
  exact ⟨rfl,rfl⟩
 rintro k hk
 unfold c17l0
 simp -implicitDefEqProofs only [rX,↓rY,rdK,aA,cells?,splice,↓reduceIte,Nat.reduceEqDiff,Nat.reduceAdd,reduceCtorEq,aE,bO,bQ,leE,leH,leB,aD,aB,wfE,wfB,wfV,aR,aU,kill,St.kill,isD,Nat.reduceLT,Nat.reduceLeDiff,yad,yab,i4,fJ]
 intro _
 cases hd2:decide (((k+1:Nat):Int)<l.length) with
 | true =>
  have hkl:=of_decide_eq_true hd2
  simp -implicitDefEqProofs only [↓rY,kb]
  have e1:((k+1:Nat):Int)-1=k:=by omega
  have e2:(((k+1:Nat):Int)-1).toNat=k:=by omega
  refine ⟨by simp only [lo,Fx.hi];omega,by omega,by omega,by omega,by omega,⟨by rw [pW];exact yae _,by omega⟩,by simp only [lo,Fx.hi];omega,k+1,⟨by omega,by omega⟩,⟨rfl,rfl⟩,?_⟩
  rw [Kf,Au (by omega),yaa (by simp [pW])]
  simp only [e2]
  simp [rw2,enS]
 | false =>
 have hkl:=of_decide_eq_false hd2
 have hkk:k=l.length-1:=by omega
 have hgk:Av l k=oC l:=by rw [hkk];rfl
 rw [hgk]
 simp -implicitDefEqProofs only [↓rY,kc]
 have o:=aeI (oC l) (by omega) (Of hvd) (Iz hvd)
 rw [hgl,←hkk] at o
 refine fU _ o (by simp) ⟨⟨trivial,trivial,trivial⟩,rfl,⟨rfl,trivial⟩,trivial⟩ trivial ?_
 have ef:max 0 (min (k:Int) ((l.length:Int)-most))=(Ec l most:Nat):=by unfold Ec;omega
 have hfk:Ec l most≤k:=by unfold Ec;omega
 have hsl:(bU (oC l)).length=k:=by rw [bX.length_eq];omega
 have hsl2:yaf k ((bU (oC l)).map enS)=(bU (oC l)).map enS:=yaa (by simp;omega)
 simp -implicitDefEqProofs only [rX,↓rY,aA,cells?,↓reduceIte,Nat.reduceEqDiff,fM,Nat.reduceAdd,reduceCtorEq,aE,cQ,bQ,isD,Nat.reduceLT,yab,Mv,Xb,Xc,Wz,Xa,Xd,Aw,mS,vQ,pZ,ef,hsl,yab,show yaC 0=0 from rfl,ybl,eq_true hfk,hsl2,←List.map_take,eq_true (show ((Ec l most:Nat):Int)≤(k:Int) by omega)]
 intro _ _
 refine ⟨by simp only [lo,Fx.hi];omega,⟨⟨by omega,by omega⟩,ybq _⟩,?_⟩
 generalize hFF:(bU (oC l)).take (Ec l most)=F at *
 have hFl:F.length≤40:=by rw [←hFF,yai];omega
 have hmid:Mid (l++F):=by
  intro s hs
  rcases yaD.1 hs with hs|hs
  ·have:=hvd.2 s hs;omega
  ·rw [←hFF] at hs
   have:=Iz hvd s (bX.mem_iff.1 (ybf hs));omega
 refine dV [.bro 1 ([l,F].map enL)] (.sl 0 0 (l++F).length) (.sl 2 0 (l++F).length) [.arr 2 ((l++F).map enS)] [.arr 2 ((l++F).map enS)] ?_ ?_ ?_ ?_ ?_ ?_
 ·have:=Zm [l,F] (by simp;omega)
  rw [show [l,F].flatten=l++F by simp] at this
  exact this
 ·simp [aH,aZ,aT,cJ,wkL,wk,wkB,blk,enL]
 ·simp [ren]
 ·simp [bW]
 ·trivial
 simp -implicitDefEqProofs only [rX,↓reduceIte]
 refine w6 (l++F) rfl (by simp;omega) hmid rfl (by simp) (by simp) trivial ?_
 simp -implicitDefEqProofs only [rX,aA,↓reduceIte,Nat.reduceEqDiff,aP,aQ,aD,wfV,wfL,aR,aU,kill,bL,St.kill,dR]
 rw [hle,he0]
 refine ⟨([]:List Blk),⟨trivial,yag _,trivial⟩,?_⟩
 simp [gvV,gvL,wk,wkL,wkR]
end Go.Fx.H
namespace Go.Fx.H
open Go Go.Fx Go.Proofs Go.Fx.R
set_option maxRecDepth 20000
end Go.Fx.H
namespace Go.Fx.H
open Go Go.Fx Go.Proofs Go.Fx.R
set_option maxRecDepth 20000
abbrev Op:=Int × Int × Bs
abbrev enO (x:Op):List V:=[.i x.1,.i x.2.1,sv x.2.2]
abbrev rO (l:List Op):V:=.ro 3 (l.map enO)
def pe (a b:Bs) (s:Int) (o:V):List V:=us a++(us b++[.i s,o])
section
variable {a b:Bs} {s:Int} {o:V}
theorem mZ (ha:a.length=16) (hb:b.length=16):(pe a b s o).length=34:=by simp [pe,cU,ha,hb]
theorem Cs (ha:a.length=16) (hb:b.length=16):(pe a b s o)[33]?=some o:=by
 unfold pe
 rw [yaZ (by rw [cU];omega),yaZ (by rw [cU,cU];omega),cU,cU,ha,hb];rfl
theorem Wb (ha:a.length=16):yaf 16 (pe a b s o)=us a:=by
 unfold pe
 rw [yaJ (by rw [cU];omega),yaa (by rw [cU];omega)]
theorem Zh (ha:a.length=16):yak 16 (pe a b s o)=us b++[.i s,o]:=by
 unfold pe
 rw [yaM (by rw [cU];omega),yam (by rw [cU];omega)];rfl
theorem Kb (ho:isC o=true):(pe a b s o).all isC=true:=by
 unfold pe
 rw [List.all_append,eU,List.all_append,eU]
 show (true&&(true&&(isC (.i s)&&(isC o&&true))))=true
 rw [ho];rfl
theorem pP (ha:a.length=16) (hb:b.length=16):yaf 34 (pe a b s o)=pe a b s o:=yaa (by rw [mZ ha hb];exact yae _)
theorem hU (ha:a.length=16) (hb:b.length=16):yak 34 (pe a b s o)=[]:=yam (by rw [mZ ha hb];exact yae _)
theorem Ha {q:List Blk} {x y:List V}:wfL q (x++y)↔wfL q x∧wfL q y:=by
 induction x with
 | nil=>simp [wfL]
 | cons u r ih=>simp [wfL,ih,and_assoc]
theorem u5 {q:List Blk} (ho:wfV q o):wfL q (pe a b s o):=by
 unfold pe
 rw [Ha,Ha]
 exact ⟨bV,bV,by simp [wfL,wfV,ho]⟩
end
theorem Wh (t:Bs) (h:t.length≤100000000000):Ok 70 [sv t] (Is (.agg (us (c8 34 [t])))):=by
 refine bA lw70 (by simp) ?_
 unfold c70
 simp -implicitDefEqProofs only [rX,↓rY,aA,cells?,↓reduceIte,reduceCtorEq,aE,bQ,isD,Nat.reduceLT,cxN,mM,aF,w16]
 refine aC (Rl 34 [t] (in1 h)) ⟨⟨trivial,yae 1,trivial⟩,rfl,⟨rfl,rfl⟩,trivial⟩ (by simp [ren,aS]) trivial ?_
 obtain ⟨u1,u2,u3⟩:=dX (bR (k:=34) (l:=[t]))
 obtain ⟨z1,z2,z3⟩:=dX cB
 simp -implicitDefEqProofs only [rX,↓rY,cells?,splice,↓reduceIte,Nat.reduceEqDiff,aP,aQ,wfV,u1,u2,z1,z3,eU,bV]
def wgt (l:List Op):Int:=l.foldl (fun n x=>n+(x.2.2.length:Int)) 0
theorem uD {l:List Op} {k:Nat} (h:k<l.length):wgt (l.take (k+1))=wgt (l.take k)+(l[k].2.2.length:Int):=by
 unfold wgt
 rw [yaq,yah h,ybn];rfl
theorem Th {l:List Op} (h:∀ x∈l,x.2.2.length≤1000000) {k:Nat} (hk:k≤l.length):0≤wgt (l.take k)∧wgt (l.take k)≤1000000*k:=by
 induction k with
 | zero=>simp [wgt]
 | succ k ih =>
  have:=ih (by omega)
  have h2:=h _ (yaj (show k<l.length by omega))
  rw [uD (by omega)]
  omega
theorem aeU (a b:Bs) (s:Int) (l:List Op) (ha:a.length=16) (hb:b.length=16) (hl:l.length≤1000000) (hw:∀ x∈l,x.2.2.length≤1000000):Ok 25 [.agg (pe a b s (rO l))] (Is (.i (wgt l))):=by
 refine bA lw25 (by simp) ?_
 unfold c25
 simp -implicitDefEqProofs only [rX,↓rY,aA,cells?,↓reduceIte,Nat.reduceEqDiff,aE,cxN,aF,Cs,ha,hb]
 intro _
 refine aY (fun k:Nat=>⟨[(9,.i k),(8,.i l.length),(7,rO l),(3,.i (wgt (l.take k)))],[],1⟩) (fun k=>k≤l.length) (fun k=>l.length-k) 0 (yag _) ?_ ?_
 ·simp -implicitDefEqProofs only [rX,↓reduceIte,Nat.reduceEqDiff,leE,leH,aD,wfE,wfB,wfV,yar,wgt,List.foldl_nil]
 rintro k hk
 unfold c25l0
 simp -implicitDefEqProofs only [rX,↓rY,aA,cells?,splice,↓reduceIte,Nat.reduceEqDiff,Nat.reduceAdd,aE,aP,aQ,leE,leH,aD,wfE,wfB,wfV,isC,yad,yab,b5,mM]
 cases hd:decide ((k:Int)<l.length) with
 | false =>
  have hd':=of_decide_eq_false hd
  have:k=l.length:=by omega
  subst this
  simp -implicitDefEqProofs only [↓rY,kc,yaW]
 | true =>
  have hd':=of_decide_eq_true hd
  have hkl:k<l.length:=by omega
  simp only [kb]
  have h1:=Th hw (k:=k) hk
  have h2:=Th hw (k:=k+1) (by omega)
  rw [uD hkl] at h2
  refine ⟨⟨by omega,by omega⟩,hkl,?_⟩
  refine ⟨by simp only [lo,Fx.hi];omega,by simp only [lo,Fx.hi];omega,k+1,⟨by omega,by omega⟩,?_⟩
  rw [uD hkl]
  exact ⟨by omega,rfl⟩
theorem Mc {a b:Bs}:(sb a==sb b)=(a==b):=by
 show (a.toArray==b.toArray)=(a==b)
 simp
theorem eqO {x y:Op} {K:Bool→Prop}:(c6 (lG (.agg [.i x.1,.i x.2.1,sv x.2.2])) fun xs=>c6 (lG (.agg [.i y.1,.i y.2.1,sv y.2.2])) fun ys=>fE xs ys [(0,.int .i64),(1,.int .i64),(2,.string)] K)=K (x==y):=by
 have e:(x==y)=((x.1==y.1)&&((x.2.1==y.2.1)&&((x.2.2==y.2.2)&&true))):=by
  obtain ⟨a,b,c⟩:=x
  obtain ⟨a',b',c'⟩:=y
  rw [Bool.and_true];rfl
 rw [e,←Mc]
 exact propext ⟨fun h=>h.2.2.2,fun h=>⟨⟨rfl,rfl⟩,⟨rfl,rfl⟩,⟨rfl,rfl⟩,h⟩⟩
end Go.Fx.H
namespace Go.Fx.H
open Go Go.Fx Go.Proofs Go.Fx.R
set_option maxRecDepth 20000
section
variable {a b:Bs} {s:Int} {o o':V}
theorem yG {M:List Nat} {x y:List V}:bL M (x++y)=bL M x++bL M y:=by
 induction x with
 | nil=>rfl
 | cons u r ih=>simp [bL,ih]
theorem Ms (ha:a.length=16) (hb:b.length=16):yaf 33 (pe a b s o)++[o']=pe a b s o':=by
 have e:pe a b s o=(us a++(us b++[.i s]))++[o]:=by simp [pe]
 rw [e,yaJ (by simp [cU,ha,hb]),yaa (by simp [cU,ha,hb])]
 simp [pe]
theorem gS {M:List Nat}:bL M (pe a b s o)=pe a b s (kill M o):=by
 unfold pe
 rw [yG,yG,pC,pC];rfl
theorem Co {f:Nat→Option Nat} {x y:List V}:cI f (x++y)=cI f x++cI f y:=by
 induction x with
 | nil=>rfl
 | cons u r ih=>simp [cI,ih]
theorem pO {f:Nat→Option Nat}:cI f (pe a b s o)=pe a b s (ren f o):=by
 unfold pe
 rw [Co,Co,aS,aS];rfl
end
abbrev rwO (l:List Op):Blk:=.arr 3 (l.map enO)
def flO (o:List Op) (new:Bs) (p i:Nat):List Op:=if p<i then o++[(0,0,(new.take i).drop p)] else o
theorem Zl (a b new:Bs) (s:Int) (l:List Op) (p i:Nat) (ha:a.length=16) (hb:b.length=16) (hl:l.length≤1000000) (hi:i≤new.length) (hn:new.length≤1000000) :
  OkN Tryz.prog 71 [.i i,.ptr 0 0 0,.ptr 1 0 0,.ptr 2 0 0] [.var [.i p],.var (pe a b s (.sl 3 0 l.length)),.var [sv new],rwO l] [3] (IsA (.tup []) [.var [.i p],.var (pe a b s (.sl 3 0 (flO l new p i).length)),.var [sv new],rwO (flO l new p i)]):=by
 refine f7 pol [0,1,2] lw71 (by simp) ⟨trivial,trivial,trivial,trivial⟩ (fun k hk hm=>by simp at hk hm ⊢;omega) ?_
 unfold c71
 simp -implicitDefEqProofs only [rX,↓rY,qs,rdK,zC,cells?,splice,↓reduceIte,Nat.reduceEqDiff,Nat.reduceAdd,reduceCtorEq,aE,cQ,bO,bQ,aP,aQ,leH,leB,leV,cN,aD,aB,wfB,wfV,wfL,aR,aU,kill,bL,St.kill,isD,isC,Nat.reduceLT,yab,cxN,b5,mM,aF,mZ,Cs,hU,gS,ha,hb,bN]
 cases hd:decide ((p:Int)<i) with
 | false =>
  have hd':=of_decide_eq_false hd
  have e1:flO l new p i=l:=if_neg (by omega)
  rw [kc,e1]
  exact ⟨⟨b7 _,rfl⟩,u5 (by simp [wfV,aB])⟩
 | true =>
  have hd':=of_decide_eq_true hd
  have e1:flO l new p i=l++[(0,0,(new.take i).drop p)]:=if_pos (by omega)
  rw [kb,e1]
  refine ⟨⟨⟨by omega,by omega⟩,by omega,ybq _⟩,by omega,⟨?_,?_⟩,u5 (by simp [wfV,aB])⟩
  ·rw [Ms ha hb,yac];exact b7 _
  ·rw [yaa (by simp),fY]
   simp [rwO]
def tF (old:Bs) (b:Nat) (q:Bs):Nat→Option Nat
 | 0=>none
 | j+1=>match tF old b q j with
  | some f=>some f
  | none=>if bk old b j=q∧q.length=b then some (j*b) else none
def fnd (old:Bs) (b:Nat) (q:Bs):Option Nat:=tF old b q (nb old.length b)
theorem sD {old q:Bs} {b f:Nat}:∀ {j},tF old b q j=some f→∃ i,i<j∧f=i*b∧bk old b i=q∧q.length=b
 | 0,h=>by cases h
 | j+1,h=>by
  unfold tF at h
  cases h1:tF old b q j with
  | some g =>
   rw [h1] at h
   cases h
   obtain ⟨i,h2,h3⟩:=sD h1
   exact ⟨i,by omega,h3⟩
  | none =>
   rw [h1] at h
   simp only at h
   split at h
   ·rename_i h2
    cases h
    exact ⟨j,by omega,rfl,h2⟩
   ·cases h
theorem Sq {old:Bs} {b j:Nat} (h:(bk old b j).length=b) (hb:1≤b):j*b+b≤old.length:=by rw [o8] at h;omega
def lkp (q:Bs):List (Bs × Nat)→Nat→Option (Nat × V)
 | [],_=>none
 | e::r,i=>if q=e.1 then some (i,.i e.2) else lkp q r (i+1)
def gU (old:Bs) (b:Nat):Nat→List (Bs × Nat)
 | 0=>[]
 | j+1=>if lkp (bk old b j) (gU old b j) 0=none∧(bk old b j).length=b then gU old b j++[(bk old b j,j*b)] else gU old b j
def esV:List (Bs × Nat)→Nat→List (Value × V × Nat)
 | [],_=>[]
 | e::r,i=>(.string (sb e.1),.i e.2,i)::esV r (i+1)
theorem Sd {l:List (Bs × Nat)} {x:Bs × Nat}:∀ {i},esV (l++[x]) i=esV l i++[(.string (sb x.1),.i x.2,i+l.length)]:=by
 induction l with
 | nil=>intro i;rfl
 | cons y r ih =>
  intro i
  show _::esV (r++[x]) (i+1)=_::(esV r (i+1)++_)
  rw [ih,yaN,show i+1+r.length=i+(r.length+1) by omega]
theorem vB {q:Bs}:∀ {l:List (Bs × Nat)} {i n},fX .string (.string (sb q)) (esV l n) i=some (lkp q l i)
 | [],_,_=>rfl
 | e::r,i,n=>by
  have hs:Instr.sameNow .string (.string (sb q)) (.string (sb e.1))=some (decide (q=e.1)):=by
   have e0:(sb q==sb e.1)=decide (q=e.1):=by rw [Mc,ybc];simp
   rw [←e0];rfl
  show (match Instr.sameNow .string (.string (sb q)) (.string (sb e.1)) with
   | some true=>some (some (i,V.i e.2))
   | some false=>fX .string (.string (sb q)) (esV r (n+1)) (i+1)
   | none=>none)=_
  rw [hs]
  unfold lkp
  by_cases h:q=e.1
  ·rw [decide_eq_true h,if_pos h]
  ·rw [decide_eq_false h,if_neg h]
   exact vB
theorem In {q:Bs} {x:Bs × Nat}:∀ {l:List (Bs × Nat)} {i},lkp q (l++[x]) i=match lkp q l i with
  | some r=>some r
  | none=>if q=x.1 then some (i+l.length,.i x.2) else none
 | [],i=>rfl
 | e::r,i=>by
  show (if q=e.1 then _ else lkp q (r++[x]) (i+1))=match (if q=e.1 then _ else lkp q r (i+1)) with
   | some r=>some r
   | none=>_
  by_cases h:q=e.1
  ·rw [if_pos h,if_pos h]
  ·rw [if_neg h,if_neg h,In,yaN,show i+1+r.length=i+(r.length+1) by omega]
theorem Im {old q:Bs} {b:Nat}:∀ {j},(lkp q (gU old b j) 0).map (·.2)=(tF old b q j).map fun f=>V.i (f:Nat)
 | 0=>rfl
 | j+1=>by
  have ih:=Im (old:=old) (q:=q) (b:=b) (j:=j)
  unfold gU tF
  by_cases h:lkp (bk old b j) (gU old b j) 0=none∧(bk old b j).length=b
  ·rw [if_pos h,In]
   cases h1:lkp q (gU old b j) 0 with
   | some r =>
    rw [h1] at ih
    cases h2:tF old b q j with
    | none=>rw [h2] at ih;simp at ih
    | some f=>rw [h2] at ih;simpa using ih
   | none =>
    rw [h1] at ih
    cases h2:tF old b q j with
    | some f=>rw [h2] at ih;simp at ih
    | none =>
     simp only
     by_cases h3:q=bk old b j
     ·rw [if_pos h3,if_pos ⟨h3.symm,by rw [h3];exact h.2⟩];rfl
     ·rw [if_neg h3,if_neg (fun h4=>h3 h4.1.symm)];rfl
  ·rw [if_neg h]
   cases h2:tF old b q j with
   | some f=>rw [h2] at ih;simpa using ih
   | none =>
    rw [h2] at ih
    simp only
    rw [if_neg ?_]
    ·exact ih
    ·rintro ⟨h3,h4⟩
     subst h3
     refine h ⟨?_,h4⟩
     cases h5:lkp (bk old b j) (gU old b j) 0 with
     | none=>rfl
     | some r=>rw [h5] at ih;simp at ih
end Go.Fx.H
namespace Go.Fx.H
open Go Go.Fx Go.Proofs Go.Fx.R
set_option maxRecDepth 20000
theorem Br:[V.v (Value.int IntKind.u8 0),V.v (Value.int IntKind.u8 0),V.v (Value.int IntKind.u8 0),V.v (Value.int IntKind.u8 0),V.v (Value.int IntKind.u8 0),V.v (Value.int IntKind.u8 0),V.v (Value.int IntKind.u8 0),V.v (Value.int IntKind.u8 0),V.v (Value.int IntKind.u8 0),V.v (Value.int IntKind.u8 0),V.v (Value.int IntKind.u8 0),V.v (Value.int IntKind.u8 0),V.v (Value.int IntKind.u8 0),V.v (Value.int IntKind.u8 0),V.v (Value.int IntKind.u8 0),V.v (Value.int IntKind.u8 0),V.v (Value.int IntKind.u8 0),V.v (Value.int IntKind.u8 0),V.v (Value.int IntKind.u8 0),V.v (Value.int IntKind.u8 0),V.v (Value.int IntKind.u8 0),V.v (Value.int IntKind.u8 0),V.v (Value.int IntKind.u8 0),V.v (Value.int IntKind.u8 0),V.v (Value.int IntKind.u8 0),V.v (Value.int IntKind.u8 0),V.v (Value.int IntKind.u8 0),V.v (Value.int IntKind.u8 0),V.v (Value.int IntKind.u8 0),V.v (Value.int IntKind.u8 0),V.v (Value.int IntKind.u8 0),V.v (Value.int IntKind.u8 0),V.v (Value.int IntKind.i64 0),V.v (Value.slice none 0 0)]=pe z16 z16 0 (.v (.slice none 0 0)):=by unfold pe us z16;rfl
section
variable {a b:Bs} {s:Int} {o v:V}
theorem Mt (ha:a.length=16) (hb:b.length=16):yak 32 (pe a b s o)=[.i s,o]:=by
 rw [show 32=16+16 from rfl,←List.drop_drop,Zh ha,yaM (by rw [cU];omega),yam (by rw [cU];omega)];rfl
theorem Wd (ha:a.length=16) (hb:b.length=16):yak 33 (pe a b s o)=[o]:=by
 rw [show 33=32+1 from rfl,←List.drop_drop,Mt ha hb];rfl
theorem Wa (ha:a.length=16) (hb:b.length=16):yaf 32 (pe a b s o)=us a++us b:=by
 unfold pe
 rw [←yal,yaJ (by rw [yac,cU,cU];omega),yaa (by rw [yac,cU,cU];omega)]
theorem r1 {d:Bs} (ha:a.length=16):us d++yak 16 (pe a b s o)=pe d b s o:=by rw [Zh ha];rfl
theorem r2 {d:Bs} (ha:a.length=16) (hb:b.length=16):us a++us d++yak 32 (pe a b s o)=pe a d s o:=by rw [Mt ha hb,yal];rfl
theorem r3 {n:Int} (ha:a.length=16) (hb:b.length=16):yaf 32 (pe a b s o)++[V.v (.int .i64 n)]++yak 33 (pe a b s o)=pe a b n o:=by
 rw [Wd ha hb,Wa ha hb]
 simp [pe]
end
def Pt (o:List Op) (c:Bs):List Op :=
 match o.getLast? with
 | some x=>if x.2.2≠[] then o.dropLast++[(x.1,x.2.1,x.2.2++c)] else o++[(0,0,c)]
 | none=>o++[(0,0,c)]
def xE (o:List Op) (f b:Nat):List Op :=
 match o.getLast? with
 | some x=>if x.2.2=[]∧x.2.1=f then o.dropLast++[(x.1,(f:Int)+b,x.2.2)] else o++[((f:Int),(f:Int)+b,[])]
 | none=>o++[((f:Int),(f:Int)+b,[])]
def pc (new:Bs) (b i:Nat):Bs:=(new.drop i).take b
def mU (old new:Bs) (b i:Nat) (o:List Op):List Op :=
 if i<new.length then
  match fnd old b (pc new b i) with
  | none=>mU old new b (i+1) (Pt o (pc new 1 i))
  | some f=>mU old new b (i+(b-1)+1) (xE o f b)
 else o
termination_by new.length-i
def dfE (old new:Bs) (b:Int):Int:=if b<1∨4096<b then 1 else if 65536<(max old.length new.length:Nat) then 2 else 0
def dig (t:Bs):Bs:=c8 34 [t]
def dfO (old new:Bs) (b:Int):List Op:=if dfE old new b≠0 then [] else mU old new b.toNat 0 []
def dfP (old new:Bs) (b:Int) (o:V):List V:=if dfE old new b≠0 then pe z16 z16 0 o else pe (dig old) (dig new) new.length o
theorem Tq {a b:Bs} {s:Int} {o:V} {M:Nat→Bool} {h:List Blk}:gvL M h (pe a b s o)=pe a b s (gvV M h o):=by
 have app:∀ x y:List V,gvL M h (x++y)=gvL M h x++gvL M h y:=by
  intro x y
  induction x with
  | nil=>rfl
  | cons u r ih=>simp [gvL,ih]
 have ug:∀ l:Bs,gvL M h (us l)=us l:=fun l=>y3 _ jM
 unfold pe
 rw [app,app,ug,ug];rfl
theorem Gx {x y x' y':List V} (h1:wkL x x') (h2:wkL y y') (hl:x.length=x'.length):wkL (x++y) (x'++y'):=by
 induction x generalizing x' with
 | nil=>cases x' with
  | nil=>exact h2
  | cons=>simp at hl
 | cons u r ih=>cases x' with
  | nil=>simp at hl
  | cons u' r'=>exact ⟨h1.1,ih h1.2 (by simpa using hl)⟩
theorem Lh {l:Bs}:wkL (us l) (us l):=by
 have h:=(eA (l:=l) (h:=[]) (g:=fun _=>none)).2
 have e:∀ x:List V,(∀ v∈x,∃ u,v=.v u)→aT [] (fun _=>none) x=x:=by
  intro x hx
  induction x with
  | nil=>rfl
  | cons v r ih =>
   obtain ⟨u,rfl⟩:=hx v yaP
   show V.v u::aT [] (fun _=>none) r=_
   rw [ih fun w hw=>hx w (ybm _ hw)]
 rwa [e _ jM] at h
theorem Mr {a b:Bs} {s:Int} {o o':V} (h:wk o o'):wkL (pe a b s o) (pe a b s o'):=Gx Lh (Gx Lh ⟨rfl,h,trivial⟩ rfl) rfl
def Ea:LCode→LCode
 | .block _ b=>b
 | c=>c
abbrev cE:Cx:=cxN Tryz.prog []
abbrev h21 (D1 D2 new:Bs) (o:List Op):List Blk:=[.var (pe z16 z16 0 (.v (.slice none 0 0))++[.i 0]),.var (pe D1 D2 new.length (.sl 2 0 o.length)),rwO o]
theorem We {new:Bs} {b i:Nat}:(pc new b i).length=min b (new.length-i):=by simp [pc]
section
variable {old new D1 D2:Bs} {n i:Nat} {o:List Op} {N R:St→Prop} {X:Nat→St→Prop} {e:Env} {bb:Nat}
theorem set_last {o1:List Op} {x y:Op}:((o1++[x]).map enO).set o1.length (enO y)=(o1++[y]).map enO:=by
 rw [yap,yap,yaH _ _ (by simp)]
 simp
theorem Ej {o:List Op} {x:Op} {c:Bs}:Pt (o++[x]) c=if x.2.2≠[] then o++[(x.1,x.2.1,x.2.2++c)] else (o++[x])++[(0,0,c)]:=by
 unfold Pt
 rw [ybC,ybD]
 simp only [Option.some_or,ybE]
theorem nL {o:List Op} {x:Op} {f b:Nat}:xE (o++[x]) f b=if x.2.2=[]∧x.2.1=f then o++[(x.1,(f:Int)+b,x.2.2)] else (o++[x])++[((f:Int),(f:Int)+b,[])]:=by
 unfold xE
 rw [ybC,ybD]
 simp only [Option.some_or,ybE]
end
end Go.Fx.H
namespace Go.Fx.H
open Go Go.Fx Go.Proofs Go.Fx.R
set_option maxRecDepth 20000
theorem Wc {a b:Bs} {s:Int} {z:Nat} (ha:a.length=16) (hb:b.length=16) {i:Nat} {x y:V} (hx:(pe a b s (.v (.slice none 0 0)))[i]?=some x) (hy:(pe a b s (.sl z 0 0))[i]?=some y):Af x y:=by
 have e:∀ o,pe a b s o=(us a++(us b++[.i s]))++[o]:=fun o=>by simp [pe]
 have hl:(us a++(us b++[V.i s])).length=33:=by simp [cU,ha,hb]
 rw [e] at hx hy
 rcases yaB i 33 with h|h
 ·rw [List.getElem?_append_left (by omega)] at hx hy
  rw [hx] at hy
  exact .inl (Option.some.inj hy).symm
 ·rw [yaZ (by omega)] at hx hy
  rcases Nat.eq_or_lt_of_le h with h|h
  ·rw [hl,←h] at hx hy
   simp at hx hy
   subst hx hy
   exact .inr ⟨rfl,_,rfl⟩
  ·rw [List.getElem?_eq_none (by rw [hl];simp;omega)] at hx
   cases hx
theorem Xe {old q:Bs} {b f:Nat} (h:fnd old b q=some f):f+b≤old.length∨b=0:=by
 obtain ⟨j,h1,h2,h3,h4⟩:=sD h
 rcases yat b with h5|h5
 ·exact .inr h5
 ·left;rw [h2];exact Sq (by rw [h3,h4]) h5
theorem nX {old new:Bs} {b i:Nat} {o:List Op} (hb:1≤b) (h:i<new.length):mU old new b i o=match fnd old b (pc new b i) with
  | none=>mU old new b (i+1) (Pt o (pc new 1 i))
  | some f=>mU old new b (i+b) (xE o f b):=by
 rw [mU,if_pos h]
 cases fnd old b (pc new b i) with
 | none=>rfl
 | some f=>simp only;rw [show i+(b-1)+1=i+b by omega]
theorem Dw {old new:Bs} {b i:Nat} {o:List Op} (h:new.length≤i):mU old new b i o=o:=by
 rw [mU,if_neg (by omega)]
end Go.Fx.H
