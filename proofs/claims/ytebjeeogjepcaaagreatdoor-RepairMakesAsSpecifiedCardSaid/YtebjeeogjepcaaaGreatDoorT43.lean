import Derived.Test.YtebjeeogjepcaaaGreatDoorTP2
import Derived.Test.YtebjeeogjepcaaaGreatDoorHLow0
import Derived.Test.YtebjeeogjepcaaaGreatDoorHLow
set_option linter.unusedVariables false
set_option linter.unusedSimpArgs false
set_option linter.unusedSectionVars false
open List renaming take_of_length_le → yaa, take → yac, drop → yaf, length_append → yag, getElem_map → yah, length_take → yai, getElem?_eq_getElem → yaj, drop_of_length_le → yak, getElem_mem → yal, append_assoc → yam, take_append_drop → yan, getElem_append_right → yao, append_nil → yap, take_add_one → yaq, map_append → yas, length_drop → yat, pairwise_cons → yav, map → yaw, drop_eq_getElem_cons → yax, pairwise_append → yay, mem_append → yaz, getElem_append_left → yaA, take_append_of_le_length → yaD, length_map → yaE, drop_append_of_le_length → yaF, eq_nil_of_length_eq_zero → yaH, length_cons → yaI, nil_append → yaJ, mem_cons → yaK, set_append_right → yaL, take_sublist → yaM, replicate → yaN, replicate_succ → yaP, getElem?_append_right → yaQ, cons_append → yaR, all_append → yaS, mem_cons_self → yaU, length_singleton → yaV, drop_sublist → yaW, pairwise_iff_getElem → yaY, take_length → yaZ, length_nil → ybb, drop_zero → ybd, map_take → ybe, range' → ybf, length_eq_zero_iff → ybj, mem_of_mem_take → ybk, getElem?_cons_succ → ybl, mem_map → ybo, getD_eq_getElem?_getD → ybp, getLastD_eq_getLast? → ybq, getLast?_eq_getElem? → ybr, dropLast_eq_take → ybs, length_dropLast → ybt, length_pos_iff → ybu, mem_cons_of_mem → ybv, getElem?_cons_zero → ybx, length_filter_le → yby, take_succ_cons → ybz, perm_append_comm → ybA, getLast?_append → ybB, getLast?_singleton → ybC, dropLast_concat → ybD
open Nat renaming zero_le → yab, le_refl → yad, eq_zero_or_pos → yau, lt_or_ge → yaB, strongRecOn → yaG, sub_zero → yaT, mul_one → yba, le_mul_of_pos_right → ybc, zero_add → ybm, succ_mul → ybn
open Int renaming toNat_natCast → yae, toNat → yar, natCast_zero → yaC
open Bool renaming eq_iff_iff → yaO, not_false → ybh, not_true → ybi
open Array renaming getElem?_modify → yaX, getElem?_append_left → ybw
open Option renaming getD_some → ybg
namespace Go.Fx.H
open Go Go.Fx Go.Proofs Go.Fx.R Go.RowKit
set_option maxRecDepth 20000
theorem oU {S:Nat→Prop} {w:World} {b:Nat}:∀ {l:List Int} {off:Nat},cI S w 1 b off (l.map encI)→∀ j (h:j<l.length),w.cell? ⟨b,off+j,none⟩=some (.int .i64 l[j])
 | [],_,_,j,h=>by simp at h
 | x::r,off,hr,j,h=>by
  obtain ⟨⟨_,⟨val,h1,h2⟩,_⟩,h3⟩:=hr
  cases j with
  | zero =>
   have:val=.int .i64 x:=h2.1
   subst this;exact h1
  | succ j =>
   have:=oU h3 j (by simpa using h)
   rw [show off+(j+1)=off+1+j by omega]
   exact this
theorem sB {S:Nat→Prop} {w:World} {b:Nat}:∀ {l:List Int} {off:Nat},(∀ j (h:j<l.length),w.cell? ⟨b,off+j,none⟩=some (.int .i64 l[j]))→cI S w 1 b off (l.map encI)
 | [],_,_=>trivial
 | x::r,off,h=>⟨⟨rfl,⟨_,h 0 (by simp),rfl,rfl⟩,trivial⟩,sB fun j hj=>by
   have:=h (j+1) (by simpa using hj)
   rw [show off+1+j=off+(j+1) by omega]
   exact this⟩
theorem abG (l:List Int) (hl:l.length<4611686018427387904):OkN Tryz.prog 133 [.sl 0 0 l.length] [.arr 1 (l.map encI)] [] (IsA (.tup []) [.arr 1 ((srt l).map encI)]):=by
 refine ⟨cal Tryz.func133 (by kernel_rfl) (by kernel_rfl),?_⟩
 intro ρ X w vals hr ha
 match vals,ha with
 | [val],⟨hv,_⟩ =>
 obtain ⟨cap,h1,h2,h3⟩:=hv
 rcases h3 with ⟨h4,a,rfl⟩|⟨hre,rfl,hroom⟩
 ·have hl0:l=[]:=ybj.1 (by omega)
  subst hl0
  refine (Tryz.slices_Sort_int_none a 0 w).mono ?_
  rintro e w' ⟨rfl,rfl⟩
  exact ⟨_,.tup [],[.arr 1 []],ρ,rfl,⟨⟨rfl,by simp [srt]⟩,yad _⟩,Fr.refl _ _,hr,⟨#[],rfl,trivial⟩,fun _ _ _=>rfl⟩
 ·have hb:=hr.blk 0 _ rfl
  obtain ⟨⟨hsz,_⟩,hb|⟨_,c,T,hc,hcs,hlen,hels⟩⟩:=hb
  ·rw [hb.1] at hre;cases hre
  have hoff:(ρ 0).off+0*(ρ 0).sz=(ρ 0).off:=by omega
  rw [hoff]
  rw [yaE] at hlen
  have hg:=fun j hj=>oU hels j hj
  have hH:Sort.Holds (Value.int .i64) w (ρ 0).blk (ρ 0).off l.toArray:=by
   intro j hj
   have hj':j<l.length:=by simpa using hj
   refine ⟨?_,by simp [World.frozen?,hc]⟩
   rw [hg j hj']
   simp [hj']
  refine (Tryz.slices_Sort_int (ρ 0).blk (ρ 0).off cap l w hH (hr.lt 0 hre) hl).mono ?_
  rintro e w' ⟨rfl,n,os,rfl⟩
  have hbl:=hr.lt 0 hre
  have hsl:(srt l).length=l.length:=Aq
  have hw1:(Sort.grow (Sort.putRow (Value.int .i64) (Sort.ahead w n) (ρ 0).blk (ρ 0).off (srt l).toArray) os).heap[(ρ 0).blk]?=some (.cells (Sort.putCells (Value.int .i64) (ρ 0).off (srt l).toArray c) T (0,0)):=by
   simp only [Sort.grow,Sort.putRow,Sort.mapBlock,Sort.ahead]
   rw [ybw (by simpa using hbl),yaX,if_pos rfl,hc]
   rfl
  have hw2:∀ b,b<w.heap.size→b≠(ρ 0).blk→(Sort.grow (Sort.putRow (Value.int .i64) (Sort.ahead w n) (ρ 0).blk (ρ 0).off (srt l).toArray) os).heap[b]?=w.heap[b]?:=by
   intro b hb hne
   simp only [Sort.grow,Sort.putRow,Sort.mapBlock,Sort.ahead]
   rw [ybw (by simpa using hb),yaX,if_neg (fun h=>hne h.symm)]
  have hsize:w.heap.size≤(Sort.grow (Sort.putRow (Value.int .i64) (Sort.ahead w n) (ρ 0).blk (ρ 0).off (srt l).toArray) os).heap.size:=by
   simp [Sort.grow,Sort.putRow,Sort.mapBlock,Sort.ahead]
  have hfr:Fr ρ w ρ (Sort.grow (Sort.putRow (Value.int .i64) (Sort.ahead w n) (ρ 0).blk (ρ 0).off (srt l).toArray) os):=⟨rfl,rfl,rfl,hsize,fun b hb ho=>⟨hw2 b hb fun h=>ho ⟨0,hre,h.symm⟩,ho⟩⟩
  have hcell:∀ j (hj:j<l.length),(Sort.grow (Sort.putRow (Value.int .i64) (Sort.ahead w n) (ρ 0).blk (ρ 0).off (srt l).toArray) os).cell? ⟨(ρ 0).blk,(ρ 0).off+j,none⟩=some (.int .i64 ((srt l)[j]'(by rw [hsl];exact hj))):=by
   intro j hj
   have hjc:(ρ 0).off+j<c.size:=by rw [hcs];rw [hsz] at hroom;omega
   simp only [World.cell?,hw1]
   simp [Sort.putCells,hjc,hsl,hj]
  refine ⟨_,.tup [],[.arr 1 ((srt l).map encI)],ρ,rfl,⟨⟨rfl,rfl⟩,yad _⟩,hfr,⟨hr.inj,hr.out,fun k b hk=>?_,hr.disj,fun k hk=>Nat.lt_of_lt_of_le (hr.lt k hk) hsize,hr.xfr hfr⟩,⟨#[],rfl,trivial⟩,fun _ _ _=>rfl⟩
  cases k with
  | succ k=>simp at hk
  | zero =>
   simp only [ybx,Option.some.injEq] at hk
   subst hk
   refine ⟨⟨hsz,by omega⟩,.inr ⟨hre,_,T,hw1,by simp [Sort.putCells,hcs],by rw [yaE,hsl];exact hlen,sB fun j hj=>?_⟩⟩
   rw [hsl] at hj
   exact hcell j hj
theorem abF (l:List Int) (hl:l.length<4611686018427387904):OkN Tryz.prog 134 [.sl 0 0 l.length] [.arr 1 (l.map encI)] [] (IsA (.sl 0 0 (Lib.compact l).length) [.arr 1 ((Lib.compact l++yaN (l.length-(Lib.compact l).length) 0).map encI)]):=by
 refine ⟨cal Tryz.func134 (by kernel_rfl) (by kernel_rfl),?_⟩
 intro ρ X w vals hr ha
 match vals,ha with
 | [val],⟨hv,_⟩ =>
 obtain ⟨cap,h1,h2,h3⟩:=hv
 rcases h3 with ⟨h4,a,rfl⟩|⟨hre,rfl,hroom⟩
 ·have hl0:l=[]:=ybj.1 (by omega)
  subst hl0
  refine (Tryz.slices_Compact_int_empty a 0 w).mono ?_
  rintro e w' ⟨rfl,rfl⟩
  refine ⟨_,.sl 0 0 0,[.arr 1 []],ρ,rfl,⟨⟨rfl,rfl⟩,yad _⟩,Fr.refl _ _,hr,?_,fun _ _ _=>rfl⟩
  exact ⟨0,yad _,yab _,.inl ⟨rfl,a,rfl⟩⟩
 ·have hb:=hr.blk 0 _ rfl
  obtain ⟨⟨hsz,_⟩,hb|⟨_,c,T,hc,hcs,hlen,hels⟩⟩:=hb
  ·rw [hb.1] at hre;cases hre
  have hoff:(ρ 0).off+0*(ρ 0).sz=(ρ 0).off:=by omega
  rw [hoff]
  rw [yaE] at hlen
  have hg:=fun j hj=>oU hels j hj
  have hH:Sort.Holds (Value.int .i64) w (ρ 0).blk (ρ 0).off l.toArray:=by
   intro j hj
   have hj':j<l.length:=by simpa using hj
   refine ⟨?_,by simp [World.frozen?,hc]⟩
   rw [hg j hj']
   simp [hj']
  refine (Tryz.slices_Compact_int (ρ 0).blk (ρ 0).off cap l w hH (by omega) (by simpa using h1)).mono ?_
  rintro e w' ⟨rfl,q,rfl⟩
  have hbl:=hr.lt 0 hre
  generalize hL:Lib.compact l++yaN (l.length-(Lib.compact l).length) 0=L
  have hsl:L.length=l.length:=by
   rw [←hL,yag,List.length_replicate]
   have:=uE (l:=l)
   omega
  have hw1:(Sort.putRow (Value.int .i64) (Sort.ahead w q) (ρ 0).blk (ρ 0).off L.toArray).heap[(ρ 0).blk]?=some (.cells (Sort.putCells (Value.int .i64) (ρ 0).off L.toArray c) T (0,0)):=by
   simp only [Sort.putRow,Sort.mapBlock,Sort.ahead]
   rw [yaX,if_pos rfl,hc]
   rfl
  have hw2:∀ b,b<w.heap.size→b≠(ρ 0).blk→(Sort.putRow (Value.int .i64) (Sort.ahead w q) (ρ 0).blk (ρ 0).off L.toArray).heap[b]?=w.heap[b]?:=by
   intro b hb hne
   simp only [Sort.putRow,Sort.mapBlock,Sort.ahead]
   rw [yaX,if_neg (fun h=>hne h.symm)]
  have hsize:w.heap.size≤(Sort.putRow (Value.int .i64) (Sort.ahead w q) (ρ 0).blk (ρ 0).off L.toArray).heap.size:=by
   simp [Sort.putRow,Sort.mapBlock,Sort.ahead]
  have hfr:Fr ρ w ρ (Sort.putRow (Value.int .i64) (Sort.ahead w q) (ρ 0).blk (ρ 0).off L.toArray):=⟨rfl,rfl,rfl,hsize,fun b hb ho=>⟨hw2 b hb fun h=>ho ⟨0,hre,h.symm⟩,ho⟩⟩
  have hcell:∀ j (hj:j<l.length),(Sort.putRow (Value.int .i64) (Sort.ahead w q) (ρ 0).blk (ρ 0).off L.toArray).cell? ⟨(ρ 0).blk,(ρ 0).off+j,none⟩=some (.int .i64 (L[j]'(by rw [hsl];exact hj))):=by
   intro j hj
   have hjc:(ρ 0).off+j<c.size:=by rw [hcs];rw [hsz] at hroom;omega
   simp only [World.cell?,hw1]
   simp [Sort.putCells,hjc,hsl,hj]
  refine ⟨_,.sl 0 0 (Lib.compact l).length,[.arr 1 (L.map encI)],ρ,rfl,⟨⟨rfl,rfl⟩,yad _⟩,hfr,⟨hr.inj,hr.out,fun k b hk=>?_,hr.disj,fun k hk=>Nat.lt_of_lt_of_le (hr.lt k hk) hsize,hr.xfr hfr⟩,?_,fun _ _ _=>rfl⟩
  ·cases k with
   | succ k=>simp at hk
   | zero =>
    simp only [ybx,Option.some.injEq] at hk
    subst hk
    refine ⟨⟨hsz,by omega⟩,.inr ⟨hre,_,T,hw1,by simp [Sort.putCells,hcs],by rw [yaE,hsl];exact hlen,sB fun j hj=>?_⟩⟩
    rw [hsl] at hj
    exact hcell j hj
  ·have hcl:=uE (l:=l)
   exact ⟨cap,by omega,h2,.inr ⟨hre,by simp,hroom⟩⟩
end Go.Fx.H
namespace Go.Fx.H
open Go Go.Fx Go.Proofs Go.Fx.R
set_option maxRecDepth 20000
abbrev hpM (A B o:List Sp):List Blk:=[.var [.sl 4 0 o.length],.var [aR A],.var [aR B],.rcd .ready [(5,.ptr 0 0 0)],.arr 2 (o.map enS)]
structure E94 (A B:List Sp) (i j n:Nat) (e:Env):Prop where
 e0:get e 0=.itr 3
 e1:get e 1=.ptr 1 0 0
 e2:get e 2=.ptr 2 0 0
 e4:get e 4=.ro 1 ((cW A B).map encI)
 e7:get e 7=.i i
 e8:get e 8=.i j
 e9:get e 9=.i n
structure Past (A:List Sp) (i:Nat) (x:Int):Prop where
 l:i≤A.length
 h:∀ j (hj:j<A.length),j<i→A[j].2≤x
theorem Past.mono {A:List Sp} {i:Nat} {x y:Int} (h:Past A i x) (hxy:x≤y):Past A i y:=⟨h.l,fun j hj hlt=>Int.le_trans (h.h j hj hlt) hxy⟩
section
variable {A B:List Sp} {fx:List Nat} {Y:Yt} {K:List Blk→Prop} {Inv:Nat→List Sp→Prop}
structure EN (E:List Int) (i j n:Nat) (e:Env):Prop where
 e0:get e 0=.itr 3
 e1:get e 1=.ptr 1 0 0
 e2:get e 2=.ptr 2 0 0
 e4:get e 4=.ro 1 (E.map encI)
 e7:get e 7=.i i
 e8:get e 8=.i j
 e9:get e 9=.i n
 e10:get e 10=.ptr 5 0 0
structure At (A:List Sp) (i:Nat) (x:Int):Prop extends Past A i x where
 s:∀ h:i<A.length,x<A[i].2
theorem At.has {A:List Sp} {i:Nat} {x:Int} (hA:Sep A) (h:At A i x):hasB A x=if h:i<A.length then decide (A[i].1≤x) else false:=by
 have hp:=yaY.1 hA.2
 rw [yaO,fQ]
 constructor
 ·rintro ⟨s,hs,h1,h2⟩
  obtain ⟨k,hk,rfl⟩:=List.getElem_of_mem hs
  rcases Nat.lt_trichotomy k i with c|c|c
  ·have:=h.h k hk c;omega
  ·subst c;rw [dif_pos hk];simpa using h1
  ·have:=hp i k (by omega) hk c
   have:=h.s (by omega)
   omega
 ·intro hh
  split at hh
  ·rename_i hi
   exact ⟨A[i],yal hi,by simpa using hh,h.s hi⟩
  ·cases hh
theorem acB {X:Nat→St→Prop} {R:St→Prop} {E:List Int} {o:List Sp} {a b:Int} {n i j bb:Nat} {e:Env} (hm:A.length≤maxLen) (he:EN E i j n e) (hP:Past A i a)
  (hX:∀ i' e' b',At A i' a→EN E i' j n e'→X 4 ⟨e',hpM A B o++[.var [.i a,.i b]],b'⟩) :
  s7 [3] (fun N=>aw ⟨C0 Tryz.prog,[3],[],I0 Tryz.prog,fun k' xs s Z=>k'=3∧Y xs s Z,none⟩ c132l2 N X R) ⟨e,hpM A B o++[.var [.i a,.i b]],bb⟩:=by
 have e0:=he.e0;have e1:=he.e1;have e2:=he.e2;have e4:=he.e4;have e7:=he.e7;have e8:=he.e8;have e9:=he.e9;have e10:=he.e10
 refine aX (fun i:Nat=>⟨[(10,.ptr 5 0 0),(9,.i n),(8,.i j),(7,.i i),(4,.ro 1 (E.map encI)),(2,.ptr 2 0 0),(1,.ptr 1 0 0),(0,.itr 3)],hpM A B o++[.var [.i a,.i b]],0⟩) (fun i=>Past A i a) (fun i=>A.length-i) i hP ?_ ?_
 ·simp -implicitDefEqProofs only [rX,↓reduceIte,leE,leH,leB,leV,dQ,aD,aB,wfE,wfB,wfV,wfL,e0,e1,e2,e4,e7,e8,e9,e10,or_true]
 intro i hP
 have hl:=hP.l
 unfold c132l2
 rcases yaB i A.length with h1|h1
 ·have hd:decide ((i:Int)<(A.length:Int))=true:=decide_eq_true (by omega)
  cases h2:decide (A[i].2≤a) with
  | true =>
   simp -implicitDefEqProofs only [rX,↓rY,aA,↓reduceIte,Nat.reduceEqDiff,Nat.reduceAdd,reduceCtorEq,leE,leH,leB,leV,dQ,aD,aB,wfE,wfB,wfV,wfL,yah,yae,lG,hd,h2]
   refine fun _=>⟨⟨by omega,by omega⟩,h1,by simp only [lo,hi,maxLen] at *;omega,i+1,⟨⟨by omega,fun k hk hlt=>?_⟩,by omega⟩,by simp⟩
   by_cases c:k=i
   ·subst c;simpa using h2
   ·exact hP.h k hk (by omega)
  | false =>
   simp -implicitDefEqProofs only [rX,↓rY,↓reduceIte,Nat.reduceEqDiff,Nat.reduceAdd,yah,yae,lG,hd,h2]
   refine fun _=>⟨⟨by omega,by omega⟩,h1,hX i _ _ ⟨hP,fun _=>by simpa using h2⟩ ⟨rfl,rfl,rfl,rfl,rfl,rfl,rfl,rfl⟩⟩
 ·have hd:decide ((i:Int)<(A.length:Int))=false:=decide_eq_false (by omega)
  simp -implicitDefEqProofs only [rX,↓rY,aA,↓reduceIte,Nat.reduceEqDiff,Nat.reduceAdd,hd]
  exact fun _=>hX i _ _ ⟨hP,fun h=>absurd h (by omega)⟩ ⟨rfl,rfl,rfl,rfl,rfl,rfl,rfl,rfl⟩
theorem acA {X:Nat→St→Prop} {R:St→Prop} {E:List Int} {o:List Sp} {a b:Int} {n i j bb:Nat} {e:Env} (hm:B.length≤maxLen) (he:EN E i j n e) (hP:Past B j a)
  (hX:∀ j' e' b',At B j' a→EN E i j' n e'→X 6 ⟨e',hpM A B o++[.var [.i a,.i b]],b'⟩) :
  s7 [3] (fun N=>aw ⟨C0 Tryz.prog,[3],[],I0 Tryz.prog,fun k' xs s Z=>k'=3∧Y xs s Z,none⟩ c132l3 N X R) ⟨e,hpM A B o++[.var [.i a,.i b]],bb⟩:=by
 have e0:=he.e0;have e1:=he.e1;have e2:=he.e2;have e4:=he.e4;have e7:=he.e7;have e8:=he.e8;have e9:=he.e9;have e10:=he.e10
 refine aX (fun j:Nat=>⟨[(10,.ptr 5 0 0),(9,.i n),(8,.i j),(7,.i i),(4,.ro 1 (E.map encI)),(2,.ptr 2 0 0),(1,.ptr 1 0 0),(0,.itr 3)],hpM A B o++[.var [.i a,.i b]],0⟩) (fun j=>Past B j a) (fun j=>B.length-j) j hP ?_ ?_
 ·simp -implicitDefEqProofs only [rX,↓reduceIte,leE,leH,leB,leV,dQ,aD,aB,wfE,wfB,wfV,wfL,e0,e1,e2,e4,e7,e8,e9,e10,or_true]
 intro j hP
 have hl:=hP.l
 unfold c132l3
 rcases yaB j B.length with h1|h1
 ·have hd:decide ((j:Int)<(B.length:Int))=true:=decide_eq_true (by omega)
  cases h2:decide (B[j].2≤a) with
  | true =>
   simp -implicitDefEqProofs only [rX,↓rY,aA,↓reduceIte,Nat.reduceEqDiff,Nat.reduceAdd,reduceCtorEq,leE,leH,leB,leV,dQ,aD,aB,wfE,wfB,wfV,wfL,yah,yae,lG,hd,h2]
   refine fun _=>⟨⟨by omega,by omega⟩,h1,by simp only [lo,hi,maxLen] at *;omega,j+1,⟨⟨by omega,fun k hk hlt=>?_⟩,by omega⟩,by simp⟩
   by_cases c:k=j
   ·subst c;simpa using h2
   ·exact hP.h k hk (by omega)
  | false =>
   simp -implicitDefEqProofs only [rX,↓rY,↓reduceIte,Nat.reduceEqDiff,Nat.reduceAdd,yah,yae,lG,hd,h2]
   refine fun _=>⟨⟨by omega,by omega⟩,h1,hX j _ _ ⟨hP,fun _=>by simpa using h2⟩ ⟨rfl,rfl,rfl,rfl,rfl,rfl,rfl,rfl⟩⟩
 ·have hd:decide ((j:Int)<(B.length:Int))=false:=decide_eq_false (by omega)
  simp -implicitDefEqProofs only [rX,↓rY,aA,↓reduceIte,Nat.reduceEqDiff,Nat.reduceAdd,hd]
  exact fun _=>hX j _ _ ⟨hP,fun h=>absurd h (by omega)⟩ ⟨rfl,rfl,rfl,rfl,rfl,rfl,rfl,rfl⟩
theorem acH (hA:Vd A) (hB:Vd B) (hfx:fx=[3])
  (hY:∀ n o (hn:n<(pieces (cW A B)).length),Inv n o→∀ (e:Env) (bb:Nat) (Z:V→St→Prop) (i j:Nat),E94 A B i j (n+1) e →
   (∀ e' o' tl,E94 A B i j (n+1) e'→Inv (n+1) o'→Z (.b true) ⟨e',hpM A B o'++tl,bb⟩) →
   Y [.agg (enS (pieces (cW A B))[n]),.agg [.b (hasB A (pieces (cW A B))[n].1),.b (hasB B (pieces (cW A B))[n].1)]] ⟨e,hpM A B o++[.var (enS (pieces (cW A B))[n])],bb⟩ Z)
  (hK:∀ o,Inv (pieces (cW A B)).length o→K (hpM A B o)) (o:List Sp) (ho:Inv 0 o) :
  I0 Tryz.prog 132 [.itr 3,.ptr 1 0 0,.ptr 2 0 0] fx 3 Y (hpM A B o) K:=by
 refine Gr pol fx lw132 (by simp) ?_
 subst hfx
 have hal:=hA.len
 have hbl:=hB.len
 unfold c132
 simp -implicitDefEqProofs only [rX,↓rY,aA,cells?,↓reduceIte,Nat.reduceEqDiff,Nat.reduceAdd,reduceCtorEq,aE,b5,isD,Nat.reduceLT,aF]
 refine dW [.bro 1 ([A,B].map enL)] (.sl 0 0 (A++B).length) (.sl 6 0 (A++B).length) [.arr 2 ((A++B).map enS)] [.arr 2 ((A++B).map enS)] ?_ ?_ ?_ ?_ ?_ ?_
 ·have:=aaF [A,B] (by simp;omega)
  rw [show [A,B].flatten=A++B by simp] at this
  exact this
 ·simp [aG,aZ,aS,cJ,wkL,wk,wkB,blk,enL]
 ·simp [ren]
 ·simp [bW]
 ·simp [aD,aB]
 simp -implicitDefEqProofs only [rX,↓rY,aA,↓reduceIte]
 intro hm
 rw [←yag] at *
 have hcl:(A++B).length≤2199023255552:=by rw [yag];omega
 have hbd:∀ s∈A++B,(0≤s.1∧s.1≤1099511627776)∧0≤s.2∧s.2≤1099511627776:=fun s hs=>(yaz.1 hs).elim (hA.2 s) (hB.2 s)
 have hE:cW A B=Lib.compact (srt (dV (A++B))):=rfl
 generalize hC:A++B=C at *
 refine fE (.virt 1 1 (by decide) (.nilE 4 7 rfl (.refl _))) (fun k:Nat=>⟨[(16,.i k),(15,.i C.length),(14,.sl 6 0 C.length),(4,.sl 7 0 (dV (C.take k)).length),(2,.ptr 2 0 0),(1,.ptr 1 0 0),(0,.itr 3)],hpM A B o++[.dead,.arr 2 (C.map enS),.arr 1 ((dV (C.take k)).map encI)],0⟩) (fun k=>k≤C.length) (fun k=>C.length-k) 0 (by omega) ?_ ?_
 ·simp -implicitDefEqProofs only [rX,↓reduceIte,Nat.reduceEqDiff,reduceCtorEq,leE,leH,leB,leV,dQ,aD,aB,wfE,wfB,wfV,wfL,yaC,yaP,dV,List.flatMap_nil,or_true]
 intro k hk
 have hel:(dV (C.take k)).length=2*k:=by rw [rC,yai];omega
 unfold c132l0
 rcases yaB k C.length with hk1|hk1
 ·have hd:decide ((k:Int)<(C.length:Int))=true:=decide_eq_true (by omega)
  have hst:dV (C.take (k+1))=dV (C.take k)++[C[k].1,C[k].2]:=by
   unfold dV
   rw [yaq,yaj hk1,List.flatMap_append];simp
  simp -implicitDefEqProofs only [rX,↓rY,aA,cells?,splice,↓reduceIte,Nat.reduceEqDiff,fJ,Nat.reduceAdd,reduceCtorEq,aE,b5,leE,leH,leB,leV,dQ,aD,aB,wfE,wfB,wfV,wfL,aT,aY,kill,bO,St.kill,isD,Nat.reduceLT,yah,yae,cF,cQ,rE,lG,jR,iY,hd]
  have htk:yac (dV (C.take k)).length ((dV (C.take k)).map encI)=(dV (C.take k)).map encI:=yaa (by rw [yaE];exact yad _)
  refine ⟨⟨by omega,by omega⟩,hk1,by omega,by simp only [lo,hi];omega,k+1,⟨by omega,by omega⟩,?_⟩
  rw [htk,hst,yag,yas]
  exact ⟨⟨by simp,rfl⟩,.inl trivial,rfl⟩
 ·have hd:decide ((k:Int)<(C.length:Int))=false:=decide_eq_false (by omega)
  rw [yaa hk1]
  have hel2:(dV C).length=2*C.length:=rC
  simp -implicitDefEqProofs only [rX,↓rY,↓reduceIte,Nat.reduceEqDiff,Nat.reduceAdd,hd]
  refine eR [7] [.sl 0 0 (dV C).length] (.tup []) (.tup []) [.arr 1 ((dV C).map encI)] [.arr 1 ((srt (dV C)).map encI)] _ (abG (dV C) (by omega)) (by simp) (by simp [blk,bW]) (by simp [aG,aZ,aS,cJ,wkL,wk,pos]) (by simp) rfl rfl (by simp [aD,aB,bZ,bW]) ?_
  simp -implicitDefEqProofs only [rX,↓reduceIte,Nat.reduceEqDiff,Nat.reduceAdd,bZ,bW]
  have hsl:(srt (dV C)).length=(dV C).length:=Aq
  have h97:=abF (srt (dV C)) (by omega)
  rw [←hE] at h97
  have hEl:(cW A B).length≤(dV C).length:=by rw [←hsl,hE];exact uE
  generalize hZ:cW A B++yaN ((srt (dV C)).length-(cW A B).length) 0=Z at h97
  have hZt:yac (cW A B).length (Z.map encI)=(cW A B).map encI:=by
   rw [←hZ,yas,List.take_left' (by simp)]
  have hZl:(cW A B).length≤Z.length:=by rw [←hZ];simp
  rw [←hsl]
  refine eR [7] [.sl 0 0 (srt (dV C)).length] (.sl 0 0 (cW A B).length) (.sl 7 0 (cW A B).length) [.arr 1 ((srt (dV C)).map encI)] [.arr 1 (Z.map encI)] _ h97 (by simp) (by simp [blk,bW]) (by simp [aG,aZ,aS,cJ,wkL,wk,pos]) (by simp) rfl (by simp [ren,back]) (by simp [aD,aB,bZ,bW]) ?_
  simp -implicitDefEqProofs only [rX,aA,↓reduceIte,Nat.reduceAdd,bZ,bW]
  refine fE (.give (fun k=>k==7) (by simp) (.refl _)) (fun g:(Nat × Nat × Nat) × List Sp=>⟨[(9,.i (g.1.1+1:Nat)),(8,.i g.1.2.2),(7,.i g.1.2.1),(4,.ro 1 ((cW A B).map encI)),(2,.ptr 2 0 0),(1,.ptr 1 0 0),(0,.itr 3)],hpM A B g.2,0⟩)
   (fun g=>g.1.1≤(pieces (cW A B)).length∧(∀ h:g.1.1<(pieces (cW A B)).length,Past A g.1.2.1 (pieces (cW A B))[g.1.1].1∧Past B g.1.2.2 (pieces (cW A B))[g.1.1].1)∧Inv g.1.1 g.2) (fun g=>(pieces (cW A B)).length-g.1.1) ((0,0,0),o) ⟨yab _,fun h=>⟨⟨yab _,fun j hj h=>absurd h (Nat.not_lt_zero _)⟩,⟨yab _,fun j hj h=>absurd h (Nat.not_lt_zero _)⟩⟩,ho⟩ ?_ ?_
  ·simp -implicitDefEqProofs only [rX,↓reduceIte,Nat.reduceEqDiff,Nat.reduceAdd,reduceCtorEq,leE,leH,leB,leV,dQ,aD,aB,wfE,wfB,wfV,wfL,St.give,gvE,gvV,gvH,gvB,gvL,Nat.reduceBEq]
   rw [if_pos hZl,hZt]
   exact ⟨⟨rfl,rfl,rfl,rfl⟩,.inl trivial⟩
  rintro ⟨⟨n,i,j⟩,o⟩ ⟨hn,hP,hI⟩
  simp only at hn hP hI
  have hpl:=fX (E:=cW A B)
  have hasc:Asc (cW A B):=lI
  generalize hEE:cW A B=E at *
  unfold c132l1
  rcases yaB n (pieces E).length with hn1|hn1
  ·have hd:decide (((n+1:Nat):Int)<(E.length:Int))=true:=decide_eq_true (by omega)
   obtain ⟨hPA,hPB⟩:=hP hn1
   have hg:=l9 hn1
   have hlt:=sE hasc (yal hn1)
   have he1:n<E.length:=by omega
   have he2:n+1<E.length:=by omega
   have hm1:(((n+1:Nat):Int)-1).toNat=n:=by omega
   simp -implicitDefEqProofs only [rX,↓rY,rdK,aA,cells?,splice,↓reduceIte,Nat.reduceEqDiff,Nat.reduceAdd,aE,bG,isC,Nat.reduceLeDiff,yah,yae,Yd,hd,hm1]
   refine fun hmE=>⟨by simp only [lo,hi,maxLen] at *;omega,⟨by omega,by omega⟩,he1,⟨by omega,by omega⟩,he2,?_⟩
   have hp1:(pieces E)[n].1=E[n]:=by rw [hg]
   have hp2:enS (pieces E)[n]=[.i E[n],.i E[n+1]]:=by rw [hg];rfl
   have hYn:=hY n o hn1 hI
   rw [hp2,hp1] at hYn
   rw [hp1] at hPA hPB
   refine acB (by simp only [maxLen];omega) ⟨rfl,rfl,rfl,rfl,rfl,rfl,rfl,rfl⟩ hPA ?_
   intro i' e' b1 hAt he'
   simp -implicitDefEqProofs only [rX,↓reduceIte]
   refine acA (by simp only [maxLen];omega) he' hPB ?_
   clear he'
   intro j' e' b2 hBt he'
   have q0:=he'.e0;have q1:=he'.e1;have q2:=he'.e2;have q4:=he'.e4;have q7:=he'.e7;have q8:=he'.e8;have q9:=he'.e9;have q10:=he'.e10
   have hfa:=hAt.has hA.1
   have hfb:=hBt.has hB.1
   simp -implicitDefEqProofs only [rX,↓rY,rZ,↓rW,aA,cells?,splice,↓reduceIte,Nat.reduceEqDiff,Nat.reduceAdd,bG,Nat.reduceLeDiff,yah,yae,rE,Fe,Vn,Vi,Lh,q0,q1,q2,q7,q8,q10]
   have hmono:∀ h:n+1<(pieces E).length,E[n]≤(pieces E)[n+1].1:=fun h=>by
    rw [l9 h]
    have:=(yaY.1 hasc) n (n+1) he1 he2 (by omega)
    simp only
    omega
   rcases Decidable.em (i'<A.length) with a1|a1<;>rcases Decidable.em (j'<B.length) with c1|c1
   ·
    rw [dif_pos a1] at hfa
    rw [dif_pos c1] at hfb
    rw [hfa,hfb] at hYn
    have hdA:decide ((i':Int)<(A.length:Int))=true:=decide_eq_true (by omega)
    have hdB:decide ((j':Int)<(B.length:Int))=true:=decide_eq_true (by omega)
    simp only [hdA,hdB,kf,kg]
    refine fun _=>⟨⟨by omega,by omega⟩,a1,fun _=>⟨⟨by omega,by omega⟩,c1,⟨rfl,?_⟩⟩⟩
    refine hYn _ _ _ i' j' ⟨by first|rfl|exact q0,by first|rfl|exact q1,by first|rfl|exact q2,by rw [hEE];exact q4,by first|rfl|exact q7,by first|rfl|exact q8,by first|rfl|exact q9⟩ ?_
    intro e3 o3 tl he3 hI3
    have r0:=he3.e0;have r1:=he3.e1;have r2:=he3.e2;have r4:=he3.e4;have r7:=he3.e7;have r8:=he3.e8;have r9:=he3.e9
    simp -implicitDefEqProofs only [rX,↓rY,rZ,aA,↓reduceIte,Nat.reduceEqDiff,reduceCtorEq,leE,leH,leB,leV,dQ,aD,aB,wfE,wfB,wfV,wfL,rJ,r9]
    refine ⟨by simp only [lo,hi,maxLen] at *;omega,((n+1,i',j'),o3),⟨⟨by simp only;omega,fun h=>⟨hAt.toPast.mono (hmono h),hBt.toPast.mono (hmono h)⟩,hI3⟩,by simp only;omega⟩,?_⟩
    simp -implicitDefEqProofs only [rX,r0,r1,r2,r4,r7,r8]
    exact ⟨⟨by simp,by rw [hEE]⟩,.inl trivial⟩
   ·
    rw [dif_pos a1] at hfa
    rw [dif_neg c1] at hfb
    rw [hfa,hfb] at hYn
    have hdA:decide ((i':Int)<(A.length:Int))=true:=decide_eq_true (by omega)
    have hdB:decide ((j':Int)<(B.length:Int))=false:=decide_eq_false (by omega)
    simp only [hdA,hdB,kf,kg]
    refine fun _=>⟨⟨by omega,by omega⟩,a1,fun _=>⟨rfl,?_⟩⟩
    refine hYn _ _ _ i' j' ⟨by first|rfl|exact q0,by first|rfl|exact q1,by first|rfl|exact q2,by rw [hEE];exact q4,by first|rfl|exact q7,by first|rfl|exact q8,by first|rfl|exact q9⟩ ?_
    intro e3 o3 tl he3 hI3
    have r0:=he3.e0;have r1:=he3.e1;have r2:=he3.e2;have r4:=he3.e4;have r7:=he3.e7;have r8:=he3.e8;have r9:=he3.e9
    simp -implicitDefEqProofs only [rX,↓rY,rZ,aA,↓reduceIte,Nat.reduceEqDiff,reduceCtorEq,leE,leH,leB,leV,dQ,aD,aB,wfE,wfB,wfV,wfL,rJ,r9]
    refine ⟨by simp only [lo,hi,maxLen] at *;omega,((n+1,i',j'),o3),⟨⟨by simp only;omega,fun h=>⟨hAt.toPast.mono (hmono h),hBt.toPast.mono (hmono h)⟩,hI3⟩,by simp only;omega⟩,?_⟩
    simp -implicitDefEqProofs only [rX,r0,r1,r2,r4,r7,r8]
    exact ⟨⟨by simp,by rw [hEE]⟩,.inl trivial⟩
   ·
    rw [dif_neg a1] at hfa
    rw [dif_pos c1] at hfb
    rw [hfa,hfb] at hYn
    have hdA:decide ((i':Int)<(A.length:Int))=false:=decide_eq_false (by omega)
    have hdB:decide ((j':Int)<(B.length:Int))=true:=decide_eq_true (by omega)
    simp only [hdA,hdB,kf,kg]
    refine fun _=>fun _=>⟨⟨by omega,by omega⟩,c1,⟨rfl,?_⟩⟩
    refine hYn _ _ _ i' j' ⟨by first|rfl|exact q0,by first|rfl|exact q1,by first|rfl|exact q2,by rw [hEE];exact q4,by first|rfl|exact q7,by first|rfl|exact q8,by first|rfl|exact q9⟩ ?_
    intro e3 o3 tl he3 hI3
    have r0:=he3.e0;have r1:=he3.e1;have r2:=he3.e2;have r4:=he3.e4;have r7:=he3.e7;have r8:=he3.e8;have r9:=he3.e9
    simp -implicitDefEqProofs only [rX,↓rY,rZ,aA,↓reduceIte,Nat.reduceEqDiff,reduceCtorEq,leE,leH,leB,leV,dQ,aD,aB,wfE,wfB,wfV,wfL,rJ,r9]
    refine ⟨by simp only [lo,hi,maxLen] at *;omega,((n+1,i',j'),o3),⟨⟨by simp only;omega,fun h=>⟨hAt.toPast.mono (hmono h),hBt.toPast.mono (hmono h)⟩,hI3⟩,by simp only;omega⟩,?_⟩
    simp -implicitDefEqProofs only [rX,r0,r1,r2,r4,r7,r8]
    exact ⟨⟨by simp,by rw [hEE]⟩,.inl trivial⟩
   ·
    rw [dif_neg a1] at hfa
    rw [dif_neg c1] at hfb
    rw [hfa,hfb] at hYn
    have hdA:decide ((i':Int)<(A.length:Int))=false:=decide_eq_false (by omega)
    have hdB:decide ((j':Int)<(B.length:Int))=false:=decide_eq_false (by omega)
    simp only [hdA,hdB,kf,kg]
    refine fun _=>fun _=>⟨rfl,?_⟩
    refine hYn _ _ _ i' j' ⟨by first|rfl|exact q0,by first|rfl|exact q1,by first|rfl|exact q2,by rw [hEE];exact q4,by first|rfl|exact q7,by first|rfl|exact q8,by first|rfl|exact q9⟩ ?_
    intro e3 o3 tl he3 hI3
    have r0:=he3.e0;have r1:=he3.e1;have r2:=he3.e2;have r4:=he3.e4;have r7:=he3.e7;have r8:=he3.e8;have r9:=he3.e9
    simp -implicitDefEqProofs only [rX,↓rY,rZ,aA,↓reduceIte,Nat.reduceEqDiff,reduceCtorEq,leE,leH,leB,leV,dQ,aD,aB,wfE,wfB,wfV,wfL,rJ,r9]
    refine ⟨by simp only [lo,hi,maxLen] at *;omega,((n+1,i',j'),o3),⟨⟨by simp only;omega,fun h=>⟨hAt.toPast.mono (hmono h),hBt.toPast.mono (hmono h)⟩,hI3⟩,by simp only;omega⟩,?_⟩
    simp -implicitDefEqProofs only [rX,r0,r1,r2,r4,r7,r8]
    exact ⟨⟨by simp,by rw [hEE]⟩,.inl trivial⟩
  ·have hd:decide (((n+1:Nat):Int)<(E.length:Int))=false:=decide_eq_false (by omega)
   have hne:n=(pieces E).length:=by omega
   subst hne
   have:=hK o hI
   simp -implicitDefEqProofs only [rX,↓rY,↓reduceIte,Nat.reduceEqDiff,Nat.reduceAdd,hd]
   exact fun _=>this
end
end Go.Fx.H
namespace Go.Fx.H
open Go Go.Fx Go.Proofs Go.Fx.R
set_option maxRecDepth 20000
theorem afC (A B:List Sp):Ok 86 [aR A,aR B] (IsA (.clo 132 [.ptr 0 0 0,.ptr 1 0 0]) [.var [aR A],.var [aR B]]):=by
 refine a6 lw86 (by simp) ?_
 unfold c86
 simp -implicitDefEqProofs only [rX,↓rY,aA,cells?,↓reduceIte,Nat.reduceEqDiff,Nat.reduceAdd,reduceCtorEq,aE,aO,aP,leH,leB,leV,dQ,aD,aB,wfB,wfV,wfL,Nat.reduceLeDiff,cxN,aF,bN]
theorem Ka {l:List Sp} {n:Nat} (h:n=l.length):yac n (l.map enS)=l.map enS:=yaa (by simp [h])
def oR (f:Bool→Bool→Bool) (A B:List Sp) (n:Nat):List Sp:=((pieces (cW A B)).take n).filter fun s=>f (hasB A s.1) (hasB B s.1)
theorem Ke {f:Bool→Bool→Bool} {A B:List Sp} {n:Nat} (h:n<(pieces (cW A B)).length):oR f A B (n+1)=oR f A B n++if f (hasB A (pieces (cW A B))[n].1) (hasB B (pieces (cW A B))[n].1) then [(pieces (cW A B))[n]] else []:=by
 unfold oR
 rw [yaq,yaj h,List.filter_append,Option.toList_some]
 congr 1
 rw [List.filter_cons,List.filter_nil]
theorem Mr {f:Bool→Bool→Bool} {A B:List Sp}:ofS (oR f A B (pieces (cW A B)).length)=Ru f A B:=by
 unfold oR Ru
 rw [yaZ]
theorem Cw {f:Bool→Bool→Bool} {A B:List Sp} {n:Nat} (hA:Vd A) (hB:Vd B):(oR f A B n).length≤4398046511104:=by
 have h1:(oR f A B n).length≤(pieces (cW A B)).length:=by
  unfold oR
  refine Nat.le_trans (yby _ _) ?_
  rw [yai];omega
 have h2:=fX (E:=cW A B)
 have h3:(cW A B).length≤(dV (A++B)).length:=Rl
 rw [rC,yag] at h3
 have:=hA.len
 have:=hB.len
 omega
theorem Mq {f:Bool→Bool→Bool} {A B:List Sp} {n:Nat} (hA:Vd A) (hB:Vd B):Mid (oR f A B n):=by
 intro s hs
 unfold oR at hs
 rw [List.mem_filter] at hs
 obtain ⟨_,h1,_,_⟩:=sE lI (ybk hs.1)
 unfold cW at h1
 rw [j5.2,nA] at h1
 obtain ⟨t,ht,h2⟩:=h1
 have:(0≤t.1∧t.1≤1099511627776)∧0≤t.2∧t.2≤1099511627776:=(yaz.1 ht).elim (hA.2 t) (hB.2 t)
 omega
end Go.Fx.H
namespace Go.Fx.H
open Go Go.Fx Go.Proofs Go.Fx.R
set_option maxRecDepth 20000
theorem afN (A B:List Sp) (hA:Vd A) (hB:Vd B):Ok 46 [aR A,aR B] (Is (aR (m9 A B))):=by
 rw [←Kd hA.1,←Mr]
 refine a6 lw46 (by simp) ?_
 unfold c46
 simp -implicitDefEqProofs only [rX,↓rY,aA,cells?,↓reduceIte,Nat.reduceEqDiff,reduceCtorEq,aE,cxN,aF]
 refine dW [aR A,aR B] (.clo 132 [.ptr 0 0 0,.ptr 1 0 0]) (.clo 132 [.ptr 1 0 0,.ptr 2 0 0]) [.var [aR A],.var [aR B]] [.var [aR A],.var [aR B]] (afC A B) ⟨⟨trivial,trivial,trivial⟩,⟨rfl,rfl⟩,⟨rfl,rfl⟩,trivial⟩ (by simp [ren,cB]) (by simp [bW,cB,ren]) trivial ?_
 simp -implicitDefEqProofs only [rX]
 refine uY 3 rfl rfl trivial ?_
 refine rI (as':=[.itr 3,.ptr 1 0 0,.ptr 2 0 0]) (h':=hpM A B []) rfl ⟨_,.virt 1 2 (by decide) (.nilB 0 [.nil] [.sl 4 0 0] rfl ⟨rfl,fun i a b h1 h2=>?_⟩ (.refl _)),?_⟩ (acH hA hB rfl (Inv:=fun n o=>o=oR (fun x y=>x&&!y) A B n) ?_ ?_ _ ?_)
 ·match i with
  | 0=>simp at h1 h2;subst h1 h2;exact .inr ⟨rfl,_,rfl⟩
  | i+1=>simp at h1
 ·simp -implicitDefEqProofs only [rX,↓reduceIte,Nat.reduceEqDiff,Nat.reduceAdd,reduceCtorEq,leE,leH,leB,leV,dQ,aD,aB,wfE,wfB,wfV,wfL,aF,yaP,or_true]
 ·rintro n o hn rfl e bb Z i j he hZ
  have hst:=Ke (f:=fun x y=>x&&!y) (A:=A) (B:=B) hn
  have hlen:=Cw (f:=fun x y=>x&&!y) (n:=n) hA hB
  have hnext:∀ (e':Env) o',E94 A B i j (n+1) e'→o'=oR (fun x y=>x&&!y) A B (n+1)→∀ tl,Z (.b true) ⟨e',hpM A B o'++tl,bb⟩:=fun e' o' h1 h2 tl=>hZ e' o' tl h1 h2
  have hkill:E94 A B i j (n+1) (aT [4] e):=by
   refine ⟨?_,?_,?_,?_,?_,?_,?_⟩<;>rw [bF]
   ·rw [he.e0];simp [kill]
   ·rw [he.e1];simp [kill]
   ·rw [he.e2];simp [kill]
   ·rw [he.e4];rfl
   ·rw [he.e7];rfl
   ·rw [he.e8];rfl
   ·rw [he.e9];rfl
  generalize oR (fun x y=>x&&!y) A B n=o at *
  have htk:yac o.length (o.map enS)=o.map enS:=Ka rfl
  refine Ck 6 rfl rfl rfl ?_
  unfold c46a0
  cases hfa:hasB A (pieces (cW A B))[n].1 with
  | false =>
   rw [hfa] at hst
   simp -implicitDefEqProofs only [rX,↓rY,rZ,↓rW,aA,cells?,splice,↓reduceIte,Nat.reduceEqDiff,Nat.reduceAdd,aE,isC,cF,jR,gV]
   unfold c46r0
   simp -implicitDefEqProofs only [rX,↓rY,rZ,↓rW,aA,cells?,splice,↓reduceIte,Nat.reduceEqDiff,Nat.reduceAdd,reduceCtorEq,aE,b5,aT,aY,kill,bO,St.kill,isC,Nat.reduceLT,yba,cF,cQ,oL,iY,show yar 0=0 from rfl,show yar 1=1 from rfl,ybl]
   refine ⟨by omega,?_⟩
   exact hnext e o he (by rw [hst];simp) [_,_,_,_]
  | true =>
   cases hfb:hasB B (pieces (cW A B))[n].1 with
   | false =>
    rw [hfa,hfb] at hst
    simp -implicitDefEqProofs only [rX,↓rY,rZ,↓rW,aA,cells?,splice,↓reduceIte,Nat.reduceEqDiff,Nat.reduceAdd,aE,isC,cF,jR,gV]
    unfold c46r0
    simp -implicitDefEqProofs only [rX,↓rY,rZ,↓rW,aA,cells?,splice,↓reduceIte,Nat.reduceEqDiff,Nat.reduceAdd,reduceCtorEq,aE,b5,aT,aY,kill,bO,St.kill,isC,Nat.reduceLT,yba,cF,cQ,oL,iY,show yar 0=0 from rfl,show yar 1=1 from rfl,ybl]
    refine ⟨by omega,by omega,by omega,?_⟩
    have:=hnext _ (o++[(pieces (cW A B))[n]]) hkill (by rw [hst];simp) [.var (enS (pieces (cW A B))[n]),.dead,.var (enS (pieces (cW A B))[n]),.var [.b true,.b false],.arr 2 [enS (pieces (cW A B))[n]],.dead]
    simp only [hpM,yag,yaI,ybb,yas,List.map_cons,List.map_nil,yaR,yaJ,ybm] at this
    rw [htk]
    exact this
   | true =>
    rw [hfa,hfb] at hst
    simp -implicitDefEqProofs only [rX,↓rY,rZ,↓rW,aA,cells?,splice,↓reduceIte,Nat.reduceEqDiff,Nat.reduceAdd,aE,isC,cF,jR,gV]
    unfold c46r0
    simp -implicitDefEqProofs only [rX,↓rY,rZ,↓rW,aA,cells?,splice,↓reduceIte,Nat.reduceEqDiff,Nat.reduceAdd,reduceCtorEq,aE,b5,aT,aY,kill,bO,St.kill,isC,Nat.reduceLT,yba,cF,cQ,oL,iY,show yar 0=0 from rfl,show yar 1=1 from rfl,ybl]
    refine ⟨by omega,by omega,?_⟩
    exact hnext e o he (by rw [hst];simp) [_,_,_,_]
 ·rintro o rfl
  have hlen:=Cw (f:=fun x y=>x&&!y) (n:=(pieces (cW A B)).length) hA hB
  have hmid:=Mq (f:=fun x y=>x&&!y) (n:=(pieces (cW A B)).length) hA hB
  simp -implicitDefEqProofs only [rX,↓rY,rZ,↓rW,↓reduceIte,Nat.reduceAdd,aB,wfE,wfB,wfV,wfL]
  generalize oR (fun x y=>x&&!y) A B (pieces (cW A B)).length=o at *
  refine xO o rfl hlen hmid rfl rfl (by simp) trivial ?_
  simp -implicitDefEqProofs only [rX,↓reduceIte,reduceCtorEq,aO,aP,wfV,aT,aY,kill,bO,St.kill]
 ·simp [oR]
theorem d5 {cx:Cx} {f:FuncId} {args:List V} {e:Env} {h:List Blk} {b:Nat} {K:V→St→Prop} (ι mv M:List Nat) (xs:List V) (x x':V) (h0 h1 h':List Blk) (e':Env) (hC:cx.C f xs h0 mv (IsA x h1))
  (hι:ι.Nodup∧∀ k∈ι,k<h.length∧k∉cx.bn) (hM:mv.filterMap (ι[·]?)=M∧∀ j∈mv,∀ k,ι[j]?=some k→k∉cx.fx) (r0:ι.map (fun k=>bW (pos ι) (blk h k))=h0) (ha:aG h (pos ι) args∧wkL xs (aS h (pos ι) args))
  (hh:bZ ι (h1.map (bW (back ι h.length))) (h.map (aY M))=h') (hx:ren (back ι h.length) x=x') (he:aT M e=e') (keep:aD cx.fx h') (h3:K x' ⟨e',h',b⟩):eS cx f args ⟨e,h,b⟩ K:=by
 refine ⟨ι,xs,mv,IsA x h1,⟨hι,hM.2⟩,ha.1,ha.2,by rw [r0];exact hC,?_⟩
 rintro r h2 ⟨rfl,rfl⟩ _
 rw [hM.1,hh,hx,he]
 exact ⟨keep,h3⟩
end Go.Fx.H
namespace Go.Fx.H
open Go Go.Fx Go.Proofs Go.Fx.R
set_option maxRecDepth 20000
def nb (n b:Nat):Nat:=(n+b-1)/b
theorem s6 {n b j:Nat} (hb:1≤b):j*b<n↔j<nb n b:=by
 unfold nb
 have h:=Nat.le_div_iff_mul_le (x:=j+1) (y:=n+b-1) (k:=b) (by omega)
 rw [ybn] at h
 omega
theorem vI {n b:Nat} (hb:1≤b):nb n b≤n:=by
 rcases yau (nb n b) with h|h
 ·omega
 ·have:=(s6 (n:=n) (j:=nb n b-1) hb).2 (by omega)
  have h2:nb n b-1≤(nb n b-1)*b:=ybc _ hb
  omega
theorem Of {n b:Nat} (hb:1≤b):mI n b=nb n b:=by
 rw [By (by omega) (by omega)]
 unfold nb
 have:((n:Int)+b-1)=((n+b-1:Nat):Int):=by omega
 rw [this,Int.natCast_ediv]
def bk (t:Bs) (b j:Nat):Bs:=(t.drop (j*b)).take b
theorem Qe {t:Bs} {b j:Nat}:(t.take (min t.length (j*b+b))).drop (j*b)=bk t b j:=by
 unfold bk
 rw [List.drop_take]
 rcases Nat.le_total (j*b+b) t.length with h|h
 ·rw [Nat.min_eq_right h];congr 1;omega
 ·rw [Nat.min_eq_left h,yaa (by simp),yaa (by simp;omega)]
theorem xP {t:Bs} {b j:Nat}:(bk t b j).length=min b (t.length-j*b):=by simp [bk]
def Ky (t:Bs) (b:Nat):List Bs:=(List.range (nb t.length b)).map (bk t b)
def lvs (t:Bs) (b:Nat):List Bs:=(Ky t b).map lf
theorem Qd {t:Bs} {b:Nat}:(Ky t b).length=nb t.length b:=by simp [Ky]
theorem fP {t:Bs} {b:Nat}:(lvs t b).length=nb t.length b:=by simp [lvs,Qd]
theorem pT {t:Bs} {b:Nat}:D16 (lvs t b):=by
 intro d hd
 obtain ⟨x,_,rfl⟩:=ybo.1 hd
 exact jX
structure EB (k a c b i:Nat) (e:Env):Prop where
 e0:get e 0=.itr k
 e1:get e 1=.ptr a 0 0
 e2:get e 2=.ptr c 0 0
 e4:get e 4=.i ((i*b:Nat):Int)
structure ItB {G:Type} (hp:G→List Blk) (L:Nat) (t:Bs) (b:Nat) (k a c:Nat) (fx:List Nat):Prop where
 hb:1≤b∧b≤1000000000
 hm:t.length≤1000000000
 len:∀ g,(hp g).length=L
 ha:∀ g tl,(hp g++tl)[a]?=some (.var [sv t])
 hc:∀ g tl,(hp g++tl)[c]?=some (.var [.i b])
 kp:∀ g,aD fx (hp g)
 wf:∀ g,wfB (hp g) (hp g)
 lk:∀ g,∃ t e,(hp g)[k]?=some (.rcd t e)
section
variable {G:Type} {hp:G→List Blk} {L:Nat} {t:Bs} {b k a c:Nat} {fx:List Nat} {Y:Yt} {K:List Blk→Prop} {Inv:Nat→G→Prop}
abbrev aaB {G:Type} (hp:G→List Blk) (b k a c:Nat) (g:Nat × G):St:=⟨[(4,.i ((g.1*b:Nat):Int)),(0,.itr k),(1,.ptr a 0 0),(2,.ptr c 0 0)],hp g.2,0⟩
theorem Oy (H:ItB hp L t b k a c fx)
  (hY:∀ i g,i<nb t.length b→Inv i g→∀ (e:Env) (bb:Nat) (Z:V→St→Prop),EB k a c b i e →
   (∀ e' g' tl,EB k a c b i e'→Inv (i+1) g'→Z (.b true) ⟨e',hp g'++tl,bb⟩)→Y [.i ((i*b:Nat):Int),sv (bk t b i)] ⟨e,hp g,bb⟩ Z)
  (hK:∀ g,Inv (nb t.length b) g→K (hp g)) (g:G) (hg:Inv 0 g) :
  I0 Tryz.prog 111 [.itr k,.ptr a 0 0,.ptr c 0 0] fx k Y (hp g) K:=by
 refine Gr pol fx lw111 (by simp) ?_
 have hlen:=H.len g
 have a0:=H.ha g []
 have c0:=H.hc g []
 rw [yap] at a0 c0
 obtain ⟨tk,ek,lk⟩:=H.lk g
 unfold c111
 simp -implicitDefEqProofs only [rX,aA,Nat.reduceAdd,aF]
 refine aX (aaB hp b k a c) (fun g=>g.1≤nb t.length b∧Inv g.1 g.2) (fun g=>nb t.length b-g.1) (0,g) ⟨yab _,hg⟩ ?_ ?_
 ·simp -implicitDefEqProofs only [rX,↓reduceIte,Nat.reduceEqDiff,reduceCtorEq,leE,aB,wfE,wfV,lk,a0,c0,eq_true (H.kp g),eq_true (H.wf g),Nat.zero_mul,yaC]
  exact aU _
 rintro ⟨i,g⟩ ⟨hi,hI⟩
 simp only at hi hI
 have hlen:=H.len g
 have go:∀ j tl,(hp g++tl)[L+j]?=tl[j]?:=fun j tl=>by
  rw [yaQ (by omega),hlen];congr 1;omega
 have a0:=H.ha g []
 have c0:=H.hc g []
 rw [yap] at a0 c0
 unfold c111l0 aaB
 have hbl:=H.hb
 have hml:=H.hm
 rcases yaB i (nb t.length b) with hi1|hi1
 ·have hlt:=(s6 hbl.1).2 hi1
  have hd:decide (((i*b:Nat):Int)<(t.length:Int))=true:=decide_eq_true (by omega)
  simp -implicitDefEqProofs only [rX,↓rY,rZ,↓rW,zF,↓reduceIte,Nat.reduceEqDiff,reduceCtorEq,cL,yae,bR,Fe,Qz,Jx,Qw,hd,hlen,a0,c0]
  have e1:(min (t.length:Int) (((i*b:Nat):Int)+(b:Int))).toNat=min t.length (i*b+b):=by omega
  have e2:(sb t).extract (i*b) (min (t.length:Int) (((i*b:Nat):Int)+(b:Int))).toNat=sb (bk t b i):=by
   rw [e1,fW,Qe]
  rw [e2]
  refine ⟨by simp only [lo,Fx.hi];omega,by omega,?_⟩
  refine ⟨rfl,?_⟩
  refine hY i g hi1 hI _ _ _ ⟨rfl,rfl,rfl,rfl⟩ ?_
  intro e' g' tl he' hI'
  have c1:=H.hc g' tl
  have f1:=he'.e0;have f2:=he'.e1;have f3:=he'.e2;have f4:=he'.e4
  simp -implicitDefEqProofs only [rX,↓rY,rZ,↓reduceIte,Nat.reduceEqDiff,reduceCtorEq,leE,aB,wfE,wfV,rJ,f1,f2,f3,f4,c1]
  refine ⟨by simp only [lo,Fx.hi];omega,(i+1,g'),⟨⟨by show i+1≤_;omega,hI'⟩,by show nb t.length b-(i+1)<nb t.length b-i;omega⟩,?_⟩
  have e5:((i*b:Nat):Int)+(b:Int)=(((i+1)*b:Nat):Int):=by rw [ybn];omega
  obtain ⟨tk,ek,lk⟩:=H.lk g'
  have a1:=H.ha g' []
  have c2:=H.hc g' []
  rw [yap] at a1 c2
  rw [e5]
  simp -implicitDefEqProofs only [rX,a1,c2,eq_true (Bh (hp g') tl),eq_true (H.kp g'),eq_true (H.wf g'),lk]
 ·have hlt:¬i*b<t.length:=fun h=>by have:=(s6 hbl.1).1 h;omega
  have hd:decide (((i*b:Nat):Int)<(t.length:Int))=false:=decide_eq_false (by omega)
  have hie:i=nb t.length b:=by omega
  subst hie
  have:=hK g hI
  simp -implicitDefEqProofs only [rX,↓rY,↓reduceIte,Nat.reduceEqDiff,reduceCtorEq,bR,hd,a0]
  exact this
end
theorem Xa (t:Bs) (b:Nat):Ok 60 [sv t,.i b] (IsA (.clo 111 [.ptr 0 0 0,.ptr 1 0 0]) [.var [sv t],.var [.i b]]):=by
 refine a6 lw60 (by simp) ?_
 unfold c60
 simp -implicitDefEqProofs only [rX,↓rY,aA,cells?,↓reduceIte,Nat.reduceEqDiff,Nat.reduceAdd,reduceCtorEq,aE,aO,aP,leH,leB,leV,dQ,aD,aB,wfB,wfV,wfL,Nat.reduceLeDiff,cxN,aF,bN]
abbrev hpL (t:Bs) (b:Nat) (i:Nat):List Blk:=[.var [.sl 4 0 i],.var [sv t],.var [.i b],.rcd .ready [(10,.clo 111 [.ptr 1 0 0,.ptr 2 0 0]),(5,.ptr 0 0 0),(0,sv t),(1,.i b)],.arr 16 (((lvs t b).take i).map us)]
theorem itL (t:Bs) (b:Nat) (hb:1≤b∧b≤1000000000) (ht:t.length≤1000000000):ItB (hpL t b) 5 t b 3 1 2 [3]:=by
 refine ⟨hb,ht,fun g=>rfl,fun g tl=>rfl,fun g tl=>rfl,fun g=>⟨trivial,trivial⟩,fun g=>?_,fun g=>⟨_,_,rfl⟩⟩
 simp -implicitDefEqProofs only [rX,aB,wfE,wfB,wfV,wfL]
theorem Si (t:Bs) (b:Nat) (hb:1≤b∧b≤1000000000) (ht:t.length≤1000000000):Ok 33 [sv t,.i b] (Is (.ro 16 ((lvs t b).map us))):=by
 refine eM (R:=fun q hs=>wk (.ro 16 ((lvs t b).map us)) (gvV (fun _=>true) hs q)) ?_ fun _ _ h=>h
 refine a6 lw33 (by simp) ?_
 unfold c33
 simp -implicitDefEqProofs only [rX,↓rY,aA,cells?,↓reduceIte,Nat.reduceEqDiff,reduceCtorEq,aE,cxN,aF]
 refine dW [sv t,.i b] (.clo 111 [.ptr 0 0 0,.ptr 1 0 0]) (.clo 111 [.ptr 1 0 0,.ptr 2 0 0]) [.var [sv t],.var [.i b]] [.var [sv t],.var [.i b]] (Xa t b) ⟨⟨trivial,trivial,trivial⟩,rfl,rfl,trivial⟩ (by simp [ren,cB]) (by simp [bW,cB,ren]) trivial ?_
 simp -implicitDefEqProofs only [rX]
 refine uY 3 rfl rfl trivial ?_
 refine rI (as':=[.itr 3,.ptr 1 0 0,.ptr 2 0 0]) (h':=hpL t b 0) rfl ⟨_,.virt 1 16 (by decide) (.nilB 0 [.nil] [.sl 4 0 0] rfl ⟨rfl,fun i a b h1 h2=>?_⟩ (.refl _)),?_⟩ (Oy (Inv:=fun i g=>g=i) (itL t b hb ht) ?_ ?_ _ rfl)
 ·match i with
  | 0=>simp at h1 h2;subst h1 h2;exact .inr ⟨rfl,_,rfl⟩
  | i+1=>simp at h1
 ·simp -implicitDefEqProofs only [rX,↓reduceIte,Nat.reduceEqDiff,Nat.reduceAdd,reduceCtorEq,leE,leH,leB,leV,dQ,aD,aB,wfE,wfB,wfV,wfL,aF,yaP,or_true]
 ·rintro i g hi rfl e bb Z he hZ
  refine Ck 5 rfl rfl rfl ?_
  unfold c33a0
  simp -implicitDefEqProofs only [rX,rZ,↓rW,↓reduceIte,Nat.reduceAdd,gV]
  unfold c33r0
  simp -implicitDefEqProofs only [rX,↓rY,rdK,↓reduceIte,Nat.reduceEqDiff,Nat.reduceAdd]
  have hbl:(bk t b g).length≤1000000000:=by rw [xP];omega
  refine aC (Xc (bk t b g) (by omega)) ⟨⟨trivial,trivial⟩,rfl,trivial⟩ (by simp [ren,aQ]) ⟨trivial,trivial,trivial⟩ ?_
  obtain ⟨u1,u2,u3⟩:=dR (jX (t:=bk t b g))
  have hl:(lvs t b).length=nb t.length b:=fP
  have hlg:(yac g (lvs t b)).length=g:=by rw [yai];omega
  simp -implicitDefEqProofs only [rX,↓rY,rZ,↓rW,cells?,splice,↓reduceIte,Nat.reduceEqDiff,reduceCtorEq,aE,b5,aT,aY,kill,bO,St.kill,isC,Nat.reduceLT,u1,Fj,hlg]
  have hlt:=(s6 hb.1).2 hi
  have h1:g≤g*b:=ybc _ hb.1
  refine ⟨by omega,?_⟩
  have h2:yac g (yaw us (yac g (lvs t b)))++[us (lf (bk t b g))]=((lvs t b).take (g+1)).map us:=by
   rw [yaa (by simp;omega),yaq,yaj (by omega),yas]
   congr 1
   simp [lvs,Ky]
  rw [h2]
  refine hZ (aT [4] e) (g+1) [Blk.dead,Blk.arr 16 [us (lf (bk t b g))],Blk.dead] ?_ rfl
  refine ⟨?_,?_,?_,?_⟩<;>rw [bF]
  ·rw [he.e0];simp [kill]
  ·rw [he.e1];simp [kill]
  ·rw [he.e2];simp [kill]
  ·rw [he.e4];rfl
 ·rintro g rfl
  have hl:(lvs t b).length=nb t.length b:=fP
  simp -implicitDefEqProofs only [rX,↓rY,rZ,↓rW,↓reduceIte,Nat.reduceEqDiff,Nat.reduceAdd,aO,aP,aD,aB,wfE,wfB,wfV,wfL,cO]
  refine ⟨[.dead,.dead,.dead,.dead,.arr 16 ((lvs t b).map us)],⟨?_,yab _,trivial,trivial⟩,?_⟩
  ·rw [yaa (by omega)]
   exact ⟨trivial,trivial,trivial,trivial,aM _,trivial⟩
  ·rw [←hl]
   simp [gvV,gvB,wk,wkR,blk]
   exact yaa (by simp)
end Go.Fx.H
namespace Go.Fx.H
open Go Go.Fx Go.Proofs Go.Fx.R
set_option maxRecDepth 20000
theorem Oo {t:Bs} {b g:Nat} (h:g<nb t.length b):yac g (yaw us (yac g (lvs t b)))++[us (lf (bk t b g))]=((lvs t b).take (g+1)).map us:=by
 have hl:(lvs t b).length=nb t.length b:=fP
 rw [yaa (by simp;omega),yaq,yaj (by omega),yas]
 congr 1
 simp [lvs,Ky]
theorem Xf (t:Bs) (b:Nat) (hb:1≤b∧b≤1000000000) (ht:t.length≤1000000000):Ok 34 [sv t,.i b] (Is (.ro 16 ((lvs t b).map us))):=by
 refine eM (R:=fun q hs=>wk (.ro 16 ((lvs t b).map us)) (gvV (fun _=>true) hs q)) ?_ fun _ _ h=>h
 refine a6 lw34 (by simp) ?_
 unfold c34
 simp -implicitDefEqProofs only [rX,aA,cxN,aF]
 refine pU (.virt 1 16 (by decide) (.nilE 5 0 rfl (.refl _))) (fun g:Nat=>(⟨[(6,.i ((g*b:Nat):Int)),(5,.sl 0 0 g),(0,sv t),(1,.i b)],[.arr 16 (((lvs t b).take g).map us)],0⟩:St)) (fun g=>g≤nb t.length b) (fun g=>nb t.length b-g) 0 (yab _) ?_ ?_
 ·exact ⟨by simp -implicitDefEqProofs only [rX,↓reduceIte,Nat.reduceEqDiff,reduceCtorEq,leE,Nat.zero_mul,yaC],aU _,trivial,by simp -implicitDefEqProofs only [rX,aB,wfE,wfV],by simp -implicitDefEqProofs only [wfB]⟩
 intro g hg N hN
 have hl:(lvs t b).length=nb t.length b:=fP
 have hlg:(yac g (lvs t b)).length=g:=by rw [yai];omega
 unfold c34l0
 rcases yaB g (nb t.length b) with hi|hi
 ·have hlt:=(s6 hb.1).2 hi
  have h1:g≤g*b:=ybc _ hb.1
  have hd:decide (((g*b:Nat):Int)<(t.length:Int))=true:=decide_eq_true (by omega)
  have e1:(min (t.length:Int) (((g*b:Nat):Int)+(b:Int))).toNat=min t.length (g*b+b):=by omega
  have e2:(sb t).extract (g*b) (min (t.length:Int) (((g*b:Nat):Int)+(b:Int))).toNat=sb (bk t b g):=by
   rw [e1,fW,Qe]
  simp -implicitDefEqProofs only [rX,↓rY,zF,↓reduceIte,Nat.reduceEqDiff,reduceCtorEq,cL,yae,bR,hd,e2]
  refine ⟨by simp only [lo,Fx.hi];omega,by omega,?_⟩
  have hbl:(bk t b g).length≤1000000000:=by rw [xP];omega
  refine aC (aaG (bk t b g) (by omega)) ⟨⟨trivial,trivial⟩,rfl,trivial⟩ (by simp [ren,aQ]) trivial ?_
  obtain ⟨u1,u2,u3⟩:=dR (jX (t:=bk t b g))
  simp -implicitDefEqProofs only [rX,↓rY,cells?,↓reduceIte,Nat.reduceEqDiff,Nat.reduceAdd,reduceCtorEq,aE,b5,aT,aY,kill,St.kill,Nat.reduceLT,u1,Fj,hlg]
  refine ⟨by omega,by simp only [lo,Fx.hi];omega,?_⟩
  rw [Oo hi]
  refine hN _ (g+1) (by omega) (by omega) ?_
  have e5:((g*b:Nat):Int)+(b:Int)=(((g+1)*b:Nat):Int):=by rw [ybn];omega
  rw [e5]
  exact ⟨by simp -implicitDefEqProofs only [rX,↓reduceIte,Nat.reduceEqDiff,reduceCtorEq,leE],⟨aM _,trivial⟩,trivial,by simp -implicitDefEqProofs only [rX,aB,wfE,wfV],by simp -implicitDefEqProofs only [wfB]⟩
 ·have hlt:¬g*b<t.length:=fun h=>by have:=(s6 hb.1).1 h;omega
  have hd:decide (((g*b:Nat):Int)<(t.length:Int))=false:=decide_eq_false (by omega)
  have hie:g=nb t.length b:=by omega
  subst hie
  simp -implicitDefEqProofs only [rX,↓rY,↓reduceIte,Nat.reduceEqDiff,reduceCtorEq,aO,aP,aD,aB,wfV,bR,hd,cO]
  refine ⟨[.arr 16 ((lvs t b).map us)],⟨?_,yab _,trivial,trivial⟩,?_⟩
  ·rw [yaa (by omega)]
   exact ⟨aM _,trivial⟩
  ·rw [←hl]
   simp [gvV,gvB,wk,wkR,blk]
   exact yaa (by simp)
def mkE (t:Bs) (b:Int):Int:=if b<1∨4096<b then 1 else if 65536<(t.length:Int)∨4096<mI t.length b then 2 else 0
def mkM (t:Bs) (b:Int):Man:=if mkE t b=0 then ⟨t.length,b,root (lvs t b.toNat)⟩ else ⟨0,0,yaN 16 0⟩
def gS:Man:=⟨0,0,yaN 16 0⟩
theorem zM:[V.v (Value.int IntKind.i64 0),V.v (Value.int IntKind.i64 0),V.v (Value.int IntKind.u8 0),V.v (Value.int IntKind.u8 0),V.v (Value.int IntKind.u8 0),V.v (Value.int IntKind.u8 0),V.v (Value.int IntKind.u8 0),V.v (Value.int IntKind.u8 0),V.v (Value.int IntKind.u8 0),V.v (Value.int IntKind.u8 0),V.v (Value.int IntKind.u8 0),V.v (Value.int IntKind.u8 0),V.v (Value.int IntKind.u8 0),V.v (Value.int IntKind.u8 0),V.v (Value.int IntKind.u8 0),V.v (Value.int IntKind.u8 0),V.v (Value.int IntKind.u8 0),V.v (Value.int IntKind.u8 0)]=gS.enc:=by unfold Man.enc us;rfl
theorem eO {m:Man} (h:m.rt.length=16):m.enc.length=18∧m.enc.take 18=m.enc∧m.enc.drop 18=[]:=by
 have hl:m.enc.length=18:=by simp [Man.enc,cG,h]
 exact ⟨hl,yaa (by omega),yak (by omega)⟩
theorem vQ {m:Man}:m.enc.all isC=true:=by simp [Man.enc,eL,isC,isD]
theorem sG {m:Man} {q:List Blk}:wfL q m.enc:=by simp [Man.enc,wfL,wfV,bV]
theorem Xg (t:Bs) (b:Int) (ht:t.length≤1000000000):Ok 27 [sv t,.i b] (Is (.tup [.agg (mkM t b).enc,.i (mkE t b)])):=by
 refine a6 lw27 (by simp) ?_
 unfold c27
 obtain ⟨q1,q2,q3⟩:=eO (m:=gS) rfl
 simp -implicitDefEqProofs only [rX,↓rY,aA,cells?,splice,↓reduceIte,Nat.reduceEqDiff,reduceCtorEq,aE,bG,aO,aP,wfV,wfL,cxN,bR,aF,zM,q1,q2,q3,vQ,sG]
 simp only [br,decide_eq_true_eq,decide_eq_false_iff_not]
 have er:∀ e:Int,mkE t b=e→e≠0→mkM t b=gS:=fun e h1 h2=>by unfold mkM;rw [if_neg (by rw [h1];exact h2)];rfl
 refine ⟨fun h1=>?_,fun h1=>⟨fun h2=>?_,fun h2=>⟨fun h3=>?_,fun h3=>?_⟩⟩⟩
 ·have h:mkE t b=1:=by unfold mkE;rw [if_pos (.inl h1)]
  rw [er 1 h (by decide),h]
 ·have h:mkE t b=1:=by unfold mkE;rw [if_pos (.inr h2)]
  rw [er 1 h (by decide),h]
 ·have h:mkE t b=2:=by unfold mkE;rw [if_neg (by omega),if_pos (.inl h3)]
  rw [er 2 h (by decide),h]
 ·refine aC (Wx t.length b ⟨by omega,by omega⟩ ⟨by omega,by omega⟩) ⟨⟨trivial,trivial,trivial⟩,rfl,rfl,trivial⟩ rfl trivial ?_
  simp -implicitDefEqProofs only [rX,↓rY,aA,cells?,splice,↓reduceIte,Nat.reduceEqDiff,reduceCtorEq,bG,aO,aP,wfV,wfL,bR,zM,q1,q2,q3,vQ,sG]
  simp only [br,decide_eq_true_eq,decide_eq_false_iff_not]
  refine ⟨fun h4=>?_,fun h4=>?_⟩
  ·have h:mkE t b=2:=by unfold mkE;rw [if_neg (by omega),if_pos (.inr h4)]
   rw [er 2 h (by decide),h]
  ·have h:mkE t b=0:=by unfold mkE;rw [if_neg (by omega),if_neg (by omega)]
   obtain ⟨n,rfl⟩:∃ n:Nat,b=n:=⟨b.toNat,by omega⟩
   refine aC (Si t n ⟨by omega,by omega⟩ ht) ⟨⟨trivial,trivial,trivial⟩,rfl,rfl,trivial⟩ (by simp [ren]) trivial ?_
   simp -implicitDefEqProofs only [rX,↓reduceIte]
   have hn:nb t.length n≤t.length:=vI (by omega)
   refine aC (Nq _ (lvs t n) rfl pT (by rw [fP];omega)) ⟨⟨trivial,trivial⟩,⟨rfl,rfl⟩,trivial⟩ (by simp [ren,aQ]) trivial ?_
   have hr:=dI _ (lvs t n) rfl pT
   obtain ⟨u1,u2,u3⟩:=dR hr
   have hm:mkM t n=⟨t.length,n,root (lvs t n)⟩:=by unfold mkM;rw [if_pos h,yae]
   simp -implicitDefEqProofs only [rX,↓rY,aA,cells?,splice,↓reduceIte,Nat.reduceEqDiff,Nat.reduceAdd,bG,aO,aP,wfV,wfL,isC,Nat.reduceLeDiff,zM,q1,u1]
   rw [hm,h]
   have d1:(yaf 1 gS.enc).length=17:=by rw [yat,q1]
   have d2:(yaf 1 (yaf 1 gS.enc)).length=16:=by rw [yat,d1]
   have d18:∀ x y:V,yaf 18 (x::y::yaf 1 (yaf 1 gS.enc))=[]:=fun x y=>yak (by simp only [yaI,d2];omega)
   have tk:=vO (m:=⟨t.length,n,root (lvs t n)⟩) hr
   simp only [d1,d2,d18,ybb,yap,Nat.add_zero,q3,eL,Bool.and_self,tk,sG,true_and,Nat.reduceAdd,yad,Nat.reduceLeDiff]
theorem Qt:[V.v (Value.int IntKind.i64 0),V.v (Value.int IntKind.i64 0),V.v (Value.int IntKind.u8 0),V.v (Value.int IntKind.u8 0),V.v (Value.int IntKind.u8 0),V.v (Value.int IntKind.u8 0),V.v (Value.int IntKind.u8 0),V.v (Value.int IntKind.u8 0),V.v (Value.int IntKind.u8 0),V.v (Value.int IntKind.u8 0),V.v (Value.int IntKind.u8 0),V.v (Value.int IntKind.u8 0),V.v (Value.int IntKind.u8 0),V.v (Value.int IntKind.u8 0),V.v (Value.int IntKind.u8 0),V.v (Value.int IntKind.u8 0),V.v (Value.int IntKind.u8 0),V.v (Value.int IntKind.u8 0),V.v (Value.int IntKind.i64 0)]=gS.enc++[.i 0]:=by unfold Man.enc us;rfl
theorem yU {m:Man} (h:m.rt.length=16) {x y:V} (hx:isC x=true) (hw:∀ q,wfV q x):yac 18 (m.enc++[x])=m.enc∧yaf 19 (m.enc++[x])=[]∧yac 19 (m.enc++[x])=m.enc++[x]∧(m.enc++[x]).all isC=true∧(m.enc++[x]).length=19:=by
 obtain ⟨q1,q2,q3⟩:=eO h
 refine ⟨?_,yak (by simp [q1]),yaa (by simp [q1]),?_,by simp [q1]⟩
 ·rw [yaD (by omega),q2]
 ·rw [yaS,vQ];simp [hx]
theorem Gk {m:Man} {n:Int} {q:List Blk}:wfL q (m.enc++[V.i n]):=by
 simp [Man.enc,wfL,wfV]
 have:∀ l:Bs,wfL q (us l++[V.i n]):=by
  intro l
  unfold us
  induction l with
  | nil=>simp [wfL,wfV]
  | cons x r ih=>simpa [wfL,wfV] using ih
 exact this _
theorem aaL (t:Bs) (b:Int) (ht:t.length≤1000000000):Ok 28 [sv t,.i b] (Is (.agg ((mkM t b).enc++[.i (mkE t b)]))):=by
 refine a6 lw28 (by simp) ?_
 unfold c28
 obtain ⟨q1,q2,q3⟩:=eO (m:=gS) rfl
 obtain ⟨r1,r2,r3,r4,r5⟩:=yU (m:=gS) rfl (x:=.i 0) (y:=.i 0) rfl (fun _=>trivial)
 have r6:∀ n:Int,(gS.enc++[V.i n]).length=19:=fun n=>by simp [q1]
 have r7:∀ n:Int,(gS.enc++[V.i n]).all isC=true:=fun n=>(yU (m:=gS) rfl (x:=.i n) (y:=.i 0) rfl (fun _=>trivial)).2.2.2.1
 have r8:∀ n:Int,yac 19 (gS.enc++[V.i n])=gS.enc++[V.i n]:=fun n=>(yU (m:=gS) rfl (x:=.i n) (y:=.i 0) rfl (fun _=>trivial)).2.2.1
 simp -implicitDefEqProofs only [rX,↓rY,aA,cells?,splice,↓reduceIte,Nat.reduceEqDiff,Nat.reduceAdd,reduceCtorEq,aE,bG,aO,aP,wfV,cxN,bR,aF,Qt,q1,r1,r2,r5,r7,r8,Gk]
 simp only [br,decide_eq_true_eq,decide_eq_false_iff_not]
 have er:∀ e:Int,mkE t b=e→e≠0→mkM t b=gS:=fun e h1 h2=>by unfold mkM;rw [if_neg (by rw [h1];exact h2)];rfl
 refine ⟨fun h1=>?_,fun h1=>⟨fun h2=>?_,fun h2=>⟨fun h3=>?_,fun h3=>?_⟩⟩⟩
 ·have h:mkE t b=1:=by unfold mkE;rw [if_pos (.inl h1)]
  rw [er 1 h (by decide),h]
 ·have h:mkE t b=1:=by unfold mkE;rw [if_pos (.inr h2)]
  rw [er 1 h (by decide),h]
 ·have h:mkE t b=2:=by unfold mkE;rw [if_neg (by omega),if_pos (.inl h3)]
  rw [er 2 h (by decide),h]
 ·refine aC (Xb t.length b ⟨by omega,by omega⟩ ⟨by omega,by omega⟩) ⟨⟨trivial,trivial,trivial⟩,rfl,rfl,trivial⟩ rfl trivial ?_
  simp -implicitDefEqProofs only [rX,↓rY,aA,cells?,splice,↓reduceIte,Nat.reduceEqDiff,Nat.reduceAdd,reduceCtorEq,bG,aO,aP,wfV,bR,Qt,q1,r1,r2,r5,r7,r8,Gk]
  simp only [br,decide_eq_true_eq,decide_eq_false_iff_not]
  refine ⟨fun h4=>?_,fun h4=>?_⟩
  ·have h:mkE t b=2:=by unfold mkE;rw [if_neg (by omega),if_pos (.inr h4)]
   rw [er 2 h (by decide),h]
  ·have h:mkE t b=0:=by unfold mkE;rw [if_neg (by omega),if_neg (by omega)]
   obtain ⟨n,rfl⟩:∃ n:Nat,b=n:=⟨b.toNat,by omega⟩
   refine aC (Xf t n ⟨by omega,by omega⟩ ht) ⟨⟨trivial,trivial,trivial⟩,rfl,rfl,trivial⟩ (by simp [ren]) trivial ?_
   simp -implicitDefEqProofs only [rX,↓reduceIte]
   have hn:nb t.length n≤t.length:=vI (by omega)
   refine aC (Wz _ (lvs t n) rfl pT (by rw [fP];omega)) ⟨⟨trivial,trivial⟩,⟨rfl,rfl⟩,trivial⟩ (by simp [ren,aQ]) trivial ?_
   have hr:=dI _ (lvs t n) rfl pT
   obtain ⟨u1,u2,u3⟩:=dR hr
   have hm:mkM t n=⟨t.length,n,root (lvs t n)⟩:=by unfold mkM;rw [if_pos h,yae]
   have d1:(yaf 1 gS.enc).length=17:=by rw [yat,q1]
   have d2:(yaf 1 (yaf 1 gS.enc)).length=16:=by rw [yat,d1]
   have d18:∀ x y:V,yaf 18 (x::y::yaf 1 (yaf 1 gS.enc))=[]:=fun x y=>yak (by simp only [yaI,d2];omega)
   simp -implicitDefEqProofs only [rX,↓rY,cells?,splice,↓reduceIte,Nat.reduceEqDiff,Nat.reduceAdd,bG,aO,aP,wfV,isC,Nat.reduceLeDiff,Qt,zM,q1,u1,d1,d2,d18]
   rw [hm,h]
   have e18:yaf 18 (gS.enc++[V.i 0])=[V.i 0]:=by
    rw [yaF (by omega),q3];rfl
   have fold:∀ tl,V.v (Value.int IntKind.i64 (t.length:Int))::V.v (Value.int IntKind.i64 (n:Int))::(us (root (lvs t n))++tl)=(⟨t.length,n,root (lvs t n)⟩:Man).enc++tl:=fun tl=>rfl
   obtain ⟨s1,s2,s3,s4,s5⟩:=yU (m:=⟨t.length,n,root (lvs t n)⟩) hr (x:=.i 0) (y:=.i 0) rfl (fun _=>trivial)
   have al:(us (root (lvs t n))++[V.i 0]).all isC=true:=by rw [yaS,eL];rfl
   simp only [e18,yaI,ybb,ybm,Nat.reduceAdd,r2,yap,fold,s3,al,Bool.and_self,Gk,yad,Nat.add_zero,true_and]
end Go.Fx.H
namespace Go.Fx.H
open Go Go.Fx Go.Proofs Go.Fx.R
set_option maxRecDepth 20000
abbrev rD (l:List Bs):V:=.ro 16 (l.map us)
theorem Um (l:List Bs) (d:Bs) (hd:d.length=16) (hl:l.length≤1000000000):Ok 158 [bD l,.agg (us d)] (Is (rD (l++[d]))):=by
 refine eM (R:=fun q hs=>wk (rD (l++[d])) (gvV (fun _=>true) hs q)) ?_ fun _ _ h=>h
 refine a6 lw158 (by simp) ?_
 unfold c158
 obtain ⟨u1,u2,u3⟩:=dR hd
 simp -implicitDefEqProofs only [rX,↓rY,rdK,aA,cells?,↓reduceIte,Nat.reduceEqDiff,Nat.reduceAdd,reduceCtorEq,aE,b5,aO,aP,aD,aB,wfV,aT,aY,kill,St.kill,Nat.reduceLT,cxN,aF,u1,u2,Fj,cO,mX]
 have tk:yac l.length (yaw us l)++[us d]=(l++[d]).map us:=by
  rw [yaa (by simp),yas];rfl
 rw [tk]
 refine ⟨.inr trivial,by omega,by omega,[.dead,.arr 16 ((l++[d]).map us)],⟨⟨trivial,aM _,trivial⟩,yab _,trivial,trivial⟩,?_⟩
 simp [gvV,gvB,wk,wkR,blk]
 rw [yaa (by simp)]
theorem Xq:∀ (n:Nat) (l:List Bs) (i:Nat),l.length=n→D16 l→D16 (eF l i):=by
 intro n
 induction n using yaG with
 | ind n ih =>
  intro l i hn hD
  by_cases h2:2≤l.length
  ·have hs:=dZ h2
   by_cases hi:i<spl l.length
   ·rw [tZ h2 hi]
    intro d hd
    rcases yaz.1 hd with hd|hd
    ·exact ih (l.take (spl l.length)).length (by simp;omega) _ _ rfl (hD.take _) d hd
    ·simp at hd;subst hd;exact dI _ _ rfl (hD.drop _)
   ·rw [t6 h2 hi]
    intro d hd
    rcases yaz.1 hd with hd|hd
    ·exact ih (l.drop (spl l.length)).length (by simp;omega) _ _ rfl (hD.drop _) d hd
    ·simp at hd;subst hd;exact dI _ _ rfl (hD.take _)
  ·rw [pW h2];intro d hd;simp at hd
theorem Ye:∀ (n i:Nat),dep i n≤n:=by
 intro n
 induction n using yaG with
 | ind n ih =>
  intro i
  by_cases h2:2≤n
  ·have hs:=dZ h2
   by_cases hi:i<spl n
   ·rw [xC h2 hi];have:=ih (spl n) (by omega) i;omega
   ·rw [xD h2 hi];have:=ih (n-spl n) (by omega) (i-spl n);omega
  ·rw [uD h2];omega
theorem pX {l:List Bs} {i:Nat} (h:i<l.length):(eF l i).length≤l.length:=by
 rw [(Jj _ l i rfl h).1];exact Ye _ _
theorem bJ {l:Bs} {h:List Blk} {g:Nat→Option Nat}:aG h g (us l)∧wkL (us l) (aS h g (us l)):=cU _ jN
theorem Vp {hs:List Blk}:wk (.ro 16 []) (gvV (fun _=>true) hs .nil):=by simp [gvV,wk,wkR]
theorem abO:∀ (n:Nat) (l:List Bs) (i:Nat),l.length=n→i<n→D16 l→n≤1000000000→Ok 123 [bD l,.i i] (Is (rD (eF l i))):=by
 intro n
 induction n using yaG with
 | ind n ih =>
  intro l i hn hi hD hle
  refine eM (R:=fun q hs=>wk (rD (eF l i)) (gvV (fun _=>true) hs q)) ?_ fun _ _ h=>h
  refine a6 lw123 (by simp) ?_
  unfold c123
  simp -implicitDefEqProofs only [rX,↓rY,aA,↓reduceIte,reduceCtorEq,cxN,aF]
  intro hm
  simp only [br,beq_iff_eq,beq_eq_false_iff_ne]
  refine ⟨fun h1=>?_,fun h1 hm2=>?_⟩
  ·simp -implicitDefEqProofs only [rX,↓reduceIte,aO,aP,aD,wfV,cO]
   rw [pW (by omega)]
   exact ⟨([]:List Blk),⟨trivial,yab _,trivial⟩,Vp⟩
  ·have h2:2≤l.length:=by omega
   have hs:=dZ h2
   refine aC (Nw l.length h2 (by omega)) ⟨⟨trivial,trivial⟩,rfl,trivial⟩ rfl trivial ?_
   simp -implicitDefEqProofs only [rX,↓rY,↓reduceIte,Nat.reduceEqDiff,reduceCtorEq,cL,yae]
   simp only [br,decide_eq_true_eq,decide_eq_false_iff_not]
   have e1:yac (spl l.length-yar 0) (yaf (yar 0) (yaw us l))=(l.take (spl l.length)).map us:=by
    rw [show yar 0=0 from rfl,ybd,yaT,ybe]
   have e2:yac (l.length-spl l.length) (yaf (spl l.length) (yaw us l))=(l.drop (spl l.length)).map us:=by
    rw [yaa (by simp),List.map_drop]
   rw [e1,e2]
   have hlt:(l.take (spl l.length)).length=spl l.length:=by simp;omega
   have hld:(l.drop (spl l.length)).length=l.length-spl l.length:=by simp
   have r1:=dI _ (l.take (spl l.length)) rfl (hD.take _)
   have r2:=dI _ (l.drop (spl l.length)) rfl (hD.drop _)
   refine ⟨fun hi2=>⟨by omega,by omega,?_⟩,fun hi2=>⟨by omega,by simp only [lo,Fx.hi];omega,by omega,?_⟩⟩
   ·refine aC (ih _ (by omega) (l.take (spl l.length)) i hlt (by omega) (hD.take _) (by omega)) ⟨⟨trivial,trivial,trivial⟩,⟨rfl,rfl⟩,rfl,trivial⟩ (by simp [ren]) trivial ?_
    simp -implicitDefEqProofs only [rX,↓reduceIte,Nat.reduceEqDiff]
    refine aC (Wz _ (l.drop (spl l.length)) hld (hD.drop _) (by omega)) ⟨⟨trivial,trivial⟩,⟨rfl,rfl⟩,trivial⟩ (by simp [ren,aQ]) trivial ?_
    simp -implicitDefEqProofs only [rX,↓reduceIte,Nat.reduceEqDiff]
    have hle2:=pX (l:=l.take (spl l.length)) (i:=i) (by omega)
    refine aC (Um (eF (l.take (spl l.length)) i) _ r2 (by omega)) ⟨⟨trivial,bJ.1,trivial⟩,⟨rfl,rfl⟩,bJ.2,trivial⟩ (by simp [ren]) trivial ?_
    simp -implicitDefEqProofs only [rX,↓reduceIte,aO,aP,aD,wfV,cO]
    refine ⟨([]:List Blk),⟨trivial,yab _,trivial⟩,?_⟩
    rw [tZ h2 (by omega)]
    simp [gvV,wk,wkR]
   ·have e3:(i:Int)-(spl l.length:Int)=((i-spl l.length:Nat):Int):=by omega
    rw [e3]
    refine aC (ih _ (by omega) (l.drop (spl l.length)) (i-spl l.length) hld (by omega) (hD.drop _) (by omega)) ⟨⟨trivial,trivial,trivial⟩,⟨rfl,rfl⟩,rfl,trivial⟩ (by simp [ren]) trivial ?_
    simp -implicitDefEqProofs only [rX,↓reduceIte,Nat.reduceEqDiff]
    refine aC (Wz _ (l.take (spl l.length)) hlt (hD.take _) (by omega)) ⟨⟨trivial,trivial⟩,⟨rfl,rfl⟩,trivial⟩ (by simp [ren,aQ]) trivial ?_
    simp -implicitDefEqProofs only [rX,↓reduceIte,Nat.reduceEqDiff]
    have hle2:=pX (l:=l.drop (spl l.length)) (i:=i-spl l.length) (by omega)
    refine aC (Um (eF (l.drop (spl l.length)) (i-spl l.length)) _ r1 (by omega)) ⟨⟨trivial,bJ.1,trivial⟩,⟨rfl,rfl⟩,bJ.2,trivial⟩ (by simp [ren]) trivial ?_
    simp -implicitDefEqProofs only [rX,↓reduceIte,aO,aP,aD,wfV,cO]
    refine ⟨([]:List Blk),⟨trivial,yab _,trivial⟩,?_⟩
    rw [t6 h2 (by omega)]
    simp [gvV,wk,wkR]
def inE (l:List Bs) (i:Int):Int:=if i<0∨(l.length:Int)≤i then 1 else 0
def inL (l:List Bs) (i:Int):List Bs:=if i<0∨(l.length:Int)≤i then [] else eF l i.toNat
theorem afI (l:List Bs) (i:Int) (hD:D16 l) (hl:l.length≤1000000000):Ok 79 [bD l,.i i] (Is (.agg [rD (inL l i),.i (inE l i)])):=by
 refine eM (R:=fun q hs=>wk (.agg [rD (inL l i),.i (inE l i)]) (gvV (fun _=>true) hs q)) ?_ fun _ _ h=>h
 refine a6 lw79 (by simp) ?_
 unfold c79
 simp -implicitDefEqProofs only [rX,↓rY,aA,cells?,splice,↓reduceIte,Nat.reduceEqDiff,Nat.reduceAdd,reduceCtorEq,aE,bG,aO,aP,aD,wfV,wfL,isC,cxN,aF,cO]
 simp only [br,decide_eq_true_eq,decide_eq_false_iff_not]
 refine ⟨fun h1=>⟨[],⟨trivial,yab _,trivial⟩,?_⟩,fun h1 hm=>⟨fun h2=>⟨[],⟨trivial,yab _,trivial⟩,?_⟩,fun h2=>?_⟩⟩
 ·rw [inL,inE,if_pos (.inl h1),if_pos (.inl h1)];simp [gvV,gvL,wk,wkL,wkR]
 ·rw [inL,inE,if_pos (.inr h2),if_pos (.inr h2)];simp [gvV,gvL,wk,wkL,wkR]
 ·obtain ⟨n,rfl⟩:∃ n:Nat,i=n:=⟨i.toNat,by omega⟩
  refine aC (abO _ l n rfl (by omega) hD (by omega)) ⟨⟨trivial,trivial,trivial⟩,⟨rfl,rfl⟩,rfl,trivial⟩ (by simp [ren]) trivial ?_
  simp -implicitDefEqProofs only [rX,↓rY,cells?,splice,↓reduceIte,Nat.reduceEqDiff,Nat.reduceAdd,bG,aO,aP,aD,wfV,wfL,isC,Nat.reduceLeDiff,cO]
  refine ⟨[],⟨trivial,yab _,trivial⟩,?_⟩
  rw [inL,inE,if_neg (by omega),if_neg (by omega),yae]
  simp [gvV,gvL,wk,wkL,wkR]
theorem Po {a b:UInt8} {K:Bool→Prop}:eqC (.int .u8) (some (u8 a)) (some (u8 b)) K=K (a==b):=by
 have e:eqK (.int .u8 a.toNat) (.int .u8 b.toNat)=(a==b):=by
  show ((a.toNat:Int)==(b.toNat:Int))=(a==b)
  by_cases h:a=b
  ·subst h;simp
  ·have h2:a.toNat≠b.toNat:=fun h3=>h (UInt8.toNat_inj.1 h3)
   have h3:(a==b)=false:=by simpa using h
   rw [h3];simp;omega
 show ((_∧_)∧K (eqK _ _))=_
 rw [e]
 exact propext ⟨fun h=>h.2,fun h=>⟨⟨rfl,rfl⟩,h⟩⟩
theorem w6 {l1 l2:Bs} {xs ys:List V} (hx:∀ i (h:i<l1.length),xs[i]?=some (u8 l1[i])) (hy:∀ i (h:i<l2.length),ys[i]?=some (u8 l2[i])):∀ {m a:Nat} {K:Bool→Prop},a+m≤l1.length→a+m≤l2.length →
  eU xs ys ((ybf a m).map fun i=>(i,.int .u8)) K=K ((l1.drop a).take m==(l2.drop a).take m)
 | 0,a,K,_,_=>by simp [eU]
 | m+1,a,K,h1,h2=>by
  rw [List.range'_succ,List.map_cons,eU,hx a (by omega),hy a (by omega),Po,w6 hx hy (by omega) (by omega),yax (show a<l1.length by omega),yax (show a<l2.length by omega),ybz,ybz]
  rfl
theorem Lz {l:Bs} {i:Nat} (h:i<l.length):(us l)[i]?=some (u8 l[i]):=by
 rw [Ly h];unfold bn;rw [ybp,yaj h];rfl
theorem nH {a b:Bs} (ha:a.length=16) (hb:b.length=16) {K:Bool→Prop}:(cZ (i7 (.agg (us a))) fun xs=>cZ (i7 (.agg (us b))) fun ys=>eU xs ys ((ybf 0 16).map fun i=>(i,.int .u8)) K)=K (a==b):=by
 show eU (us a) (us b) _ K=_
 rw [w6 (fun i h=>Lz h) (fun i h=>Lz h) (by omega) (by omega)]
 simp only [ybd]
 rw [yaa (by omega),yaa (by omega)]
theorem afH (a b:List Bs) (ha:D16 a) (hb:D16 b) (hl:a.length≤1000000000):Ok 80 [bD a,bD b] (Is (.b (a==b))):=by
 refine a6 lw80 (by simp) ?_
 unfold c80
 simp -implicitDefEqProofs only [rX,↓rY,aA,↓reduceIte,Nat.reduceEqDiff,reduceCtorEq,aO,aP,wfV,cxN,aF]
 intro hm hm2
 simp only [br,bne_iff_ne,bne_eq_false_iff_eq]
 refine ⟨fun h1=>?_,fun h1=>?_⟩
 ·rw [beq_eq_false_iff_ne.2];rintro rfl;exact h1 rfl
 ·refine aX (fun k:Nat=>⟨[(5,.i k),(0,bD a),(1,bD b)],[],0⟩) (fun k=>k≤a.length∧a.take k=b.take k) (fun k=>a.length-k) 0 ⟨yab _,rfl⟩ ?_ ?_
  ·simp -implicitDefEqProofs only [rX,↓reduceIte,Nat.reduceEqDiff,reduceCtorEq,leE,leH,aD,wfE,wfB,wfV,yaC]
  rintro k ⟨hk,hI⟩
  unfold c80l0
  simp -implicitDefEqProofs only [rX,↓rY,aA,↓reduceIte,Nat.reduceEqDiff,reduceCtorEq,aO,aP,leE,leH,aD,wfE,wfB,wfV,yah,yae]
  intro hm3
  have hab:a.length=b.length:=by omega
  simp only [br,decide_eq_true_eq,decide_eq_false_iff_not]
  refine ⟨fun h2=>?_,fun h2=>?_⟩
  ·have hk1:k<a.length:=by omega
   have hk2:k<b.length:=by omega
   obtain ⟨u1,u2,_⟩:=dR (ha a[k] (yal hk1))
   obtain ⟨v1,v2,_⟩:=dR (hb b[k] (yal hk2))
   refine ⟨by omega,hk1,by omega,by omega,hk2,by omega,?_⟩
   rw [u2,v2,nH (ha a[k] (yal hk1)) (hb b[k] (yal hk2))]
   cases h3:a[k]==b[k] with
   | false =>
    have h4:=beq_eq_false_iff_ne.1 h3
    refine ⟨fun _=>?_,fun h=>by simp at h⟩
    rw [beq_eq_false_iff_ne.2]
    rintro rfl
    exact h4 rfl
   | true =>
    have h4:=eq_of_beq h3
    refine ⟨fun h=>by simp at h,fun _=>⟨by simp only [lo,Fx.hi];omega,k+1,⟨⟨by omega,?_⟩,by omega⟩,rfl⟩⟩
    rw [yaq,yaq,hI,yaj hk1,yaj hk2,h4]
  ·have:a=b:=by
    rw [yaa (by omega),yaa (by omega)] at hI
    exact hI
   subst this
   simp
theorem aaJ (a b:List Bs) (ha:D16 a) (hb:D16 b) (hl:a.length≤1000000000):Ok 31 [bD a,bD b] (Is (.b (a==b))):=by
 refine a6 lw31 (by simp) ?_
 unfold c31
 simp -implicitDefEqProofs only [rX,aA,↓reduceIte,Nat.reduceEqDiff,reduceCtorEq,cxN,aF]
 refine aC (afH a b ha hb hl) ⟨⟨trivial,trivial,trivial⟩,⟨rfl,rfl⟩,⟨rfl,rfl⟩,trivial⟩ rfl trivial ?_
 simp -implicitDefEqProofs only [rX,↓reduceIte,aO,aP,wfV]
end Go.Fx.H
namespace Go.Fx.H
open Go Go.Fx Go.Proofs Go.Fx.R
set_option maxRecDepth 20000
theorem Gd {P:Program} {f:FuncId} {args args':List V} {h0 h0':List Blk} {mv:List Nat} {R:V→List Blk→Prop} (fx:List Nat) (hlen:args'.length=args.length) (hl:h0'.length=h0.length) (hkp:aD fx h0) (hfx:∀ k,k<h0.length→k∉mv→k∈fx)
  (hg:leG fx ⟨aF 0 args,h0,0⟩ ⟨aF 0 args',h0',0⟩) (h:OkN P f args' h0' mv R):OkN P f args h0 mv R:=by
 refine ⟨h.1,?_⟩
 intro ρ X w vals h1 h2
 have hvl:=cD h2
 have hgd:Good ρ X w fx vals.length ⟨aF 0 args,h0,0⟩ { tmps:=vals.toArray,defers:=[] } w :=
  ⟨ρ,⟨⟨Fr.refl _ _,fun _ _=>rfl⟩,hkp⟩,⟨h1,by have:=gB h2 0;simpa using this⟩,by simp,Marks.nil⟩
 obtain ⟨ρ2,⟨⟨p1,p2⟩,p3⟩,⟨p4,p5⟩,_⟩:=hgd.leG hg
 have hv':bE ρ2 X w args' vals:=by
  refine Av (by omega) fun i h1 h2=>?_
  have:=p5 i
  have hget:=jZ args' 0 i
  rw [ybm,dif_pos h1] at hget
  rw [hget] at this
  simpa [h2] using this
 refine Calls.mono (h.2 ρ2 X w vals p4 hv') ?_
 rintro e w' ⟨val,r,h',ρ',q1,⟨q2,q2l⟩,q3,q4,q5,q6⟩
 exact ⟨val,r,h',ρ',q1,⟨q2,by omega⟩,p1.trans q3,q4,q5,fun k hk hm=>(q6 k (by omega) hm).trans (p2 k (hfx k hk hm))⟩
abbrev hI (L:List Bs):List Blk:=[.var [.clo 122 [.ptr 0 0 0,.ptr 1 0 0]],.var [.sl 2 0 L.length],.arr 16 (L.map us)]
theorem abP:∀ (n:Nat) (l:List Bs) (i:Nat) (L:List Bs),l.length=n→i<n→D16 l→n≤1000000000→L.length+n≤1000000000→OkN Tryz.prog 122 [bD l,.i i,.ptr 0 0 0,.ptr 1 0 0] (hI L) [2] (IsA (.tup []) (hI (L++eF l i))):=by
 intro n
 induction n using yaG with
 | ind n ih =>
  intro l i L hn hi hD hle hL
  refine fY pol [0,1] lw122 (by simp) ⟨trivial,trivial,trivial⟩ (fun k hk hm=>by simp at hk hm ⊢;omega) ?_
  unfold c122 hI
  simp -implicitDefEqProofs only [rX,↓rY,aA,↓reduceIte,Nat.reduceAdd,reduceCtorEq,cxN,aF]
  intro hm
  simp only [br,beq_iff_eq,beq_eq_false_iff_ne]
  refine ⟨fun h1=>?_,fun h1 hm2=>?_⟩
  ·rw [pW (by omega),yap]
   simp -implicitDefEqProofs only [rX,Nat.reduceAdd,aO,aP,leH,leB,leV,dQ,aD,aB,wfB,wfV,wfL,bN]
  ·have h2:2≤l.length:=by omega
   have hs:=dZ h2
   refine aC (Ny l.length h2 (by omega)) ⟨⟨trivial,trivial⟩,rfl,trivial⟩ rfl ⟨trivial,trivial,trivial⟩ ?_
   simp -implicitDefEqProofs only [rX,↓rY,↓reduceIte,Nat.reduceEqDiff,Nat.reduceAdd,reduceCtorEq,cL,yae]
   simp only [br,decide_eq_true_eq,decide_eq_false_iff_not]
   have hlt:(l.take (spl l.length)).length=spl l.length:=by simp;omega
   have hld:(l.drop (spl l.length)).length=l.length-spl l.length:=by simp
   have r1:=dI _ (l.take (spl l.length)) rfl (hD.take _)
   have r2:=dI _ (l.drop (spl l.length)) rfl (hD.drop _)
   have e2:yac (l.length-spl l.length) (yaf (spl l.length) (yaw us l))=(l.drop (spl l.length)).map us:=by
    rw [yaa (by simp),List.map_drop]
   refine ⟨fun hi2=>Wa hs.1.2 ?_,fun hi2=>?_⟩
   ·have hle2:=pX (l:=l.take (spl l.length)) (i:=i) (by omega)
    refine d5 [0,1,2] [2] [2] _ (.tup []) (.tup []) (hI L) _ (hI (L++eF (l.take (spl l.length)) i)) _ (ih _ (by omega) (l.take (spl l.length)) i L hlt (by omega) (hD.take _) (by omega) (by omega)) (by simp) (by simp) rfl (by simp [aG,aZ,aS,cJ,wkL,wk,wkR,wkB,pos]) rfl rfl rfl ⟨trivial,trivial,trivial⟩ ?_
    simp -implicitDefEqProofs only [rX,↓rY,rdK,↓reduceIte,Nat.reduceEqDiff,Nat.reduceAdd,reduceCtorEq,cL,aT,kill,bO,St.kill,yae,hI,aT,kill]
    rw [e2]
    refine ⟨by omega,aC (Nq _ (l.drop (spl l.length)) hld (hD.drop _) (by omega)) ⟨⟨trivial,trivial⟩,⟨rfl,rfl⟩,trivial⟩ (by simp [ren,aQ]) ⟨trivial,trivial,trivial⟩ ?_⟩
    obtain ⟨u1,u2,u3⟩:=dR r2
    simp -implicitDefEqProofs only [rX,↓rY,cells?,splice,↓reduceIte,Nat.reduceEqDiff,Nat.reduceAdd,reduceCtorEq,aE,b5,aO,aP,leH,leB,leV,dQ,aD,aB,wfB,wfV,wfL,aT,aY,kill,bO,St.kill,isC,Nat.reduceLT,u1,Fj,bN]
    rw [tZ h2 (by omega)]
    have tk:yac (L.length+(eF (l.take (spl l.length)) i).length) (yaw us (L++eF (l.take (spl l.length)) i))=yaw us (L++eF (l.take (spl l.length)) i):=yaa (by simp)
    rw [tk]
    simp -implicitDefEqProofs only [rX,yas,yam]
    exact ⟨by omega,by rw [Nat.add_assoc]⟩
   ·have e3:(i:Int)-(spl l.length:Int)=((i-spl l.length:Nat):Int):=by omega
    rw [e2,e3]
    have hle2:=pX (l:=l.drop (spl l.length)) (i:=i-spl l.length) (by omega)
    refine ⟨by omega,by simp only [lo,Fx.hi];omega,?_⟩
    refine d5 [0,1,2] [2] [2] [bD (l.drop (spl l.length)),.i ((i-spl l.length:Nat):Int),.ptr 0 0 0,.ptr 1 0 0] (.tup []) (.tup []) (hI L) _ (hI (L++eF (l.drop (spl l.length)) (i-spl l.length))) _ (ih _ (by omega) (l.drop (spl l.length)) (i-spl l.length) L hld (by omega) (hD.drop _) (by omega) (by omega)) (by simp) (by simp) rfl (by simp [aG,aZ,aS,cJ,wkL,wk,wkR,wkB,pos]) rfl rfl rfl ⟨trivial,trivial,trivial⟩ ?_
    simp -implicitDefEqProofs only [rX,↓rY,rdK,↓reduceIte,Nat.reduceEqDiff,Nat.reduceAdd,reduceCtorEq,aT,kill,bO,St.kill,hI,aT,kill]
    refine Wa hs.1.2 ?_
    refine aC (Nq _ (l.take (spl l.length)) hlt (hD.take _) (by omega)) ⟨⟨trivial,trivial⟩,⟨rfl,rfl⟩,trivial⟩ (by simp [ren,aQ]) ⟨trivial,trivial,trivial⟩ ?_
    obtain ⟨u1,u2,u3⟩:=dR r1
    simp -implicitDefEqProofs only [rX,↓rY,cells?,splice,↓reduceIte,Nat.reduceEqDiff,Nat.reduceAdd,reduceCtorEq,aE,b5,aO,aP,leH,leB,leV,dQ,aD,aB,wfB,wfV,wfL,aT,aY,kill,bO,St.kill,isC,Nat.reduceLT,u1,Fj,bN]
    rw [t6 h2 (by omega)]
    have tk:yac (L.length+(eF (l.drop (spl l.length)) (i-spl l.length)).length) (yaw us (L++eF (l.drop (spl l.length)) (i-spl l.length)))=yaw us (L++eF (l.drop (spl l.length)) (i-spl l.length)):=yaa (by simp)
    rw [tk]
    simp -implicitDefEqProofs only [rX,yas,yam]
    exact ⟨by omega,by rw [Nat.add_assoc]⟩
theorem Xh (l:List Bs) (i:Nat) (hi:i<l.length) (hD:D16 l) (hle:l.length≤1000000000):OkN Tryz.prog 122 [bD l,.i i,.ptr 0 0 0,.ptr 1 0 0] [.var [.clo 122 [.ptr 0 0 0,.ptr 1 0 0]],.var [.nil],.arr 16 []] [2] (IsA (.tup []) (hI (eF l i))):=by
 have h:=abP _ l i [] rfl hi hD hle (by simp;omega)
 rw [yaJ] at h
 refine Gd (args':=[bD l,.i i,.ptr 0 0 0,.ptr 1 0 0]) (h0':=hI []) [0,1] rfl rfl ⟨trivial,trivial,trivial⟩ (fun k hk hm=>by simp at hk hm ⊢;omega) ⟨_,.nilB 1 [.nil] [.sl 2 0 0] rfl ⟨rfl,fun i a b h1 h2=>?_⟩ (.refl _),?_⟩ h
 ·match i with
  | 0=>simp at h1 h2;subst h1 h2;exact .inr ⟨rfl,_,rfl⟩
  | i+1=>simp at h1
 ·simp -implicitDefEqProofs only [rX,↓reduceIte,Nat.reduceEqDiff,Nat.reduceAdd,reduceCtorEq,leE,leH,leB,leV,dQ,aD,aB,wfE,wfB,wfV,wfL,aF,hI]
theorem afJ (l:List Bs) (i:Int) (hD:D16 l) (hl:l.length≤1000000000):Ok 78 [bD l,.i i] (Is (.tup [rD (inL l i),.i (inE l i)])):=by
 refine eM (R:=fun q hs=>wk (.tup [rD (inL l i),.i (inE l i)]) (gvV (fun _=>true) hs q)) ?_ fun _ _ h=>h
 refine Io pol [] lw78 (by simp) trivial (by simp) (s0:=⟨aF 0 [bD l,.i i],[.arr 16 []],0⟩) ⟨_,.virt 1 16 (by decide) (.refl _),?_⟩ ?_
 ·simp -implicitDefEqProofs only [rX,↓reduceIte,reduceCtorEq,leE,leH,leB,aD,wfE,wfB,wfV,aF,yaP]
 unfold c78
 simp -implicitDefEqProofs only [rX,↓rY,aA,cells?,splice,↓reduceIte,Nat.reduceEqDiff,Nat.reduceAdd,reduceCtorEq,aE,aO,aP,aD,wfV,wfL,isC,cxN,aF,cO]
 simp only [br,decide_eq_true_eq,decide_eq_false_iff_not]
 refine ⟨fun h1=>⟨[],⟨trivial,yab _,trivial⟩,?_⟩,fun h1 hm=>⟨fun h2=>⟨[],⟨trivial,yab _,trivial⟩,?_⟩,fun h2=>?_⟩⟩
 ·rw [inL,inE,if_pos (.inl h1),if_pos (.inl h1)];simp [gvV,gvL,wk,wkL,wkR]
 ·rw [inL,inE,if_pos (.inr h2),if_pos (.inr h2)];simp [gvV,gvL,wk,wkL,wkR]
 ·obtain ⟨n,rfl⟩:∃ n:Nat,i=n:=⟨i.toNat,by omega⟩
  refine d5 [2,1,0] [2] [0] _ (.tup []) (.tup []) [.var [.clo 122 [.ptr 0 0 0,.ptr 1 0 0]],.var [.nil],.arr 16 []] _ [.arr 16 ((eF l n).map us),.var [.sl 0 0 (eF l n).length],.var [.clo 122 [.ptr 2 0 0,.ptr 1 0 0]]] _ (Xh l n (by omega) hD hl) (by simp) (by simp) rfl (by simp [aG,aZ,aS,cJ,wkL,wk,wkR,wkB,pos]) rfl rfl rfl trivial ?_
  simp -implicitDefEqProofs only [rX,↓rY,aA,↓reduceIte,Nat.reduceEqDiff,Nat.reduceAdd,reduceCtorEq,aO,aP,aD,aB,wfV,wfL,aT,kill,bO,St.kill,aT,kill,cO]
  refine ⟨[.arr 16 ((eF l n).map us)],⟨⟨aM _,trivial⟩,yab _,trivial,trivial⟩,?_⟩
  rw [inL,inE,if_neg (by omega),if_neg (by omega),yae]
  simp [gvV,gvL,gvB,wk,wkL,wkR,blk]
  try (rw [yaa (by simp)])
def c81a:LCode :=
 (.seq
 (.reg 0 [
 ⟨(some 13),.mov (.tmp 2),none⟩,
 ⟨(some 14),.bin .lss false (.tmp 13) (.const (.int .i64 1)),none⟩,
 ⟨(some 15),.mov (.tmp 14),none⟩,
 ⟨(some 16),.mov (.tmp 2),(some (15,false))⟩,
 ⟨(some 17),.bin .gtr false (.tmp 16) (.const (.int .i64 1099511627776)),(some (15,false))⟩,
 ⟨(some 18),.pick (.tmp 15) (.const (.bool true)) (.tmp 17),none⟩,
 ⟨(some 19),.mov (.tmp 18),none⟩,
 ⟨(some 20),.mov (.tmp 1),(some (19,false))⟩,
 ⟨(some 21),.bin .lss false (.tmp 20) (.const (.int .i64 0)),(some (19,false))⟩,
 ⟨(some 22),.pick (.tmp 19) (.const (.bool true)) (.tmp 21),none⟩,
 ⟨(some 23),.mov (.tmp 22),none⟩,
 ⟨(some 24),.mov (.tmp 1),(some (23,false))⟩,
 ⟨(some 25),.mov (.tmp 2),(some (23,false))⟩,
 ⟨(some 26),.bin .geq false (.tmp 24) (.tmp 25),(some (23,false))⟩,
 ⟨(some 27),.pick (.tmp 23) (.const (.bool true)) (.tmp 26),none⟩])
 (.cond (.tmp 27)
 (.seq
 (.reg 0 [
 ⟨none,.store 1 (.tmp 10) (.const (.bool false)),none⟩])
 .ret)
 .skip))
def c81b:LCode :=
 (.seq
 (.reg 1 [
 ⟨(some 12),.alloc 0 (.nilFunc),none⟩])
 (.seq
 (.reg 0 [
 ⟨(some 32),.fn 125 [(.tmp 5),(.tmp 11),(.tmp 12)],none⟩,
 ⟨none,.store 1 (.tmp 12) (.tmp 32),none⟩])
 (.seq
 (.tree 0
 (.take 0 [3,5,6] ⟨(some 33),.load none (.tmp 12),none⟩
 (.take 1 [3,5,6] ⟨(some 34),.mov (.tmp 1),none⟩
 (.take 2 [3,5,6] ⟨(some 35),.mov (.tmp 2),none⟩
 (.alt 3 ⟨(some 36),.callv (.tmp 33) [(.tmp 34),(.tmp 35)],none⟩ false
 (.take 4 [5,6] ⟨(some 37),.load (some 16) (.tmp 9),none⟩
 (.take 5 [6] ⟨(some 38),.prim (.aeq false ((ybf 0 16).map fun i=>(i,(.int .u8)))) [(.tmp 36),(.tmp 37)],none⟩
 (.alt 6 ⟨none,.store 1 (.tmp 10) (.tmp 38),none⟩ false
 .done
 .none)))
 (.alt 4 ⟨(some 37),.load (some 16) (.tmp 9),none⟩ true
 (.alt 3 ⟨(some 36),.callv (.tmp 33) [(.tmp 34),(.tmp 35)],none⟩ false
 (.take 5 [6] ⟨(some 38),.prim (.aeq false ((ybf 0 16).map fun i=>(i,(.int .u8)))) [(.tmp 36),(.tmp 37)],none⟩
 (.alt 6 ⟨none,.store 1 (.tmp 10) (.tmp 38),none⟩ false
 .done
 .none))
 .none)
 .none))))))
 .ret)))
def c81:LDf:=.seq ((.reg 3 [ ⟨(some 5),.box 0 (.tmp 0),none⟩,⟨(some 9),.box 1 (.tmp 4),none⟩,⟨(some 10),.alloc 2 (.bool false),none⟩])) (.seq c81a (.seq ((.reg 2 [ ⟨(some 28),.mov (.tmp 3),none⟩,⟨(some 29),.build [.slice none 0 0,.bool false] [(0,1,(.tmp 28))],none⟩,⟨(some 30),.box 0 (.tmp 29),none⟩,⟨(some 11),.alloc 1 (.pointer none),none⟩,⟨none,.store 1 (.tmp 11) (.tmp 30),none⟩])) (.dfr 0 [⟨(some 31),.load none (.tmp 11),none⟩] 124 [(.tmp 31),(.tmp 10)] c81b)))
def c124:List aW:=[ ⟨(some 4),.mov (.tmp 1),none⟩,⟨(some 5),.mov (.tmp 1),none⟩,⟨(some 6),.nilc (.tmp 5),none⟩,⟨(some 7),.load none (.tmp 6),none⟩,⟨(some 8),.mov (.tmp 7),none⟩,⟨(some 9),.mov (.tmp 0),(some (8,true))⟩,⟨(some 10),.nilc (.tmp 9),(some (8,true))⟩,⟨(some 11),.fld 1 (.tmp 10),(some (8,true))⟩,⟨(some 12),.load none (.tmp 11),(some (8,true))⟩,⟨(some 13),.not (.tmp 12),(some (8,true))⟩,⟨(some 14),.pick (.tmp 8) (.tmp 13) (.const (.bool false)),none⟩,⟨(some 15),.mov (.tmp 14),none⟩,⟨(some 16),.mov (.tmp 0),(some (15,true))⟩,⟨(some 17),.nilc (.tmp 16),(some (15,true))⟩,⟨(some 18),.fld 0 (.tmp 17),(some (15,true))⟩,⟨(some 19),.load none (.tmp 18),(some (15,true))⟩,⟨(some 20),.len (.tmp 19),(some (15,true))⟩,⟨(some 21),.bin .eql false (.tmp 20) (.const (.int .i64 0)),(some (15,true))⟩,⟨(some 22),.pick (.tmp 15) (.tmp 21) (.const (.bool false)),none⟩,⟨(some 23),.nilc (.tmp 4),none⟩,⟨none,.store 1 (.tmp 23) (.tmp 22),none⟩]
theorem lw81:Wm Tryz.prog 81 c81=some (c81,[.cell 10 none],39):=by kernel_rfl
theorem lw124:Wl Tryz.prog 124 c124=some (c124,[],24):=by kernel_rfl
end Go.Fx.H
namespace Go.Fx.H
open Go Go.Fx Go.Proofs Go.Fx.R
set_option maxRecDepth 20000
theorem Vz {h:List Blk} {K:V→Prop} {z:Nat} {sz:Nat} {els:List (List V)} {a u m:Option Int}:rS h z (.ro sz els) a u m K=(sz=z∧cL els.length a u m∧K (roF sz u m els.length ((els.drop (a.getD 0).toNat).take ((u.getD els.length).toNat-(a.getD 0).toNat)))):=rfl
theorem aeO {h:List Blk} {l:List Bs} {K:V→Prop} {k:Nat} (hk:k<l.length) (hK:K (rD (l.take k))):rS h 16 (rD l) none (some (k:Int)) (some (k:Int)) K:=by
 rw [Vz]
 refine ⟨rfl,?_,?_⟩
 ·simp only [cL,ybg,Option.getD_none,yaE];omega
 ·have hne:¬((k:Int)=((l.map us).length:Int)):=by rw [yaE];omega
  simp only [roF,hne,and_false,if_false,ybg,Option.getD_none]
  rw [show yar 0=0 from rfl,ybd,yae,yaT,←ybe]
  exact hK
theorem Yo:[V.v (Value.int IntKind.u8 0),V.v (Value.int IntKind.u8 0),V.v (Value.int IntKind.u8 0),V.v (Value.int IntKind.u8 0),V.v (Value.int IntKind.u8 0),V.v (Value.int IntKind.u8 0),V.v (Value.int IntKind.u8 0),V.v (Value.int IntKind.u8 0),V.v (Value.int IntKind.u8 0),V.v (Value.int IntKind.u8 0),V.v (Value.int IntKind.u8 0),V.v (Value.int IntKind.u8 0),V.v (Value.int IntKind.u8 0),V.v (Value.int IntKind.u8 0),V.v (Value.int IntKind.u8 0),V.v (Value.int IntKind.u8 0)]=us z16:=w16
theorem Qu:gX=z16:=by unfold gX z16;rfl
theorem abL (l:List Bs) (s:Bool) (hD:D16 l) (hl:l.length≤1000000000):OkN Tryz.prog 126 [.ptr 0 0 0] [.var [rD l,.b s]] [] (IsA (.agg (us (l.getLastD gX))) [.var [rD l.dropLast,.b (s||l.isEmpty)]]):=by
 refine fY pol [0] lw126 (by simp) ⟨trivial,trivial⟩ (fun k hk hm=>by simp at hk ⊢;omega) ?_
 unfold c126
 obtain ⟨z1,z2,z3⟩:=dR bM
 simp -implicitDefEqProofs only [rX,↓rY,aA,cells?,splice,↓reduceIte,Nat.reduceEqDiff,Nat.reduceAdd,reduceCtorEq,aE,bG,aO,aP,leH,leB,leV,dQ,aD,aB,wfB,wfV,wfL,isC,Nat.reduceLeDiff,yah,cxN,aF,w16,Yo,z1,z2,z3,eL,bV,bN]
 intro hm
 simp only [br,beq_iff_eq,beq_eq_false_iff_ne]
 refine ⟨fun h1=>?_,fun h1=>?_⟩
 ·have:l=[]:=yaH (by omega)
  subst this
  exact ⟨⟨rfl,by simp⟩,by rw [←Qu];rfl⟩
 ·have hl1:0<l.length:=by omega
  have e1:(l.length:Int)-1=((l.length-1:Nat):Int):=by omega
  have hk:((l.length:Int)-1).toNat<l.length:=by omega
  have hx:l[((l.length:Int)-1).toNat]'hk=l.getLastD gX:=by
   rw [ybq,ybr,yaj (by omega)]
   simp only [ybg]
   congr 1
   omega
  have hd:(l.getLastD gX).length=16:=by rw [←hx];exact hD _ (yal hk)
  obtain ⟨u1,u2,u3⟩:=dR hd
  refine ⟨by simp only [lo,Fx.hi];omega,by omega,hk,?_⟩
  simp only [hx,u1,u2,eL,z3,yap]
  rw [e1]
  refine ⟨yad _,trivial,trivial,by simp only [lo,Fx.hi];omega,by simp only [lo,Fx.hi];omega,aeO (by omega) ?_⟩
  simp -implicitDefEqProofs only [rX,↓rY,leV,dQ,isC,bV]
  rw [ybs]
  have:l.isEmpty=false:=by cases l with|nil=>simp at hl1|cons _ _=>rfl
  simp [this]
theorem abN (l:List Bs) (s ok:Bool) (hl:l.length≤1000000000):CD0 Tryz.prog 124 [.ptr 0 0 0,.ptr 1 0 0] [.var [rD l,.b s],.var [.b ok]] [] (IsA (.tup []) [.var [rD l,.b s],.var [.b (ok&&!s&&l.isEmpty)]]):=by
 refine Yj [0,1] lw124 (by simp) ⟨trivial,trivial,trivial⟩ (fun k hk hm=>by simp at hk ⊢;omega) ?_
 unfold c124
 simp -implicitDefEqProofs only [rX,↓rY,aA,cells?,splice,↓reduceIte,Nat.reduceEqDiff,Nat.reduceAdd,reduceCtorEq,aO,aP,leH,leB,leV,dQ,aD,aB,wfB,wfV,wfL,isC,cxN,aF,bN]
 cases ok<;>cases s<;>simp [br]
 intro _
 cases l<;>simp
 omega
abbrev hC (x:Bs) (l:List Bs) (s:Bool):List Blk:=[.var (us x),.var [.ptr 3 0 0],.var [.clo 125 [.ptr 0 0 0,.ptr 1 0 0,.ptr 2 0 0]],.var [rD l,.b s]]
def oE (l:List Bs) (d:Nat):List Bs:=l.take (l.length-d)
def oW (l:List Bs) (s:Bool) (d:Nat):Bool:=s||decide (l.length<d)
theorem Ng {l:List Bs} {d:Nat}:oE l.dropLast d=oE l (d+1):=by
 unfold oE
 rw [ybs,List.take_take];congr 1;simp;omega
theorem Nf {l:List Bs} {s:Bool} {d:Nat}:oW l.dropLast (s||l.isEmpty) d=oW l s (d+1):=by
 unfold oW
 cases s with
 | true=>simp
 | false =>
  cases l with
  | nil=>simp
  | cons x r=>simp [ybt]
theorem D16.dropLast {l:List Bs} (h:D16 l):D16 l.dropLast:=fun d hd=>h d (List.dropLast_subset l hd)
theorem Us {l:List Bs} (h:D16 l):(l.getLastD gX).length=16:=by
 rw [ybq]
 cases hl:l.getLast? with
 | none=>rfl
 | some x=>exact h x (List.mem_of_getLast? hl)
theorem Ha:∀ (n:Nat) (x:Bs) (i:Nat) (l:List Bs),x.length=16→(cl x i n l).length=16:=by
 intro n x i l hx
 by_cases h2:2≤n
 ·by_cases hi:i<spl n
  ·rw [Jq h2 hi];exact eV
  ·rw [Ek h2 hi];exact eV
 ·rw [xG h2];exact hx
def c125r:LCode:=sqR (sqR (sqR c125))
theorem c125_eq:c125=.seq (sqL c125) (.seq (sqL (sqR c125)) (.seq (sqL (sqR (sqR c125))) c125r)):=rfl
theorem abM:∀ (n:Nat) (x:Bs) (i:Nat) (l:List Bs) (s:Bool),1≤n→i<n→x.length=16→D16 l→l.length≤1000000000→n≤1152921504606846976 →
  OkN Tryz.prog 125 [.i i,.i n,.ptr 0 0 0,.ptr 1 0 0,.ptr 2 0 0] (hC x l s) [] (IsA (.agg (us (cl x i n l))) (hC x (oE l (dep i n)) (oW l s (dep i n)))):=by
 intro n
 induction n using yaG with
 | ind n ih =>
  intro x i l s h1 hi hx hD hl hn
  refine fY pol [0,1,2,3] lw125 (by simp) ⟨trivial,trivial,trivial,trivial,trivial⟩ (fun k hk hm=>by simp at hk ⊢;omega) ?_
  obtain ⟨z1,z2,z3⟩:=dR bM
  obtain ⟨x1,x2,x3⟩:=dR hx
  by_cases h2:2≤n
  ·have hs:=dZ h2
   have hd:=Us hD
   obtain ⟨d1,d2,d3⟩:=dR hd
   have rest:∀ (e:Env) (b:Nat),get e 0=.i i→get e 1=.i n→get e 4=.ptr 2 0 0→get e 7=.ptr 4 0 0→get e 8=.i (spl n)→get e 9=.ptr 5 0 0 →
     aw (cxN Tryz.prog [0,1,2,3]) c125r (eX [0,1,2,3] 4 [fL.cell 7 (some 16)] (IsA (.agg (us (cl x i n l))) (hC x (oE l (dep i n)) (oW l s (dep i n))))) (fun _ _=>False) (eX [0,1,2,3] 4 [fL.cell 7 (some 16)] (IsA (.agg (us (cl x i n l))) (hC x (oE l (dep i n)) (oW l s (dep i n))))) ⟨e,hC x l.dropLast (s||l.isEmpty)++[.var (us z16),.var (us (l.getLastD gX))],b⟩:=by
    intro e b g0 g1 g4 g7 g8 g9
    unfold c125r
    simp -implicitDefEqProofs only [rX,↓rY,c125,sqR,rdK,↓reduceIte,Nat.reduceEqDiff,Nat.reduceAdd,reduceCtorEq,cxN,hC,g0,g1,g4,g8,g9,d1,d2]
    simp only [br,decide_eq_true_eq,decide_eq_false_iff_not]
    refine ⟨fun hi2=>?_,fun hi2=>?_⟩
    ·have hc:=ih (spl n) (by omega) x i l.dropLast (s||l.isEmpty) (by omega) (by omega) hx hD.dropLast (by simp;omega) (by omega)
     rw [Ng,Nf,←xC h2 (by omega)] at hc
     have hcl:=Ha (spl n) x i l.dropLast hx
     obtain ⟨w1,w2,w3⟩:=dR (eV (a:=cl x i (spl n) l.dropLast) (b:=l.getLastD gX))
     rw [Jq h2 (by omega)]
     refine ⟨?_,?_⟩
     all_goals
      refine eR [0,1,2,3] _ (.agg (us (cl x i (spl n) l.dropLast))) (.agg (us (cl x i (spl n) l.dropLast))) (hC x l.dropLast (s||l.isEmpty)) _ (hC x (oE l (dep i n)) (oW l s (dep i n))++[.var (us z16),.var (us (l.getLastD gX))]) hc (by simp) (by simp [blk,bW,cB,ren,aQ,pos]) (by simp [aG,aZ,aS,cJ,wkL,wk,wkR,wkB,pos]) (by simp) (by simp [bW,cB,ren,aQ,back,bZ]) (by simp [ren,aQ]) (by simp [aD,aB,hC]) ?_
      simp -implicitDefEqProofs only [rX,↓rY,rdK,↓reduceIte,Nat.reduceEqDiff,hC,g9,d1,d2]
      refine aC (Nx _ _ hcl hd) ⟨⟨bJ.1,bJ.1,trivial⟩,bJ.2,bJ.2,trivial⟩ (by simp [ren,aQ]) ⟨trivial,trivial,trivial,trivial,trivial⟩ ?_
      simp -implicitDefEqProofs only [rX,↓rY,cells?,splice,↓reduceIte,Nat.reduceEqDiff,Nat.reduceAdd,aO,aP,leH,leB,leV,dQ,aD,aB,wfB,wfV,wfL,g7,z3,w1,w2,eL,bV,bN]
     all_goals exact ⟨by omega,Lx⟩
    ·have e1:(i:Int)-(spl n:Int)=((i-spl n:Nat):Int):=by omega
     have e2:(n:Int)-(spl n:Int)=((n-spl n:Nat):Int):=by omega
     rw [e1,e2]
     have hc:=ih (n-spl n) (by omega) x (i-spl n) l.dropLast (s||l.isEmpty) (by omega) (by omega) hx hD.dropLast (by simp;omega) (by omega)
     rw [Ng,Nf,←xD h2 (by omega)] at hc
     have hcl:=Ha (n-spl n) x (i-spl n) l.dropLast hx
     obtain ⟨w1,w2,w3⟩:=dR (eV (a:=l.getLastD gX) (b:=cl x (i-spl n) (n-spl n) l.dropLast))
     rw [Ek h2 (by omega)]
     refine ⟨by simp only [lo,Fx.hi];omega,by simp only [lo,Fx.hi];omega,?_,?_⟩
     all_goals
      refine eR [0,1,2,3] [.i ((i-spl n:Nat):Int),.i ((n-spl n:Nat):Int),.ptr 0 0 0,.ptr 1 0 0,.ptr 2 0 0] (.agg (us (cl x (i-spl n) (n-spl n) l.dropLast))) (.agg (us (cl x (i-spl n) (n-spl n) l.dropLast))) (hC x l.dropLast (s||l.isEmpty)) _ (hC x (oE l (dep i n)) (oW l s (dep i n))++[.var (us z16),.var (us (l.getLastD gX))]) hc (by simp) (by simp [blk,bW,cB,ren,aQ,pos]) (by simp [aG,aZ,aS,cJ,wkL,wk,wkR,wkB,pos]) (by simp) (by simp [bW,cB,ren,aQ,back,bZ]) (by simp [ren,aQ]) (by simp [aD,aB,hC]) ?_
      simp -implicitDefEqProofs only [rX,↓rY,rdK,↓reduceIte,Nat.reduceEqDiff,hC,g9,d1,d2]
      refine aC (Nx _ _ hd hcl) ⟨⟨bJ.1,bJ.1,trivial⟩,bJ.2,bJ.2,trivial⟩ (by simp [ren,aQ]) ⟨trivial,trivial,trivial,trivial,trivial⟩ ?_
      simp -implicitDefEqProofs only [rX,↓rY,cells?,splice,↓reduceIte,Nat.reduceEqDiff,Nat.reduceAdd,aO,aP,leH,leB,leV,dQ,aD,aB,wfB,wfV,wfL,g7,z3,w1,w2,eL,bV,bN]
     all_goals exact ⟨by omega,Lx⟩
   have hb:((n:Int)==1)=false:=by rw [beq_eq_false_iff_ne];omega
   have c126:=abL l s hD hl
   have e16:16≤(us z16).length:=by omega
   rw [c125_eq]
   simp -implicitDefEqProofs only [rX,↓rY,c125,sqL,sqR,aA,cells?,splice,↓reduceIte,Nat.reduceEqDiff,Nat.reduceAdd,reduceCtorEq,aE,cxN,aF,w16,hC,x1,x2,eL,hb]
   repeat' first
    | exact rest _ _ rfl rfl rfl rfl rfl rfl
    | refine And.intro ?_ ?_
    | (refine aC (Ny n h2 hn) ⟨⟨trivial,trivial⟩,rfl,trivial⟩ rfl (by simp [aD,aB]) ?_
       simp -implicitDefEqProofs only [rX,↓rY,rdK,aA,cells?,↓reduceIte,Nat.reduceEqDiff,reduceCtorEq,aE,w16])
    | (refine eR [3] [.ptr 0 0 0] (.agg (us (l.getLastD gX))) (.agg (us (l.getLastD gX))) [.var [rD l,.b s]] _ (hC x l.dropLast (s||l.isEmpty)++[.var (us z16),.dead]) c126 (by simp) rfl (by simp [aG,aZ,aS,cJ,wkL,wk,wkR,wkB,pos]) (by simp) rfl (by simp [ren,aQ]) (by simp [aD,aB,hC]) ?_
       simp -implicitDefEqProofs only [rX,↓rY,aA,cells?,splice,↓reduceIte,Nat.reduceEqDiff,aE,w16,hC,d1,z1,z3,eL])
    | (refine eR [3] [.ptr 0 0 0] (.agg (us (l.getLastD gX))) (.agg (us (l.getLastD gX))) [.var [rD l,.b s]] _ (hC x l.dropLast (s||l.isEmpty)++[.var (us z16),.var (us z16)]) c126 (by simp) rfl (by simp [aG,aZ,aS,cJ,wkL,wk,wkR,wkB,pos]) (by simp) rfl (by simp [ren,aQ]) (by simp [aD,aB,hC]) ?_
       simp -implicitDefEqProofs only [rX,↓rY,cells?,splice,↓reduceIte,Nat.reduceEqDiff,hC,d1,z1,z3,eL])
  ·have hn1:n=1:=by omega
   subst hn1
   unfold c125
   have hb:(((1:Nat):Int)==1)=true:=rfl
   simp -implicitDefEqProofs only [rX,↓rY,aA,cells?,splice,↓reduceIte,Nat.reduceEqDiff,Nat.reduceAdd,reduceCtorEq,aE,aO,aP,leH,leB,leV,dQ,aD,aB,wfB,wfV,wfL,cxN,aF,w16,hC,z1,z3,x1,x2,eL,bV,bN,hb]
   rw [xG (by omega),uD (by omega)]
   refine ⟨⟨Lx,?_,?_⟩,rfl⟩
   ·unfold oE;rw [yaT,yaZ]
   ·unfold oW;simp
def ckI (x:Bs) (i n:Int) (l:List Bs) (r:Bs):Bool:=if n<1∨1099511627776<n∨i<0∨n≤i then false else jY x i.toNat n.toNat l r
theorem afG (x:Bs) (i n:Int) (l:List Bs) (r:Bs) (hx:x.length=16) (hr:r.length=16) (hD:D16 l) (hl:l.length≤1000000000):Ok 81 [.agg (us x),.i i,.i n,rD l,.agg (us r)] (Is (.b (ckI x i n l r))):=by
 refine Se pol [] lw81 (by simp) trivial (by simp) ?_
 obtain ⟨x1,x2,x3⟩:=dR hx
 obtain ⟨r1,r2,r3⟩:=dR hr
 unfold c81 c81a c81b
 simp -implicitDefEqProofs only [rX,↓rY,rdK,aA,cells?,splice,↓reduceIte,Nat.reduceEqDiff,Nat.reduceAdd,reduceCtorEq,aE,bG,aO,aP,wfV,isC,Nat.reduceLeDiff,cxN,Qg,aF]
 simp only [br,decide_eq_true_eq,decide_eq_false_iff_not]
 refine ⟨fun h1=>?_,fun h1=>⟨fun h2=>?_,fun h2=>⟨fun h3=>?_,fun h3=>⟨fun h4=>?_,fun h4=>?_⟩⟩⟩⟩
 ·rw [ckI,if_pos (.inl h1)]
 ·rw [ckI,if_pos (.inr (.inl h2))]
 ·rw [ckI,if_pos (.inr (.inr (.inl h3)))]
 ·rw [ckI,if_pos (.inr (.inr (.inr h4)))]
 obtain ⟨i,rfl⟩:∃ a:Nat,i=a:=⟨i.toNat,by omega⟩
 obtain ⟨n,rfl⟩:∃ a:Nat,n=a:=⟨n.toNat,by omega⟩
 have hck:ckI x i n l r=jY x i n l r:=by rw [ckI,if_neg (by omega),yae,yae]
 have hcl:=Ha n x i l hx
 have hc:=abM n x i l false (by omega) (by omega) hx hD hl (by omega)
 refine ⟨[3,2],_,⟨rfl,rfl⟩,⟨trivial,trivial,trivial⟩,?_⟩
 have fin:((cl x i n l==r)&&!(oW l false (dep i n))&&(oE l (dep i n)).isEmpty)=jY x i n l r:=by
  unfold jY oW oE
  rw [Bool.and_comm (decide _),Bool.and_assoc]
  congr 1
  rw [yaO]
  simp only [Bool.false_or,Bool.and_eq_true,Bool.not_eq_true',decide_eq_false_iff_not,List.isEmpty_iff,decide_eq_true_eq,List.take_eq_nil_iff]
  constructor
  ·rintro ⟨h5,h6|h6⟩
   ·omega
   ·subst h6;simp at h5 ⊢;omega
  ·intro h5;exact ⟨by omega,.inl (by omega)⟩
 have h124:=abN (oE l (dep i n)) (oW l false (dep i n)) (cl x i n l==r) (by unfold oE;simp;omega)
 rw [fin,←hck] at h124
 refine ⟨?_,by omega,?_⟩
 all_goals
  refine eR [0,4,5,3] [.i i,.i n,.ptr 0 0 0,.ptr 1 0 0,.ptr 2 0 0] (.agg (us (cl x i n l))) (.agg (us (cl x i n l))) (hC x l false) _ [.var (us x),.var (us r),.var [.b false],.var [rD (oE l (dep i n)),.b (oW l false (dep i n))],.var [.ptr 3 0 0],.var [.clo 125 [.ptr 0 0 0,.ptr 4 0 0,.ptr 5 0 0]]] hc (by simp) (by simp [blk,bW,cB,ren,aQ,pos]) (by simp [aG,aZ,aS,cJ,wkL,wk,wkR,wkB,pos]) (by simp) (by simp [bW,cB,ren,aQ,back,bZ]) (by simp [ren,aQ]) (by simp [aD,aB]) ?_
  simp -implicitDefEqProofs only [rX,↓rY,rdK,cells?,splice,↓reduceIte,Nat.reduceEqDiff,isC,r1,r2]
 all_goals
  rw [nH hcl hr]
  refine eR [3,2] [.ptr 0 0 0,.ptr 1 0 0] (.tup []) (.tup []) [.var [rD (oE l (dep i n)),.b (oW l false (dep i n))],.var [.b (cl x i n l==r)]] _ [.var (us x),.var (us r),.var [.b (ckI x i n l r)],.var [rD (oE l (dep i n)),.b (oW l false (dep i n))],.var [.ptr 3 0 0],.var [.clo 125 [.ptr 0 0 0,.ptr 4 0 0,.ptr 5 0 0]]] h124 (by simp) rfl (by simp [aG,aZ,aS,cJ,wkL,wk,wkR,wkB,pos]) (by simp) rfl rfl trivial ?_
  simp -implicitDefEqProofs only [rX,↓rY,↓reduceIte,Nat.reduceEqDiff,aO,aP,wfV]
end Go.Fx.H
namespace Go.Fx.H
open Go Go.Fx Go.Proofs Go.Fx.R
set_option maxRecDepth 20000
def rcl (x:Bs) (i n:Nat) (l:List Bs):Bs × Bool :=
 if h:2≤n then
  (if l=[] then (z16,false)
  else if i<spl n then (nd (rcl x i (spl n) l.dropLast).1 (l.getLastD gX),(rcl x i (spl n) l.dropLast).2)
  else (nd (l.getLastD gX) (rcl x (i-spl n) (n-spl n) l.dropLast).1,(rcl x (i-spl n) (n-spl n) l.dropLast).2))
 else (x,l.isEmpty)
termination_by n
decreasing_by
 all_goals (have:=dZ h;omega)
theorem Aw {x:Bs} {i n:Nat} {l:List Bs} (h:¬2≤n):rcl x i n l=(x,l.isEmpty):=by rw [rcl,dif_neg h]
theorem Ax {x:Bs} {i n:Nat} (h:2≤n):rcl x i n []=(z16,false):=by rw [rcl,dif_pos h,if_pos rfl]
theorem Fy {x:Bs} {i n:Nat} {l:List Bs} (h:2≤n) (hl:l≠[]) (hi:i<spl n):rcl x i n l=(nd (rcl x i (spl n) l.dropLast).1 (l.getLastD gX),(rcl x i (spl n) l.dropLast).2):=by rw [rcl,dif_pos h,if_neg hl,if_pos hi]
theorem Fz {x:Bs} {i n:Nat} {l:List Bs} (h:2≤n) (hl:l≠[]) (hi:¬i<spl n):rcl x i n l=(nd (l.getLastD gX) (rcl x (i-spl n) (n-spl n) l.dropLast).1,(rcl x (i-spl n) (n-spl n) l.dropLast).2):=by rw [rcl,dif_pos h,if_neg hl,if_neg hi]
theorem Ay {x:Bs} {i n:Nat} {l:List Bs} (hx:x.length=16):(rcl x i n l).1.length=16:=by
 by_cases h2:2≤n
 ·by_cases hl:l=[]
  ·subst hl;rw [Ax h2];exact bM
  ·by_cases hi:i<spl n
   ·rw [Fy h2 hl hi];exact eV
   ·rw [Fz h2 hl hi];exact eV
 ·rw [Aw h2];exact hx
theorem Wo:∀ (n:Nat) (x:Bs) (i:Nat) (l:List Bs),(rcl x i n l).2=decide (l.length=dep i n)∧((rcl x i n l).2=true→(rcl x i n l).1=cl x i n l):=by
 intro n
 induction n using yaG with
 | ind n ih =>
  intro x i l
  by_cases h2:2≤n
  ·have hs:=dZ h2
   by_cases hl:l=[]
   ·subst hl
    rw [Ax h2]
    refine ⟨?_,by simp⟩
    by_cases hi:i<spl n
    ·rw [xC h2 hi];simp
    ·rw [xD h2 hi];simp
   ·have hl1:0<l.length:=ybu.2 hl
    by_cases hi:i<spl n
    ·have:=ih (spl n) (by omega) x i l.dropLast
     rw [Fy h2 hl hi,xC h2 hi,Jq h2 hi]
     refine ⟨?_,fun h=>by simp only at h ⊢;rw [this.2 h]⟩
     simp only
     rw [this.1,ybt,yaO]
     simp only [decide_eq_true_eq];omega
    ·have:=ih (n-spl n) (by omega) x (i-spl n) l.dropLast
     rw [Fz h2 hl hi,xD h2 hi,Ek h2 hi]
     refine ⟨?_,fun h=>by simp only at h ⊢;rw [this.2 h]⟩
     simp only
     rw [this.1,ybt,yaO]
     simp only [decide_eq_true_eq];omega
  ·rw [Aw h2,uD h2,xG h2]
   refine ⟨?_,fun _=>rfl⟩
   rw [yaO];simp [List.isEmpty_iff,ybj]
theorem Hz {d:Bs} {b:Bool} {q:List Blk}:wfL q (us d++[V.b b]):=by
 unfold us
 induction d with
 | nil=>simp [wfL,wfV]
 | cons x r ih=>simpa [wfL,wfV] using ih
section
variable {d:Bs} {tl:List V} {v:V}
theorem vD (h:d.length=16):yac 16 (us d++tl)=us d:=by
 have hl:(us d).length=16:=by rw [cG,h]
 rw [yaD (by omega),yaa (by omega)]
theorem In (h:d.length=16):yaf 16 (us d++tl)=tl:=by
 have hl:(us d).length=16:=by rw [cG,h]
 rw [yaF (by omega),yak (by omega)];rfl
theorem vE (h:d.length=16):yaf 17 (us d++[v])=[]:=yak (by simp [cG,h])
theorem Il (h:d.length=16):yac 17 (us d++[v])=us d++[v]:=yaa (by simp [cG,h])
theorem aaC (h:d.length=16):(us d++[v]).length=17:=by simp [cG,h]
theorem Im (h:d.length=16):(us d++[v])[16]?=some v:=by
 have hl:(us d).length=16:=by rw [cG,h]
 rw [yaQ (by omega),hl];rfl
theorem vF {b:Bool}:(us d++[V.b b]).all isC=true:=by rw [yaS,eL];rfl
theorem p_l (h:d.length=16):(us d).length=16:=by rw [cG,h]
theorem p_t (h:d.length=16):yac 16 (us d)=us d:=yaa (by rw [cG,h];exact yad _)
theorem p_d (h:d.length=16):yaf 16 (us d)=[]:=yak (by rw [cG,h];exact yad _)
end
theorem Ma {d:Bs} {b:Bool} {f:Nat→Option Nat}:cB f (us d++[V.b b])=us d++[V.b b]:=by
 unfold us
 induction d with
 | nil=>rfl
 | cons x r ih=>simpa [cB,ren] using ih
theorem Fd:[V.v (Value.int IntKind.u8 0),V.v (Value.int IntKind.u8 0),V.v (Value.int IntKind.u8 0),V.v (Value.int IntKind.u8 0),V.v (Value.int IntKind.u8 0),V.v (Value.int IntKind.u8 0),V.v (Value.int IntKind.u8 0),V.v (Value.int IntKind.u8 0),V.v (Value.int IntKind.u8 0),V.v (Value.int IntKind.u8 0),V.v (Value.int IntKind.u8 0),V.v (Value.int IntKind.u8 0),V.v (Value.int IntKind.u8 0),V.v (Value.int IntKind.u8 0),V.v (Value.int IntKind.u8 0),V.v (Value.int IntKind.u8 0),V.v (Value.bool false)]=us z16++[V.b false]:=by unfold us z16;rfl
theorem abK:∀ (n:Nat) (x:Bs) (i:Nat) (l:List Bs),1≤n→i<n→x.length=16→D16 l→l.length≤1000000000→n≤1152921504606846976 →
  Ok 127 [.agg (us x),.i i,.i n,bD l] (Is (.agg (us (rcl x i n l).1++[.b (rcl x i n l).2]))):=by
 intro n
 induction n using yaG with
 | ind n ih =>
  intro x i l h1 hi hx hD hl hn
  refine a6 lw127 (by simp) ?_
  unfold c127
  simp -implicitDefEqProofs only [rX,↓rY,aA,cells?,splice,↓reduceIte,Nat.reduceEqDiff,Nat.reduceAdd,reduceCtorEq,aE,bG,aO,aP,wfV,Nat.reduceLeDiff,cxN,aF,Fd,bM,hx,vD,In,vE,Il,vF,p_l,p_t,Hz]
  simp only [br,beq_iff_eq,beq_eq_false_iff_ne]
  refine ⟨fun h2 hm=>?_,fun h2 hm=>⟨fun h3=>?_,fun h3=>?_⟩⟩
  ·rw [Aw (by omega)]
   have:((l.length:Int)==0)=l.isEmpty:=by cases l with
    | nil=>rfl
    | cons a r=>simp;omega
   rw [this]
  ·have:l=[]:=yaH (by omega)
   subst this
   rw [Ax (by omega)]
  ·have h22:2≤n:=by omega
   have hs:=dZ h22
   have hl1:0<l.length:=by omega
   have hl0:l≠[]:=ybu.1 hl1
   have hk:((l.length:Int)-1).toNat<l.length:=by omega
   have hxx:l[((l.length:Int)-1).toNat]'hk=l.getLastD gX:=by
    rw [ybq,ybr,yaj (by omega)]
    simp only [ybg]
    congr 1
    omega
   have hd:=Us hD
   refine aC (Nw n h22 hn) ⟨⟨trivial,trivial⟩,rfl,trivial⟩ rfl trivial ?_
   simp -implicitDefEqProofs only [rX,↓rY,aA,cells?,splice,↓reduceIte,Nat.reduceEqDiff,Nat.reduceAdd,reduceCtorEq,aE,cL,yah,w16,bM,hx,p_l,p_t]
   have e1:yac (((l.length:Int)-1).toNat-yar 0) (yaf (yar 0) (yaw us l))=l.dropLast.map us:=by
    rw [show yar 0=0 from rfl,ybd,yaT,ybs,ybe]
    congr 1;omega
   refine fun hm3=>⟨by simp only [lo,Fx.hi];omega,by omega,hk,?_⟩
   simp only [hxx,w16,aeJ,Yo,Fd,bM,hx,hd,eV,vD,In,vE,Il,aaC,Im,vF,p_l,p_t,p_d,eL,bV,Hz,yap,yad]
   rw [e1]
   refine ⟨trivial,trivial,trivial,fun hm4=>⟨by simp only [lo,Fx.hi];omega,by omega,?_⟩⟩
   simp only [br,decide_eq_true_eq,decide_eq_false_iff_not]
   have hdl:l.dropLast.length≤1000000000:=by simp;omega
   refine ⟨fun hi2=>?_,fun hi2=>?_⟩
   ·have hr:=Ay (x:=x) (i:=i) (n:=spl n) (l:=l.dropLast) hx
    refine aC (ih (spl n) (by omega) x i l.dropLast (by omega) (by omega) hx hD.dropLast hdl (by omega)) ⟨⟨bJ.1,trivial,trivial,trivial,trivial⟩,bJ.2,rfl,rfl,⟨rfl,rfl⟩,trivial⟩ (by simp [ren,Ma]) trivial ?_
    simp -implicitDefEqProofs only [rX,↓rY,rdK,aA,cells?,splice,↓reduceIte,Nat.reduceEqDiff,Nat.reduceAdd,aE,Nat.reduceLeDiff,hr,Fd,bM,hd,vD,vE,Im,vF,p_l,p_t,p_d]
    refine aC (Nv _ _ hr hd) ⟨⟨bJ.1,bJ.1,trivial⟩,bJ.2,bJ.2,trivial⟩ (by simp [ren,aQ]) trivial ?_
    simp -implicitDefEqProofs only [rX,↓rY,cells?,splice,↓reduceIte,Nat.reduceEqDiff,Nat.reduceAdd,bG,aO,aP,wfV,Nat.reduceLeDiff,Fd,bM,eV,vD,In,vE,Il,vF,p_l,Hz]
    rw [Fy h22 hl0 (by omega)]
   ·have e5:(i:Int)-(spl n:Int)=((i-spl n:Nat):Int):=by omega
    have e6:(n:Int)-(spl n:Int)=((n-spl n:Nat):Int):=by omega
    rw [e5,e6]
    have hr:=Ay (x:=x) (i:=i-spl n) (n:=n-spl n) (l:=l.dropLast) hx
    refine ⟨by simp only [lo,Fx.hi];omega,by simp only [lo,Fx.hi];omega,?_⟩
    refine aC (ih (n-spl n) (by omega) x (i-spl n) l.dropLast (by omega) (by omega) hx hD.dropLast hdl (by omega)) ⟨⟨bJ.1,trivial,trivial,trivial,trivial⟩,bJ.2,rfl,rfl,⟨rfl,rfl⟩,trivial⟩ (by simp [ren,Ma]) trivial ?_
    simp -implicitDefEqProofs only [rX,↓rY,rdK,aA,cells?,splice,↓reduceIte,Nat.reduceEqDiff,Nat.reduceAdd,aE,Nat.reduceLeDiff,hr,Fd,bM,hd,vD,vE,Im,vF,p_l,p_t,p_d]
    refine aC (Nv _ _ hd hr) ⟨⟨bJ.1,bJ.1,trivial⟩,bJ.2,bJ.2,trivial⟩ (by simp [ren,aQ]) trivial ?_
    simp -implicitDefEqProofs only [rX,↓rY,cells?,splice,↓reduceIte,Nat.reduceEqDiff,Nat.reduceAdd,bG,aO,aP,wfV,Nat.reduceLeDiff,Fd,bM,eV,vD,In,vE,Il,vF,p_l,Hz]
    rw [Fz h22 hl0 (by omega)]
theorem afF (x:Bs) (i n:Int) (l:List Bs) (r:Bs) (hx:x.length=16) (hr:r.length=16) (hD:D16 l) (hl:l.length≤1000000000):Ok 82 [.agg (us x),.i i,.i n,bD l,.agg (us r)] (Is (.b (ckI x i n l r))):=by
 refine a6 lw82 (by simp) ?_
 unfold c82
 simp -implicitDefEqProofs only [rX,↓rY,aA,cells?,↓reduceIte,Nat.reduceEqDiff,Nat.reduceAdd,reduceCtorEq,aE,aO,aP,wfV,cxN,aF,hx,p_l,p_t]
 simp only [br,decide_eq_true_eq,decide_eq_false_iff_not]
 refine ⟨fun h1=>?_,fun h1=>⟨fun h2=>?_,fun h2=>⟨fun h3=>?_,fun h3=>⟨fun h4=>?_,fun h4=>?_⟩⟩⟩⟩
 ·rw [ckI,if_pos (.inl h1)]
 ·rw [ckI,if_pos (.inr (.inl h2))]
 ·rw [ckI,if_pos (.inr (.inr (.inl h3)))]
 ·rw [ckI,if_pos (.inr (.inr (.inr h4)))]
 obtain ⟨i,rfl⟩:∃ a:Nat,i=a:=⟨i.toNat,by omega⟩
 obtain ⟨n,rfl⟩:∃ a:Nat,n=a:=⟨n.toNat,by omega⟩
 have hck:ckI x i n l r=jY x i n l r:=by rw [ckI,if_neg (by omega),yae,yae]
 have hrl:=Ay (x:=x) (i:=i) (n:=n) (l:=l) hx
 refine aC (abK n x i l (by omega) (by omega) hx hD hl (by omega)) ⟨⟨bJ.1,trivial,trivial,trivial,trivial⟩,bJ.2,rfl,rfl,⟨rfl,rfl⟩,trivial⟩ (by simp [ren,Ma]) trivial ?_
 simp -implicitDefEqProofs only [rX,↓rY,aA,cells?,splice,↓reduceIte,Nat.reduceEqDiff,Nat.reduceAdd,reduceCtorEq,aE,aO,aP,wfV,Nat.reduceLeDiff,hrl,hr,Fd,bM,vD,vE,Im,vF,p_l,p_t]
 have hok:=Wo n x i l
 rw [nH hrl hr,hck]
 unfold jY
 rw [←hok.1]
 cases hb:(rcl x i n l).2 with
 | true=>rw [hok.2 hb];simp [br]
 | false=>simp [br]
end Go.Fx.H
namespace Go.Fx.H
open Go Go.Fx Go.Proofs Go.Fx.R
set_option maxRecDepth 20000
def chE (m:Man) (k:Int) (t:Bs) (p:List Bs):Int:=if k<0∨m.n≤k then 1 else if (t.length:Int)≠(m.span k).2-(m.span k).1∨ckI (lf t) k m.n p m.rt=false then 8 else 0
theorem Id {m:Man} {k:Int} (h:m.okP) (h0:0≤k) (hk:k<m.n):0≤(m.span k).1∧(m.span k).1<(m.span k).2∧(m.span k).2≤m.size∧(m.span k).2≤65536:=by
 obtain ⟨p1,p2,p3⟩:=id h
 have hn:=Np h
 have e:m.span k=(k*m.block,min m.size ((k+1)*m.block)):=by unfold Man.span;rw [if_neg (by omega)]
 rw [e]
 have h1:k+1≤(m.size+m.block-1)/m.block:=by
  have:=By (s:=m.size) (b:=m.block) p1.1 p2.1
  unfold Man.n at hk
  omega
 have h2:(k+1)*m.block≤m.size+m.block-1:=(Int.le_ediv_iff_mul_le (by omega)).1 h1
 have h3:(k+1)*m.block=k*m.block+m.block:=by rw [Int.add_mul,Int.one_mul]
 have h4:0≤k*m.block:=Int.mul_nonneg h0 (by omega)
 simp only
 omega
theorem Cv {m:Man} {k:Int} (hk:k<0∨m.n≤k):m.span k=(0,0):=by unfold Man.span;rw [if_pos hk]
theorem Ml {m:Man} {k:Int} (h:m.okP):(0≤(m.span k).1∧(m.span k).1≤65536)∧0≤(m.span k).2∧(m.span k).2≤65536:=by
 by_cases hk:k<0∨m.n≤k
 ·rw [Cv hk];simp
 ·have:=Id h (by omega) (k:=k) (by omega);omega
theorem Xd (m:Man) (k:Int) (t:Bs) (p:List Bs) (h:m.okP) (hr:m.rt.length=16) (ht:t.length≤100000000000) (hD:D16 p) (hp:p.length≤1000000000):Ok 39 [.agg m.enc,.i k,sv t,rD p] (Is (.i (chE m k t p))):=by
 refine a6 lw39 (by simp) ?_
 unfold c39
 obtain ⟨q1,q2,q3⟩:=eO hr
 have sb:=Ml (k:=k) h
 simp -implicitDefEqProofs only [rX,↓rY,aA,cells?,↓reduceIte,Nat.reduceEqDiff,Nat.reduceAdd,reduceCtorEq,aE,cxN,aF,q1,q2]
 refine aC (Xe m k h hr) ⟨⟨b7.1,trivial,trivial⟩,b7.2,rfl,trivial⟩ (by simp [ren,cB,enS]) trivial ?_
 simp -implicitDefEqProofs only [rX,↓rY,qg,rdK,aA,cells?,splice,↓reduceIte,Nat.reduceEqDiff,Nat.reduceAdd,reduceCtorEq,aE,aO,aP,wfV,bR,cF,rE,lG,jR,q1,q2]
 simp only [br,beq_iff_eq,beq_eq_false_iff_ne]
 refine ⟨fun h1=>?_,fun h1=>?_⟩
 ·unfold chE
  have:k<0∨m.n≤k:=by
   rcases Int.lt_or_le k 0 with h2|h2
   ·exact .inl h2
   ·rcases Int.lt_or_le k m.n with h3|h3
    ·have:=Id h h2 h3;omega
    ·exact .inr h3
  rw [if_pos this]
 ·have hin:¬(k<0∨m.n≤k):=fun h2=>h1 (by rw [Cv h2])
  have tk2:yac 16 (yaf 2 m.enc)=us m.rt:=by
   show yac 16 (us m.rt)=_
   exact yaa (by rw [cG,hr];exact yad _)
  refine ⟨by simp only [lo,Fx.hi];omega,fun h2=>?_,fun h2=>?_⟩
  ·unfold chE
   rw [if_neg hin,if_pos (.inl (by simpa using h2))]
  ·have h2':(t.length:Int)=(m.span k).2-(m.span k).1:=by simpa using h2
   refine aC (Xc t ht) ⟨⟨trivial,trivial⟩,rfl,trivial⟩ (by simp [ren,aQ]) trivial ?_
   simp -implicitDefEqProofs only [rX,↓rY,↓reduceIte,Nat.reduceEqDiff,tk2]
   refine aC (Nr m h) fA rfl trivial ?_
   simp -implicitDefEqProofs only [rX,↓rY,↓reduceIte,Nat.reduceEqDiff]
   refine aC (afG (lf t) k m.n p m.rt jX hr hD hp) ⟨⟨bJ.1,trivial,trivial,trivial,bJ.1,trivial⟩,bJ.2,rfl,rfl,⟨rfl,rfl⟩,bJ.2,trivial⟩ rfl trivial ?_
   simp -implicitDefEqProofs only [rX,↓rY,aA,↓reduceIte,Nat.reduceEqDiff,Nat.reduceAdd,aO,aP,wfV]
   unfold chE
   rw [if_neg hin]
   cases hc:ckI (lf t) k m.n p m.rt with
   | true=>simp [br,h2']
   | false=>simp [br,h2']
theorem afP (m:Man) (k:Int) (t:Bs) (p:List Bs) (h:m.okP) (hr:m.rt.length=16) (ht:t.length≤100000000000) (hD:D16 p) (hp:p.length≤1000000000):Ok 40 [.agg m.enc,.i k,sv t,rD p] (Is (.i (chE m k t p))):=by
 refine a6 lw40 (by simp) ?_
 unfold c40
 obtain ⟨q1,q2,q3⟩:=eO hr
 have sb:=Ml (k:=k) h
 have tk2:yac 16 (yaf 2 m.enc)=us m.rt:=by
  show yac 16 (us m.rt)=_
  exact yaa (by rw [cG,hr];exact yad _)
 simp -implicitDefEqProofs only [rX,↓rY,aA,cells?,↓reduceIte,Nat.reduceEqDiff,Nat.reduceAdd,aE,cxN,aF,q1,q2]
 refine aC (Sh m h) fA rfl trivial ?_
 simp -implicitDefEqProofs only [rX,↓rY,aA,↓reduceIte,Nat.reduceEqDiff,reduceCtorEq,aO,aP,wfV,q1,q2]
 simp only [br,decide_eq_true_eq,decide_eq_false_iff_not]
 refine ⟨fun h1=>?_,fun h1=>⟨fun h2=>?_,fun h2=>?_⟩⟩
 ·unfold chE;rw [if_pos (.inl h1)]
 ·unfold chE;rw [if_pos (.inr h2)]
 ·have hin:¬(k<0∨m.n≤k):=by omega
  refine aC (aaI m k h hr) ⟨⟨b7.1,trivial,trivial⟩,b7.2,rfl,trivial⟩ (by simp [ren,cB,enS]) trivial ?_
  simp -implicitDefEqProofs only [rX,↓rY,qg,rdK,aA,cells?,splice,↓reduceIte,Nat.reduceEqDiff,Nat.reduceAdd,reduceCtorEq,aE,aO,aP,wfV,bR,cF,rE,lG,jR,q1,tk2]
  simp only [br]
  refine ⟨by simp only [lo,Fx.hi];omega,fun h2=>?_,fun h2=>?_⟩
  ·unfold chE
   rw [if_neg hin,if_pos (.inl (by simpa using h2))]
  ·have h2':(t.length:Int)=(m.span k).2-(m.span k).1:=by simpa using h2
   refine aC (aaG t ht) ⟨⟨trivial,trivial⟩,rfl,trivial⟩ (by simp [ren,aQ]) trivial ?_
   simp -implicitDefEqProofs only [rX,↓rY,↓reduceIte,Nat.reduceEqDiff]
   refine aC (afF (lf t) k m.n p m.rt jX hr hD hp) ⟨⟨bJ.1,trivial,trivial,trivial,bJ.1,trivial⟩,bJ.2,rfl,rfl,⟨rfl,rfl⟩,bJ.2,trivial⟩ rfl trivial ?_
   simp -implicitDefEqProofs only [rX,↓rY,aA,↓reduceIte,Nat.reduceEqDiff,Nat.reduceAdd,aO,aP,wfV]
   unfold chE
   rw [if_neg hin]
   cases hc:ckI (lf t) k m.n p m.rt with
   | true=>simp [br,h2']
   | false=>simp [br,h2']
def prE (t:Bs) (b k:Int):Int:=if mkE t b≠0 then mkE t b else inE (lvs t b.toNat) k
def prL (t:Bs) (b k:Int):List Bs:=if mkE t b≠0 then [] else inL (lvs t b.toNat) k
theorem Oj {t:Bs} {b:Int} (h:mkE t b=0):1≤b∧b≤4096∧t.length≤65536∧mI t.length b≤4096:=by
 unfold mkE at h
 split at h
 ·omega
 ·split at h
  ·omega
  ·omega
theorem mB {t:Bs} {b:Int}:(mkM t b).rt.length=16:=by
 unfold mkM
 split
 ·exact dI _ _ rfl pT
 ·rfl
theorem rN {f:Nat→Option Nat}:∀ l:List V,(∀ x∈l,∃ u,x=.v u)→cB f l=l
 | [],_=>rfl
 | x::r,h=>by
  obtain ⟨u,rfl⟩:=h x yaU
  show V.v u::cB f r=_
  rw [rN r fun y hy=>h y (ybv _ hy)]
theorem vP {m:Man} {f:Nat→Option Nat}:cB f m.enc=m.enc:=rN _ nC
theorem yT {m:Man} {n:Int} {f:Nat→Option Nat}:cB f (m.enc++[.i n])=m.enc++[.i n]:=rN _ (by
 intro x hx
 rcases yaz.1 hx with h|h
 ·exact nC x h
 ·simp at h;exact ⟨_,h⟩)
theorem aaK (t:Bs) (b k:Int) (ht:t.length≤1000000000):Ok 29 [sv t,.i b,.i k] (Is (.tup [rD (prL t b k),.i (prE t b k)])):=by
 refine eM (R:=fun q hs=>wk (.tup [rD (prL t b k),.i (prE t b k)]) (gvV (fun _=>true) hs q)) ?_ fun _ _ h=>h
 refine a6 lw29 (by simp) ?_
 unfold c29
 obtain ⟨q1,q2,q3⟩:=eO (m:=mkM t b) mB
 obtain ⟨s1,s2,s3⟩:=eO (m:=gS) rfl
 simp -implicitDefEqProofs only [rX,aA,↓reduceIte,Nat.reduceEqDiff,Nat.reduceAdd,reduceCtorEq,cxN,aF]
 refine aC (Xg t b ht) ⟨⟨trivial,trivial,trivial⟩,rfl,rfl,trivial⟩ (by simp [ren,cB,vP]) trivial ?_
 simp -implicitDefEqProofs only [rX,↓rY,aA,cells?,splice,↓reduceIte,Nat.reduceEqDiff,reduceCtorEq,aE,aO,aP,aD,wfV,wfL,q1,s1,s3,vQ,cO,zM]
 simp only [br,bne_iff_ne,bne_eq_false_iff_eq]
 refine ⟨fun h1=>⟨([]:List Blk),⟨trivial,yab _,trivial⟩,?_⟩,fun h1=>?_⟩
 ·rw [prL,prE,if_pos h1,if_pos h1];simp [gvV,gvL,wk,wkL,wkR]
 ·obtain ⟨b1,b2,b3,b4⟩:=Oj h1
  obtain ⟨n,rfl⟩:∃ n:Nat,b=n:=⟨b.toNat,by omega⟩
  refine aC (Si t n ⟨by omega,by omega⟩ ht) ⟨⟨trivial,trivial,trivial⟩,rfl,rfl,trivial⟩ (by simp [ren]) trivial ?_
  simp -implicitDefEqProofs only [rX,↓reduceIte,Nat.reduceEqDiff,reduceCtorEq]
  have hn:nb t.length n≤t.length:=vI (by omega)
  refine aC (afJ (lvs t n) k pT (by rw [fP];omega)) ⟨⟨trivial,trivial,trivial⟩,⟨rfl,rfl⟩,rfl,trivial⟩ (by simp [ren,cB]) trivial ?_
  simp -implicitDefEqProofs only [rX,↓rY,↓reduceIte,Nat.reduceEqDiff,aO,aP,aD,wfV,wfL,cO]
  refine ⟨([]:List Blk),⟨trivial,yab _,trivial⟩,?_⟩
  rw [prL,prE,if_neg (by simpa using h1),if_neg (by simpa using h1),yae]
  simp [gvV,gvL,wk,wkL,wkR]
theorem acI {t:Bs} {n:Nat} {k:Int} (hb:1≤n):(k<0∨mI t.length n≤k)=(k<0∨((lvs t n).length:Int)≤k):=by rw [fP,Of hb]
theorem afR (t:Bs) (b k:Int) (ht:t.length≤1000000000):Ok 30 [sv t,.i b,.i k] (Is (.agg [rD (prL t b k),.i (prE t b k)])):=by
 refine eM (R:=fun q hs=>wk (.agg [rD (prL t b k),.i (prE t b k)]) (gvV (fun _=>true) hs q)) ?_ fun _ _ h=>h
 refine a6 lw30 (by simp) ?_
 unfold c30
 obtain ⟨q1,q2,q3⟩:=eO (m:=mkM t b) mB
 obtain ⟨s1,s2,s3⟩:=eO (m:=gS) rfl
 obtain ⟨r1,r2,r3,r4,r5⟩:=yU (m:=mkM t b) mB (x:=.i (mkE t b)) (y:=.i 0) rfl (fun _=>trivial)
 obtain ⟨v1,v2,v3,v4,v5⟩:=yU (m:=gS) rfl (x:=.i 0) (y:=.i 0) rfl (fun _=>trivial)
 have g18:((mkM t b).enc++[V.i (mkE t b)])[18]?=some (V.i (mkE t b)):=by
  rw [yaQ (by omega),q1];rfl
 simp -implicitDefEqProofs only [rX,↓rY,aA,cells?,↓reduceIte,Nat.reduceEqDiff,Nat.reduceAdd,reduceCtorEq,aE,cxN,aF]
 refine aC (aaL t b ht) ⟨⟨trivial,trivial,trivial⟩,rfl,rfl,trivial⟩ (by simp [ren,cB,yT]) trivial ?_
 simp -implicitDefEqProofs only [rX,↓rY,aA,cells?,splice,↓reduceIte,Nat.reduceEqDiff,Nat.reduceAdd,reduceCtorEq,aE,bG,aO,aP,aD,wfV,wfL,isC,Nat.reduceLeDiff,cO,Qt,r1,r4,r5,v2,v5,g18]
 simp only [br,bne_iff_ne,bne_eq_false_iff_eq]
 refine ⟨fun h1=>⟨([]:List Blk),⟨trivial,yab _,trivial⟩,?_⟩,fun h1=>?_⟩
 ·rw [prL,prE,if_pos h1,if_pos h1];simp [gvV,gvL,wk,wkL,wkR]
 ·obtain ⟨b1,b2,b3,b4⟩:=Oj h1
  obtain ⟨n,rfl⟩:∃ n:Nat,b=n:=⟨b.toNat,by omega⟩
  have hn:nb t.length n≤t.length:=vI (by omega)
  have hm:mkM t n=⟨t.length,n,root (lvs t n)⟩:=by unfold mkM;rw [if_pos h1,yae]
  have hmo:(mkM t n).okP:=by rw [hm];exact ⟨⟨by simp,by simp;omega⟩,⟨by simp;omega,by simp;omega⟩,b4⟩
  have hmn:(mkM t n).n=mI t.length n:=by rw [hm];rfl
  have he:=acI (t:=t) (n:=n) (k:=k) (by omega)
  have er:prE t n k=inE (lvs t n) k∧prL t n k=inL (lvs t n) k:=by
   rw [prL,prE,if_neg (by simpa using h1),if_neg (by simpa using h1),yae];exact ⟨rfl,rfl⟩
  simp only [decide_eq_true_eq,decide_eq_false_iff_not]
  refine ⟨fun h2=>⟨([]:List Blk),⟨trivial,yab _,trivial⟩,?_⟩,fun h2=>?_⟩
  ·rw [er.1,er.2,inE,inL,if_pos (.inl h2),if_pos (.inl h2)];simp [gvV,gvL,wk,wkL,wkR]
  ·refine aC (Sh (mkM t n) hmo) fA rfl trivial ?_
   simp -implicitDefEqProofs only [rX,↓rY,aA,cells?,splice,↓reduceIte,Nat.reduceEqDiff,Nat.reduceAdd,reduceCtorEq,bG,aO,aP,aD,wfV,wfL,isC,cO,hmn]
   simp only [br,decide_eq_true_eq,decide_eq_false_iff_not]
   refine ⟨fun h3=>⟨([]:List Blk),⟨trivial,yab _,trivial⟩,?_⟩,fun h3=>?_⟩
   ·have h3':k<0∨((lvs t n).length:Int)≤k:=he▸.inr h3
    rw [er.1,er.2,inE,inL,if_pos h3',if_pos h3'];simp [gvV,gvL,wk,wkL,wkR]
   ·refine aC (Xf t n ⟨by omega,by omega⟩ ht) ⟨⟨trivial,trivial,trivial⟩,rfl,rfl,trivial⟩ (by simp [ren]) trivial ?_
    simp -implicitDefEqProofs only [rX,↓reduceIte,Nat.reduceEqDiff,reduceCtorEq]
    refine aC (afI (lvs t n) k pT (by rw [fP];omega)) ⟨⟨trivial,trivial,trivial⟩,⟨rfl,rfl⟩,rfl,trivial⟩ (by simp [ren,cB]) trivial ?_
    simp -implicitDefEqProofs only [rX,↓rY,aA,cells?,splice,↓reduceIte,Nat.reduceEqDiff,Nat.reduceAdd,aE,bG,aO,aP,aD,wfV,wfL,isC,Nat.reduceLeDiff,cO]
    refine ⟨([]:List Blk),⟨trivial,yab _,trivial⟩,?_⟩
    rw [er.1,er.2]
    simp [gvV,gvL,wk,wkL,wkR]
end Go.Fx.H
namespace Go.Fx.H
open Go Go.Fx Go.Proofs Go.Fx.R
set_option maxRecDepth 20000
theorem afL (l m:List Sp):Ok 66 [aR l,aR m] (Is (.b (l==m))):=by
 refine a6 lw66 (by simp) ?_
 unfold c66 aR
 simp -implicitDefEqProofs only [rX,↓rY,aA,↓reduceIte,Nat.reduceEqDiff,reduceCtorEq,aO,aP,wfV,cxN,aF]
 intro hm1 hm2
 have hne:∀ j (h1:j<l.length) (h2:j<m.length),l[j]≠m[j]→(l==m)=false:=by
  intro j h1 h2 hne
  rw [beq_eq_false_iff_ne]
  intro e
  subst e
  exact hne rfl
 cases hb:(decide ((l.length:Int)=m.length)) with
 | false =>
  have hb':((l.length:Int) != (m.length:Int))=true:=by simpa using hb
  simp -implicitDefEqProofs only [↓rY,hb']
  rw [eq_comm,beq_eq_false_iff_ne]
  rintro rfl
  simp at hb
 | true =>
  have hb':((l.length:Int) != (m.length:Int))=false:=by simpa using hb
  have hlm:l.length=m.length:=by rw [decide_eq_true_eq] at hb;omega
  simp -implicitDefEqProofs only [↓rY,hb']
  refine aX (fun k:Nat=>⟨[(5,.i k),(1,.ro 2 (m.map enS)),(0,.ro 2 (l.map enS))],[],0⟩) (fun k=>k≤l.length∧l.take k=m.take k) (fun k=>l.length-k) 0 ⟨by omega,by simp⟩ ?_ ?_
  ·simp -implicitDefEqProofs only [rX,↓reduceIte,Nat.reduceEqDiff,reduceCtorEq,leE,leH,aD,wfE,wfB,wfV,yaC]
  rintro k ⟨hk,hv⟩
  unfold c66l0
  simp -implicitDefEqProofs only [rX,↓rY,aA,↓reduceIte,Nat.reduceEqDiff,reduceCtorEq,aO,aP,leE,leH,aD,wfE,wfB,wfV,yah,yae,cF,cQ,Uv]
  simp only [br,decide_eq_true_eq,decide_eq_false_iff_not]
  refine fun hm'=>⟨fun h=>?_,fun h=>?_⟩
  ·have hk':k<l.length:=by omega
   have hk2:k<m.length:=by omega
   refine ⟨⟨by omega,h⟩,hk',⟨by omega,by omega⟩,hk2,?_⟩
   cases he:(l[k]==m[k]) with
   | true =>
    have he':l[k]=m[k]:=by simpa using he
    refine ⟨by simp,fun _=>⟨by simp only [lo,hi,maxLen] at *;omega,k+1,⟨⟨by omega,?_⟩,by omega⟩,by simp⟩⟩
    rw [yaq,yaq,hv,yaj hk',yaj hk2,he']
   | false=>exact ⟨fun _=>(hne k hk' hk2 (by simpa using he)).symm,by simp⟩
  ·have h1:l.take k=l:=yaa (by omega)
   have h2:m.take k=m:=yaa (by omega)
   rw [h1,h2] at hv
   simp [hv]
end Go.Fx.H
namespace Go.Fx.H
open Go Go.Fx Go.Proofs Go.Fx.R
set_option maxRecDepth 20000
end Go.Fx.H
namespace Go.Fx.H
open Go Go.Fx Go.Proofs Go.Fx.R
set_option maxRecDepth 20000
end Go.Fx.H
namespace Go.Fx.H
open Go Go.Fx Go.Proofs Go.Fx.R
set_option maxRecDepth 20000
def cov (l:List Sp) (s:Sp):Bool:=(m9 (ofS [s]) l).isEmpty
theorem Sm {s:Sp} (h:BdS s):Mid [s]:=by
 intro t ht
 simp at ht;subst ht
 unfold BdS at h;omega
theorem Vq {s:Sp} (h:BdS s):Vd (ofS [s]):=Vd.of (by
 intro t ht;simp at ht;subst ht;exact h)
theorem afE (l:List Sp) (s:Sp) (hl:Vd l) (hs:BdS s):Ok 83 [aR l,.agg (enS s)] (Is (aR (m9 (ofS [s]) l))):=by
 refine a6 lw83 (by simp) ?_
 unfold c83
 simp -implicitDefEqProofs only [rX,↓rY,aA,cells?,↓reduceIte,Nat.reduceEqDiff,reduceCtorEq,aE,b5,Nat.reduceLT,cxN,cF,cQ,oL,aF]
 refine d5 [1] [0] [1] [.sl 0 0 1] (aR (ofS [s])) (aR (ofS [s])) [.arr 2 [enS s]] [.dead] _ _ (Uj [s] (by simp) (Sm hs)) (by simp) (by simp) (by simp [blk,bW]) (by simp [aG,aZ,aS,cJ,wkL,wk,wkR,pos]) rfl rfl rfl trivial ?_
 simp -implicitDefEqProofs only [rX,↓reduceIte,Nat.reduceEqDiff,Nat.reduceAdd,reduceCtorEq,aT,aY,kill,St.kill,iY]
 refine aC (afN (ofS [s]) l (Vq hs) hl) ⟨⟨trivial,trivial,trivial⟩,⟨rfl,rfl⟩,⟨rfl,rfl⟩,trivial⟩ rfl trivial ?_
 simp -implicitDefEqProofs only [rX,↓reduceIte,aO,aP,wfV]
theorem Td {l:List Sp}:((l.length:Int)==0)=l.isEmpty:=by
 cases l with
 | nil=>rfl
 | cons a r=>simp;omega
theorem afO (l:List Sp) (s:Sp) (hl:Vd l) (hs:BdS s):Ok 42 [aR l,.agg (enS s)] (Is (.b (cov l s))):=by
 refine a6 lw42 (by simp) ?_
 unfold c42
 simp -implicitDefEqProofs only [rX,↓rY,aA,cells?,↓reduceIte,Nat.reduceEqDiff,reduceCtorEq,aE,cxN,cF,cQ,aF]
 refine aC (afE l s hl hs) ⟨⟨trivial,⟨trivial,trivial,trivial⟩,trivial⟩,⟨rfl,rfl⟩,⟨rfl,rfl,trivial⟩,trivial⟩ rfl trivial ?_
 simp -implicitDefEqProofs only [rX,↓rY,aA,↓reduceIte,aO,aP,wfV]
 intro hm
 rw [Td];rfl
end Go.Fx.H
namespace Go.Fx.H
open Go Go.Fx Go.Proofs Go.Fx.R
set_option maxRecDepth 20000
def spn (t:Bs) (b i:Nat):Sp:=(((i*b:Nat):Int),((i*b:Nat):Int)+((bk t b i).length:Int))
def iW (hv:List Sp):Int:=(hv.getLast?.map (·.2)).getD 0
def dmE (m:Man) (ls:List Bs) (t:Bs) (hv:List Sp):Int :=
 if (ls.length:Int)≠m.n∨(t.length:Int)≠m.size∨vd hv=false∨(hv≠[]∧m.size<iW hv) then 1 else if root ls≠m.rt then 8 else 0
def dmg (ls:List Bs) (t:Bs) (b:Nat) (hv:List Sp) (i:Nat):Bool:=(lf (bk t b i) != ls.getD i [])&&cov hv (spn t b i)
def dmO (ls:List Bs) (t:Bs) (b:Nat) (hv:List Sp) (n:Nat):List Sp:=((List.range n).filter (dmg ls t b hv)).map (spn t b)
def dmL (m:Man) (ls:List Bs) (t:Bs) (hv:List Sp):List Sp:=if dmE m ls t hv≠0 then [] else ofS (dmO ls t m.block.toNat hv (nb t.length m.block.toNat))
theorem dm1 {m:Man} {ls:List Bs} {t:Bs} {hv:List Sp} (h:(ls.length:Int)≠m.n∨(t.length:Int)≠m.size∨vd hv=false∨(hv≠[]∧m.size<iW hv)):dmE m ls t hv=1:=if_pos h
theorem dm8 {m:Man} {ls:List Bs} {t:Bs} {hv:List Sp} (h:¬((ls.length:Int)≠m.n∨(t.length:Int)≠m.size∨vd hv=false∨(hv≠[]∧m.size<iW hv))) (h2:root ls≠m.rt):dmE m ls t hv=8:=by
 unfold dmE;rw [if_neg h,if_pos h2]
theorem dm0 {m:Man} {ls:List Bs} {t:Bs} {hv:List Sp} (h:¬((ls.length:Int)≠m.n∨(t.length:Int)≠m.size∨vd hv=false∨(hv≠[]∧m.size<iW hv))) (h2:root ls=m.rt):dmE m ls t hv=0:=by
 unfold dmE;rw [if_neg h,if_neg (by simpa using h2)]
theorem Gp {hv:List Sp} (h:hv≠[]) {hh:((hv.length:Int)-1).toNat<hv.length}:(hv[((hv.length:Int)-1).toNat]'hh).2=iW hv:=by
 unfold iW
 rw [ybr]
 have e:((hv.length:Int)-1).toNat=hv.length-1:=by omega
 rw [←e,yaj hh];rfl
def pt:Nat→LCode→LCode
 | 0,.seq a _=>a
 | n+1,.seq _ b=>pt n b
 | _,c=>c
def rt:Nat→LCode→LCode
 | 0,c=>c
 | n+1,.seq _ b=>rt n b
 | _,c=>c
abbrev cT:Cx:=cxN Tryz.prog []
structure E14 (m:Man) (ls:List Bs) (t:Bs) (e:Env):Prop where
 g2:get e 2=sv t
 g4:get e 4=.ptr 0 0 0
 g5:get e 5=.ptr 1 0 0
 g7:get e 7=.ptr 2 0 0
abbrev h14 (m:Man) (ls:List Bs) (hv:List Sp):List Blk:=[.var m.enc,.var [bD ls],.var [aR hv]]
theorem c14_parts:c14=.seq (pt 0 c14) (.seq (pt 1 c14) (rt 2 c14)):=by rfl
section
variable {m:Man} {ls:List Bs} {t:Bs} {hv:List Sp} {N R:St→Prop} {X:Nat→St→Prop} {e:Env}
theorem Zh (hm:m.okP) (hr:m.rt.length=16) (hD:D16 ls) (hl:ls.length≤1000000000) (hh:hv.length≤1000000000) (hE:E14 m ls t e)
  (hN:∀ e',E14 m ls t e'→dmE m ls t hv=0→N ⟨e',h14 m ls hv,3⟩)
  (hR:∀ e' k,get e' 8=.v (.slice none 0 0)→get e' 9=.v (.int .i64 k)→dmE m ls t hv=k→k≠0→R ⟨e',h14 m ls hv,3⟩) :
  aw cT (pt 1 c14) N X R ⟨e,h14 m ls hv,3⟩:=by
 obtain ⟨g2,g4,g5,g7⟩:=hE
 obtain ⟨q1,q2,q3⟩:=eO (m:=m) hr
 have m0:m.enc[0]?=some (.i m.size):=rfl
 have tk2:yac 16 (yaf 2 m.enc)=us m.rt:=by
  show yac 16 (us m.rt)=_
  exact yaa (by rw [cG,hr];exact yad _)
 conv=>arg 2;whnf
 simp -implicitDefEqProofs only [rX,↓rY,rdK,↓reduceIte,Nat.reduceEqDiff,Nat.reduceAdd,cxN,q1,q2,g4,g5]
 intro _
 refine aC (Nr m hm) fA rfl trivial ?_
 cases h1:((ls.length:Int) != m.n) with
 | true =>
  simp -implicitDefEqProofs only [rX,↓rY,qg,rdK,aA,↓reduceIte,Nat.reduceEqDiff,Nat.reduceAdd,h1]
  exact hR _ 1 rfl rfl (dm1 (.inl (by simpa using h1))) (by decide)
 | false =>
 simp -implicitDefEqProofs only [rX,↓rY,qg,rdK,aA,↓reduceIte,Nat.reduceEqDiff,Nat.reduceAdd,bR,h1,m0,g2,g4,g7]
 cases h2:((t.length:Int) != m.size) with
 | true =>
  simp -implicitDefEqProofs only [↓rY,kf]
  exact hR _ 1 rfl rfl (dm1 (.inr (.inl (by simpa using h2)))) (by decide)
 | false =>
 simp -implicitDefEqProofs only [↓rY,kg]
 refine aC (aaH hv) ⟨⟨trivial,trivial⟩,⟨rfl,rfl⟩,trivial⟩ rfl trivial ?_
 cases h3:vd hv with
 | false =>
  simp -implicitDefEqProofs only [rX,↓rY,rdK,aA,↓reduceIte,Nat.reduceEqDiff,Nat.reduceAdd]
  exact hR _ 1 rfl rfl (dm1 (.inr (.inr (.inl h3)))) (by decide)
 | true =>
 have hx1:(ls.length:Int)=m.n:=by simpa using h1
 have hx2:(t.length:Int)=m.size:=by simpa using h2
 simp -implicitDefEqProofs only [rX,↓rY,rdK,aA,↓reduceIte,Nat.reduceEqDiff,Nat.reduceAdd,yah,lG,g4,g5,g7]
 intro _
 have hor:hv=[]∨hv≠[]:=by cases hv<;>simp
 rcases hor with rfl|hne
 ·have hz:¬((ls.length:Int)≠m.n∨(t.length:Int)≠m.size∨vd []=false∨(([]:List Sp)≠[]∧m.size<iW [])):=by simp [hx1,hx2,h3]
  simp -implicitDefEqProofs only [rX,↓rY,yaC,Int.lt_irrefl,decide_false,kg,tk2,q1]
  refine aC (Nq _ ls rfl hD (by omega)) ⟨⟨trivial,trivial⟩,⟨rfl,rfl⟩,trivial⟩ (by simp [ren,aQ]) trivial ?_
  simp -implicitDefEqProofs only [rX,aA,↓reduceIte,Nat.reduceEqDiff,Nat.reduceAdd,nH (dI _ ls rfl hD) hr]
  cases h5:(root ls==m.rt) with
  | false =>
   simp only [ybh,kf]
   exact hR _ 8 rfl rfl (dm8 hz (by simpa using h5)) (by decide)
  | true =>
   simp only [ybi,kg]
   exact hN _ ⟨g2,g4,g5,g7⟩ (dm0 hz (by simpa using h5))
 ·have hp:0<hv.length:=ybu.2 hne
  have hlt:=fun hh=>Gp hne (hh:=hh)
  simp -implicitDefEqProofs only [rX,↓rY,decide_eq_true (show (0:Int)<(hv.length:Int) by omega),kf,m0,tk2,q1]
  intro _
  refine ⟨by simp only [lo,Fx.hi];omega,by omega,by omega,?_⟩
  rw [hlt]
  cases h4:decide (m.size<iW hv) with
  | true =>
   simp -implicitDefEqProofs only [↓rY,kf]
   exact hR _ 1 rfl rfl (dm1 (.inr (.inr (.inr ⟨hne,by simpa using h4⟩)))) (by decide)
  | false =>
  have hz:¬((ls.length:Int)≠m.n∨(t.length:Int)≠m.size∨vd hv=false∨(hv≠[]∧m.size<iW hv)):=by
   have:¬m.size<iW hv:=by simpa using h4
   simp [hx1,hx2,h3,this]
  simp -implicitDefEqProofs only [↓rY,kg]
  refine aC (Nq _ ls rfl hD (by omega)) ⟨⟨trivial,trivial⟩,⟨rfl,rfl⟩,trivial⟩ (by simp [ren,aQ]) trivial ?_
  simp -implicitDefEqProofs only [rX,aA,↓reduceIte,Nat.reduceEqDiff,Nat.reduceAdd,nH (dI _ ls rfl hD) hr]
  cases h5:(root ls==m.rt) with
  | false =>
   simp only [ybh,kf]
   exact hR _ 8 rfl rfl (dm8 hz (by simpa using h5)) (by decide)
  | true =>
   simp only [ybi,kg]
   exact hN _ ⟨g2,g4,g5,g7⟩ (dm0 hz (by simpa using h5))
end
abbrev hpD (m:Man) (ls:List Bs) (t:Bs) (hv:List Sp) (b:Nat) (i:Nat):List Blk:=[.var m.enc,.var [bD ls],.var [aR hv],.var [.sl 7 0 (dmO ls t b hv i).length],.var [sv t],.var [.i b],.rcd .ready [(58,.clo 111 [.ptr 4 0 0,.ptr 5 0 0]),(10,.ptr 3 0 0),(2,sv t),(4,.ptr 0 0 0),(5,.ptr 1 0 0),(7,.ptr 2 0 0)],.arr 2 ((dmO ls t b hv i).map enS)]
theorem itD (m:Man) (ls:List Bs) (t:Bs) (hv:List Sp) (b:Nat) (hb:1≤b∧b≤1000000000) (ht:t.length≤1000000000):ItB (hpD m ls t hv b) 8 t b 6 4 5 [6]:=by
 refine ⟨hb,ht,fun g=>rfl,fun g tl=>rfl,fun g tl=>rfl,fun g=>⟨trivial,trivial⟩,fun g=>?_,fun g=>⟨_,_,rfl⟩⟩
 simp -implicitDefEqProofs only [rX,aB,wfE,wfB,wfV,wfL,sG]
theorem Mk {t:Bs} {b g:Nat} (hb:1≤b∧b≤1000000000) (ht:t.length≤1000000000) (h:g<nb t.length b):BdS (spn t b g)∧(spn t b g).1<(spn t b g).2:=by
 have hlt:=(s6 hb.1).2 h
 have hl:=xP (t:=t) (b:=b) (j:=g)
 unfold BdS spn
 simp only
 omega
theorem lH {ls:List Bs} {t:Bs} {b:Nat} {hv:List Sp} {n:Nat}:dmO ls t b hv (n+1)=dmO ls t b hv n++if dmg ls t b hv n=true then [spn t b n] else []:=by
 unfold dmO
 rw [List.range_succ,List.filter_append,yas]
 congr 1
 cases h:dmg ls t b hv n<;>simp [h]
theorem Te {ls:List Bs} {t:Bs} {b:Nat} {hv:List Sp} {n:Nat} (hb:1≤b∧b≤1000000000) (ht:t.length≤1000000000) (h:n≤nb t.length b):Mid (dmO ls t b hv n):=by
 intro s hs
 obtain ⟨g,hg,rfl⟩:=ybo.1 hs
 have hg2:=List.mem_range.1 (List.mem_filter.1 hg).1
 have:=Mk hb ht (show g<nb t.length b by omega)
 unfold BdS at this
 omega
theorem Pt {ls:List Bs} {t:Bs} {b:Nat} {hv:List Sp} {n:Nat}:(dmO ls t b hv n).length≤n:=by
 unfold dmO
 rw [yaE]
 exact Nat.le_trans (yby _ _) (by simp)
theorem iG {m:Man} {M:List Nat}:bO M m.enc=m.enc:=lY _ nC
theorem acQ {m:Man} {ls:List Bs} {t:Bs} {hv:List Sp} {b:Nat} (hm:m.okP) (hb1:1≤b) (hb:m.block=b) (h:dmE m ls t hv=0):ls.length=nb t.length b∧Vd hv:=by
 unfold dmE at h
 split at h
 ·omega
 ·rename_i h1
  have h2:(ls.length:Int)=m.n:=Decidable.byContradiction fun c=>h1 (.inl c)
  have h3:(t.length:Int)=m.size:=Decidable.byContradiction fun c=>h1 (.inr (.inl c))
  have h4:vd hv=true:=by
   cases hv':vd hv with
   | true=>rfl
   | false=>exact absurd (.inr (.inr (.inl hv'))) h1
  refine ⟨?_,Lu.1 h4⟩
  unfold Man.n at h2
  rw [←h3,hb,Of hb1] at h2
  omega
theorem afW (m:Man) (ls:List Bs) (t:Bs) (hv:List Sp) (hm:m.okP) (hr:m.rt.length=16) (hD:D16 ls) (hl:ls.length≤1000000000) (ht:t.length≤1000000000) (hh:hv.length≤1000000000) :
  Ok 14 [.agg m.enc,bD ls,sv t,aR hv] (Is (.tup [aR (dmL m ls t hv),.i (dmE m ls t hv)])):=by
 refine eM (R:=fun q hs=>wk (.tup [aR (dmL m ls t hv),.i (dmE m ls t hv)]) (gvV (fun _=>true) hs q)) ?_ fun _ _ h=>h
 refine a6 lw14 (by simp) ?_
 rw [c14_parts]
 obtain ⟨q1,q2,q3⟩:=eO (m:=m) hr
 obtain ⟨b,hb,hb2⟩:∃ b:Nat,m.block=b∧(1≤b∧b≤4096):=⟨m.block.toNat,by have:=hm.2.1;omega,by have:=hm.2.1;omega⟩
 have m1:m.enc[1]?=some (.i b):=by rw [←hb];rfl
 simp -implicitDefEqProofs only [qL]
 conv=>arg 2;whnf
 simp -implicitDefEqProofs only [rX,↓rY,aA,cells?,↓reduceIte,Nat.reduceEqDiff,Nat.reduceAdd,reduceCtorEq,aE,cxN,aF]
 refine Zh hm hr hD hl hh ⟨rfl,rfl,rfl,rfl⟩ ?_ ?_
 ·rintro e ⟨g2,g4,g5,g7⟩ he0
  obtain ⟨hln,hvv⟩:=acQ hm hb2.1 hb he0
  conv=>arg 2;whnf
  simp -implicitDefEqProofs only [rX,↓rY,aA,cells?,↓reduceIte,Nat.reduceEqDiff,Nat.reduceAdd,aE,g2,g4,m1]
  refine dW [sv t,.i b] (.clo 111 [.ptr 0 0 0,.ptr 1 0 0]) (.clo 111 [.ptr 4 0 0,.ptr 5 0 0]) [.var [sv t],.var [.i b]] [.var [sv t],.var [.i b]] (Xa t b) ⟨⟨trivial,trivial,trivial⟩,rfl,rfl,trivial⟩ (by simp [ren,cB]) (by simp [bW,cB,ren]) trivial ?_
  simp -implicitDefEqProofs only [rX]
  refine uY 6 rfl rfl trivial ?_
  refine rI (as':=[.itr 6,.ptr 4 0 0,.ptr 5 0 0]) (h':=hpD m ls t hv b 0) rfl ⟨_,.virt 1 2 (by decide) (.nilB 3 [.nil] [.sl 7 0 0] rfl ⟨rfl,fun i a b h1 h2=>?_⟩ (.refl _)),?_⟩ (Oy (Inv:=fun i g=>g=i) (itD m ls t hv b (by omega) ht) ?_ ?_ _ rfl)
  ·match i with
   | 0=>simp at h1 h2;subst h1 h2;exact .inr ⟨rfl,_,rfl⟩
   | i+1=>simp at h1
  ·simp -implicitDefEqProofs only [rX,↓reduceIte,Nat.reduceEqDiff,Nat.reduceAdd,reduceCtorEq,leE,leH,leB,leV,dQ,aD,aB,wfE,wfB,wfV,wfL,aF,yaP,or_true,g2,g4,g5,g7,sG]
   refine ⟨c8 _,?_,?_⟩<;>rfl
  ·rintro i g hi rfl e2 bb Z he hZ
   refine Ck 8 rfl rfl rfl ?_
   unfold c14a0
   simp -implicitDefEqProofs only [rX,rZ,↓rW,↓reduceIte,Nat.reduceEqDiff,Nat.reduceAdd,gV]
   unfold c14r0
   simp -implicitDefEqProofs only [rX,↓rY,rdK,aA,cells?,splice,↓reduceIte,Nat.reduceEqDiff,Nat.reduceAdd,aE,bG,isC,Nat.reduceLeDiff,yah,bR,m1]
   have hbl:(bk t b g).length≤1000000000:=by rw [xP];omega
   have hlt:=(s6 hb2.1).2 hi
   have hq:(((g*b:Nat):Int).tdiv (b:Int))=(g:Int):=by
    rw [Int.natCast_mul,Int.mul_tdiv_cancel _ (by omega)]
   have hgl:g<ls.length:=by rw [hln];exact hi
   simp only [hq,yae]
   obtain ⟨hbd,hss⟩:=Mk (t:=t) (by omega) ht hi
   obtain ⟨u1,u2,u3⟩:=dR (hD _ (yal hgl))
   have h1:g≤g*b:=ybc _ hb2.1
   refine ⟨by simp only [lo,Fx.hi];omega,by omega,by simp only [lo,Fx.hi];omega,by omega,hgl,by omega,?_⟩
   refine aC (Xc (bk t b g) (by omega)) ⟨⟨trivial,trivial⟩,rfl,trivial⟩ (by simp [ren,aQ]) ⟨trivial,trivial,trivial⟩ ?_
   have hisd:dmg ls t b hv g=((lf (bk t b g) != ls[g])&&cov hv (spn t b g)):=by simp [dmg,List.getD,yaj hgl]
   cases h6:(lf (bk t b g)==ls[g]) with
   | true =>
    simp -implicitDefEqProofs only [rX,↓rY,rZ,↓rW,rdK,aA,↓reduceIte,Nat.reduceEqDiff,Nat.reduceAdd,nH jX (hD _ (yal hgl)),h6,u2]
    have e1:dmO ls t b hv (g+1)=dmO ls t b hv g:=by rw [lH,hisd];simp [bne,h6]
    have hs:=hZ e2 (g+1) [.dead,.var (enS (spn t b g))] ⟨he.e0,he.e1,he.e2,he.e4⟩ rfl
    unfold hpD at hs
    rw [e1] at hs
    exact hs
   | false =>
    simp -implicitDefEqProofs only [rX,↓rY,rZ,↓rW,rdK,aA,↓reduceIte,Nat.reduceEqDiff,Nat.reduceAdd,nH jX (hD _ (yal hgl)),h6,u2]
    have es:spn t b g=(((g*b:Nat):Int),((g*b:Nat):Int)+((bk t b g).length:Int)):=rfl
    have o:=afO hv (spn t b g) hvv hbd
    rw [es] at o
    refine aC o ⟨⟨trivial,⟨trivial,trivial,trivial⟩,trivial⟩,⟨rfl,rfl⟩,⟨rfl,rfl,trivial⟩,trivial⟩ rfl ⟨trivial,trivial,trivial⟩ ?_
    rw [←es]
    cases h7:cov hv (spn t b g) with
    | false =>
     simp -implicitDefEqProofs only [rX,↓rY,rZ,↓rW,↓reduceIte,Nat.reduceEqDiff]
     have e1:dmO ls t b hv (g+1)=dmO ls t b hv g:=by rw [lH,hisd];simp [h7]
     have hs:=hZ e2 (g+1) [.dead,.var (enS (spn t b g))] ⟨he.e0,he.e1,he.e2,he.e4⟩ rfl
     unfold hpD at hs
     rw [e1] at hs
     exact hs
    | true =>
     simp -implicitDefEqProofs only [rX,↓rY,rZ,↓rW,cells?,splice,↓reduceIte,Nat.reduceEqDiff,Nat.reduceAdd,reduceCtorEq,aE,b5,aT,aY,kill,bO,St.kill,isD,isC,Nat.reduceLT]
     have hml:=Pt (ls:=ls) (t:=t) (b:=b) (hv:=hv) (n:=g)
     refine ⟨by omega,?_⟩
     have e1:dmO ls t b hv (g+1)=dmO ls t b hv g++[spn t b g]:=by rw [lH,hisd];simp [bne,h6,h7]
     have hs:=hZ (aT [7] e2) (g+1) [.dead,.var (enS (spn t b g)),.arr 2 [enS (spn t b g)],.dead] ?_ rfl
     ·unfold hpD at hs
      rw [e1,yag,yas,yaV] at hs
      rw [iG,yaa (by simp)]
      exact hs
     ·refine ⟨?_,?_,?_,?_⟩<;>rw [bF]
      ·rw [he.e0];simp [kill]
      ·rw [he.e1];simp [kill]
      ·rw [he.e2];simp [kill]
      ·rw [he.e4];rfl
  ·rintro g rfl
   simp -implicitDefEqProofs only [rX,↓rY,rZ,↓rW,↓reduceIte,Nat.reduceEqDiff,Nat.reduceAdd,aB,wfE,wfB,wfV,wfL]
   refine ⟨sG,?_⟩
   have hml:=Pt (ls:=ls) (t:=t) (b:=b) (hv:=hv) (n:=nb t.length b)
   have hnb:=vI (n:=t.length) hb2.1
   refine xO (dmO ls t b hv (nb t.length b)) rfl (by omega) (Te (by omega) ht (yad _)) rfl rfl (by simp) trivial ?_
   simp -implicitDefEqProofs only [rX,aA,↓reduceIte,Nat.reduceEqDiff,reduceCtorEq,aO,aP,aD,wfV,wfL,aT,aY,kill,bO,St.kill,cO]
   have e1:dmL m ls t hv=ofS (dmO ls t b hv (nb t.length b)):=by
    unfold dmL;rw [if_neg (by rw [he0];decide),hb,yae]
   rw [e1,he0]
   refine ⟨([]:List Blk),⟨trivial,yab _,trivial⟩,?_⟩
   simp [gvV,gvL,wk,wkL,wkR]
 ·intro e k g8 g9 hk hk0
  have e1:dmL m ls t hv=[]:=by unfold dmL;rw [if_pos (by rw [hk];exact hk0)]
  rw [cO,e1,hk]
  simp -implicitDefEqProofs only [rX,aO,aP,aD,wfV,wfL,g8,g9]
  refine ⟨([]:List Blk),⟨trivial,yab _,trivial⟩,?_⟩
  simp [gvV,gvL,wk,wkL,wkR]
end Go.Fx.H
namespace Go.Fx.H
open Go Go.Fx Go.Proofs Go.Fx.R
set_option maxRecDepth 20000
abbrev h15 (m:Man):List Blk:=[.var m.enc,.var [.v (.slice none 0 0),.v (.int .i64 0)]]
section
end
theorem Al {M:Nat→Bool} {h:List Blk}:∀ l:List V,(∀ x∈l,∃ u,x=.v u)→gvL M h l=l
 | [],_=>rfl
 | x::r,hx=>by
  obtain ⟨u,rfl⟩:=hx x yaU
  show V.v u::gvL M h r=_
  rw [Al r fun y hy=>hx y (ybv _ hy)]
theorem Xl {m:Man} {M:Nat→Bool} {h:List Blk}:gvL M h m.enc=m.enc:=Al _ nC
end Go.Fx.H
namespace Go.Fx.H
open Go Go.Fx Go.Proofs Go.Fx.R
set_option maxRecDepth 20000
def len (s:Sp):Int:=s.2-s.1
def Bz (s t:Sp):Int:=len s-len t
theorem Sg (s t:Sp) (hs:BdS s) (ht:BdS t):Ok 68 [.agg (enS s),.agg (enS t)] (Is (.i (Bz s t))):=by
 refine a6 lw68 (by simp) ?_
 unfold c68
 unfold BdS at hs ht
 simp -implicitDefEqProofs only [rX,↓rY,aA,cells?,↓reduceIte,Nat.reduceEqDiff,Nat.reduceAdd,reduceCtorEq,aE,aO,aP,wfV,cxN,rE,lG,aF]
 refine ⟨by simp only [lo,Fx.hi];omega,by simp only [lo,Fx.hi];omega,by simp only [lo,Fx.hi];omega,?_⟩
 rfl
def lt (s t:Sp):Prop:=len s<len t∨(len s=len t∧s.1<t.1)
instance:DecidableRel lt:=fun s t=>inferInstanceAs (Decidable (_∨_))
theorem nD {s t u:Sp} (h:lt s t) (h2:lt t u):lt s u:=by unfold lt at *;omega
theorem Xm {s:Sp}:¬lt s s:=by unfold lt;omega
theorem vR {s t:Sp} (h:s.1<t.1∨t.1<s.1):lt s t∨lt t s:=by unfold lt;omega
def SrL (l:List Sp):Prop:=l.Pairwise lt
def Gs (x:Sp):List Sp→List Sp
 | []=>[x]
 | y::r=>if lt x y then x::y::r else y::Gs x r
def bU:List Sp→List Sp
 | []=>[]
 | x::r=>Gs x (bU r)
theorem sH {x:Sp}:∀ {l:List Sp},(Gs x l).Perm (x::l)
 | []=>.refl _
 | y::r=>by
  unfold Gs
  split
  ·exact .refl _
  ·exact (sH.cons y).trans (.swap x y r)
theorem bX:∀ {l:List Sp},(bU l).Perm l
 | []=>.refl _
 | x::r=>sH.trans (bX.cons x)
theorem Ct:∀ {l m:List Sp},SrL l→SrL m→l.Perm m→l=m
 | [],m,_,_,h=>by have:=h.length_eq;cases m with
  | nil=>rfl
  | cons=>simp at this
 | x::r,[],_,_,h=>by have:=h.length_eq;simp at this
 | x::r,y::t,hl,hm,h=>by
  have hl':=yav.1 hl
  have hm':=yav.1 hm
  have exy:x=y:=by
   have h1:x∈y::t:=h.mem_iff.1 (by simp)
   have h2:y∈x::r:=h.mem_iff.2 (by simp)
   rcases yaK.1 h1 with h1|h1
   ·exact h1
   ·rcases yaK.1 h2 with h2|h2
    ·exact h2.symm
    ·exact absurd (nD (hl'.1 y h2) (hm'.1 x h1)) Xm
  subst exy
  rw [Ct hl'.2 hm'.2 (List.Perm.cons_inv h)]
def Asc (l:List Sp):Prop:=l.Pairwise fun s t=>s.1<t.1
def Dst (l:List Sp):Prop:=l.Pairwise fun s t=>s.1≠t.1
theorem nJ {l m:List Sp} (h:Dst l) (hp:l.Perm m):Dst m:=hp.pairwise h (fun h=>Ne.symm h)
theorem Dw {x:Sp}:∀ {l:List Sp},SrL l→Dst (x::l)→SrL (Gs x l)
 | [],_,_=>by simp [Gs,SrL]
 | y::r,h,hd=>by
  have h':=yav.1 h
  have hd':=yav.1 hd
  unfold Gs
  split
  ·rename_i hxy
   refine yav.2 ⟨fun z hz=>?_,h⟩
   rcases yaK.1 hz with rfl|hz
   ·exact hxy
   ·exact nD hxy (h'.1 z hz)
  ·rename_i hxy
   refine yav.2 ⟨fun z hz=>?_,Dw h'.2 (yav.2 ⟨fun z hz=>hd'.1 z (by simp [hz]),(yav.1 hd'.2).2⟩)⟩
   have hz':=sH.mem_iff.1 hz
   rcases yaK.1 hz' with rfl|hz'
   ·have:=hd'.1 y (by simp)
    rcases vR (s:=z) (t:=y) (by omega) with h|h
    ·exact absurd h hxy
    ·exact h
   ·exact h'.1 z hz'
theorem gO:∀ {l:List Sp},Dst l→SrL (bU l)
 | [],_=>by simp [bU,SrL]
 | x::r,h=>by
  have h':=yav.1 h
  refine Dw (gO h'.2) (yav.2 ⟨fun z hz=>h'.1 z (bX.mem_iff.1 hz),nJ h'.2 bX.symm⟩)
theorem tU {l m:List Sp} (h:SrL m) (hp:m.Perm l) (hd:Dst l):bU l=m:=Ct (gO hd) h (bX.trans hp.symm)
theorem Ju {l:List Sp} (h:Asc l):Dst l:=h.imp fun h=>by omega
theorem Mn {α:Type} {A B:List α} {x y:α}:((A++y::x::B).set A.length x).set (A.length+1) y=A++x::y::B:=by
 rw [yaL _ _ (yad _),Nat.sub_self,List.set_cons_zero,yaL _ _ (by omega)]
 simp
theorem Kc {α:Type} {A B:List α} {x y:α}:((A++y::x::B).set (A.length+1) y).set A.length x=A++x::y::B:=by
 rw [yaL _ _ (by omega),yaL _ _ (yad _)]
 simp
theorem vZ {S M:List Sp} {x:Sp} {g:Nat} (hS:SrL S) (hp:S.Perm M) (hd:Dst (M++[x])) (hgt:∀ y∈S.drop g,lt x y) (hle:∀ y∈S.take g,lt y x):bU (M++[x])=S.take g++x::S.drop g:=by
 refine tU ?_ ?_ hd
 ·have h0:=hS
  rw [←yan g S] at h0
  obtain ⟨h1,h2,h3⟩:=yay.1 h0
  refine yay.2 ⟨h1,yav.2 ⟨hgt,h2⟩,fun y hy z hz=>?_⟩
  rcases yaK.1 hz with rfl|hz
  ·exact hle y hy
  ·exact h3 y hy z hz
 ·refine List.perm_middle.trans ?_
  rw [yan]
  exact (hp.cons x).trans (List.perm_append_singleton x M).symm
abbrev rw2 (l:List Sp):Blk:=.arr 2 (l.map enS)
def mid (P S:List Sp) (x:Sp) (T:List Sp) (g:Nat):List Sp:=P++(S.take g++x::S.drop g)++T
theorem Ol {P S T:List Sp} {x:Sp} {g:Nat} (hg:g≤S.length) (hh:((P.length:Int)+g).toNat<(mid P S x T g).length):(mid P S x T g)[((P.length:Int)+g).toNat]'hh=x:=by
 have e:((P.length:Int)+g).toNat=P.length+g:=by omega
 have hl:(S.take g).length=g:=by rw [yai];omega
 simp only [e,mid]
 rw [yaA (by simp;omega),yao (by omega),yao (by omega)]
 simp [hl]
theorem Uq {P S T:List Sp} {x:Sp} {g:Nat} (hg:1≤g) (hS:g-1<S.length) (hh:((P.length:Int)+g-1).toNat<(mid P S x T g).length):(mid P S x T g)[((P.length:Int)+g-1).toNat]'hh=S[g-1]:=by
 have e:((P.length:Int)+g-1).toNat=P.length+(g-1):=by omega
 have hl:(S.take g).length=g:=by rw [yai];omega
 simp only [e,mid]
 rw [yaA (by simp;omega),yao (by omega),yaA (by omega)]
 simp
theorem Om {P S T:List Sp} {x:Sp} {g:Nat} (hg:1≤g) (hS:g-1<S.length):((mid P S x T g).set ((P.length:Int)+g).toNat S[g-1]).set ((P.length:Int)+g-1).toNat x=mid P S x T (g-1):=by
 have e1:((P.length:Int)+g).toNat=(P++S.take (g-1)).length+1:=by rw [yag,yai];omega
 have e2:((P.length:Int)+g-1).toNat=(P++S.take (g-1)).length:=by rw [yag,yai];omega
 have e3:S.take g=S.take (g-1)++[S[g-1]]:=by
  have:=yaq (l:=S) (i:=g-1)
  rw [yaj hS,show g-1+1=g by omega] at this
  exact this
 have e4:mid P S x T g=(P++S.take (g-1))++S[g-1]::x::(S.drop g++T):=by unfold mid;rw [e3];simp only [yam,yaR,yaJ]
 have e5:mid P S x T (g-1)=(P++S.take (g-1))++x::S[g-1]::(S.drop g++T):=by
  unfold mid;rw [yax hS,show g-1+1=g by omega];simp
 rw [e1,e2,e4,e5]
 exact Kc
theorem Ic {L L':List Sp} {i j:Nat} {x y:Sp} {hh:j<((L.map enS).set i (enS y)).length} (h:(L.set i y).set j x=L'):Blk.arr 2 (((L.map enS).set i (enS y)).set j (enS x++yaf 2 (((L.map enS).set i (enS y))[j]'hh)))=rw2 L':=by
 have e1:(L.map enS).set i (enS y)=(L.set i y).map enS:=List.map_set.symm
 have e2:yaf 2 (((L.map enS).set i (enS y))[j]'hh)=[]:=by
  simp only [e1,yah];rfl
 rw [e2,yap,e1,←List.map_set,h]
theorem Un (P M Q:List Sp) (a b:Int) (n:Nat) (hn:n=(P++M++Q).length) (h:n≤100000) (ha:a=P.length) (hb:b=P.length+M.length) (hasc:Asc M) (hbd:Bd M) :
  OkN Tryz.prog 155 [.sl 0 0 n,.i a,.i b,.clo 68 []] [rw2 (P++M++Q)] [] (IsA (.tup []) [rw2 (P++bU M++Q)]):=by
 subst ha hb
 have hlen:n=P.length+M.length+Q.length:=by rw [hn];simp;omega
 refine fY pol [0] lw155 (by simp) ⟨trivial,trivial⟩ (fun k hk hm=>by simp at hk ⊢;omega) ?_
 unfold c155
 simp -implicitDefEqProofs only [rX,↓rY,aA,↓reduceIte,Nat.reduceAdd,reduceCtorEq,cxN,aF]
 refine ⟨by simp only [lo,Fx.hi];omega,?_⟩
 refine aX (fun k:Nat=>⟨[(8,.i (P.length+k)),(0,.sl 0 0 n),(1,.i P.length),(2,.i (P.length+M.length)),(3,.clo 68 [])],[rw2 (P++(bU (M.take k)++M.drop k)++Q)],0⟩) (fun k=>1≤k∧k≤max 1 M.length) (fun k=>1+M.length-k) 1 (by omega) ?_ ?_
 ·have e1:bU (M.take 1)++M.drop 1=M:=by cases M with
   | nil=>rfl
   | cons x r=>rfl
  rw [e1]
  simp -implicitDefEqProofs only [rX,↓reduceIte,Nat.reduceEqDiff,reduceCtorEq,leE,leH,leB,aD,aB,wfE,wfB,wfV,wfL,Int.natCast_one]
 rintro k ⟨hk1,hk⟩
 unfold c155l0
 simp -implicitDefEqProofs only [rX,↓rY,↓reduceIte,Nat.reduceEqDiff,reduceCtorEq]
 cases hd:decide ((P.length:Int)+k<P.length+M.length) with
 | false =>
  have hkm:k=max 1 M.length:=by have:=of_decide_eq_false hd;omega
  simp only [kg]
  rw [yaa (by omega),yak (by omega),bN]
  simp -implicitDefEqProofs only [rX,aO,aP,leH,leB,aD,aB,wfB,wfV,wfL]
 | true =>
 have hkm:k<M.length:=by have:=of_decide_eq_true hd;omega
 have hPb:Bd M:=hbd
 have hsl:(bU (M.take k)).length=k:=by rw [bX.length_eq,yai];omega
 have hin:rw2 (P++(bU (M.take k)++M.drop k)++Q)=rw2 (mid P (bU (M.take k)) M[k] (M.drop (k+1)++Q) k):=by
  unfold mid
  rw [yax hkm,yaa (show (bU (M.take k)).length≤k by omega),yak (show (bU (M.take k)).length≤k by omega)]
  simp only [yam,yaR,yaJ]
 rw [hin,kf]
 have hdst:Dst M:=Ju hasc
 have hS:SrL (bU (M.take k)):=gO (hdst.sublist (yaM k M))
 have hSM:(bU (M.take k)).Perm (M.take k):=bX
 have hSx:∀ y∈bU (M.take k),y.1<M[k].1:=by
  intro y hy
  have hy':=hSM.mem_iff.1 hy
  have h0:=hasc
  rw [←yan k M] at h0
  refine (yay.1 h0).2.2 y hy' _ ?_
  rw [yax hkm];exact yaU
 have hSb:Bd (bU (M.take k)):=fun y hy=>hbd y (ybk (hSM.mem_iff.1 hy))
 have hxb:BdS M[k]:=hbd _ (yal hkm)
 have hfin:∀ g,g≤k→(∀ y∈(bU (M.take k)).drop g,lt M[k] y)→(∀ y∈(bU (M.take k)).take g,lt y M[k])→rw2 (mid P (bU (M.take k)) M[k] (M.drop (k+1)++Q) g)=rw2 (P++(bU (M.take (k+1))++M.drop (k+1))++Q):=by
  intro g hg h1 h2
  have e1:M.take (k+1)=M.take k++[M[k]]:=by rw [yaq,yaj hkm];rfl
  have h0:Dst (M.take k++[M[k]]):=by rw [←e1];exact hdst.sublist (yaM _ M)
  rw [e1,vZ hS hSM h0 h1 h2,mid]
  simp
 generalize bU (M.take k)=S at *
 generalize hx:M[k]=x at *
 refine aX (fun g:Nat=>⟨[(9,.i (P.length+g)),(8,.i (P.length+k)),(0,.sl 0 0 n),(1,.i P.length),(2,.i (P.length+M.length)),(3,.clo 68 [])],[rw2 (mid P S x (M.drop (k+1)++Q) g)],0⟩) (fun g=>g≤k∧∀ y∈S.drop g,lt x y) (fun g=>g) k ⟨yad _,by rw [yak (by omega)];simp⟩ ?_ ?_
 ·simp -implicitDefEqProofs only [rX,↓reduceIte,Nat.reduceEqDiff,reduceCtorEq,leE,leH,leB,aD,aB,wfE,wfB,wfV,wfL]
 rintro g ⟨hg,hgt⟩
 have hml:(mid P S x (M.drop (k+1)++Q) g).length=n:=by simp [mid,hlen];omega
 unfold c155l1
 simp -implicitDefEqProofs only [rX,↓rY,aA,↓reduceIte,Nat.reduceEqDiff,fJ,reduceCtorEq,leE,leH,leB,aD,aB,wfE,wfB,wfV,wfL,yah,cF,cQ]
 cases hd2:decide ((P.length:Int)<P.length+g) with
 | false =>
  have hg0:g=0:=by have:=of_decide_eq_false hd2;omega
  subst hg0
  simp -implicitDefEqProofs only [↓rY]
  refine ⟨by simp only [lo,Fx.hi];omega,k+1,⟨by omega,by omega⟩,by omega,hfin 0 (by omega) (by simpa using hgt) (by simp)⟩
 | true =>
 have hg1:1≤g:=by have:=of_decide_eq_true hd2;omega
 simp -implicitDefEqProofs only [↓rY,hml]
 have hgS:g-1<S.length:=by omega
 have h1:∀ hh,(mid P S x (M.drop (k+1)++Q) g)[((P.length:Int)+g).toNat]'hh=x:=Ol (by omega)
 have h2:∀ hh,(mid P S x (M.drop (k+1)++Q) g)[((P.length:Int)+g-1).toNat]'hh=S[g-1]:=Uq (by omega) hgS
 refine ⟨by omega,by omega,by simp only [lo,Fx.hi];omega,by omega,by omega,?_⟩
 rw [h1,h2]
 have hyb:=hSb _ (yal hgS)
 have hyx:=hSx _ (yal hgS)
 refine aC (Sg x S[g-1] hxb hyb) ⟨⟨⟨trivial,trivial,trivial⟩,⟨trivial,trivial,trivial⟩,trivial⟩,⟨rfl,rfl,trivial⟩,⟨rfl,rfl,trivial⟩,trivial⟩ rfl ⟨trivial,trivial⟩ ?_
 have hc:decide (Bz x S[g-1]<0)=decide (lt x S[g-1]):=by
  unfold Bz lt
  exact decide_eq_decide.2 (by omega)
 simp -implicitDefEqProofs only [rX,↓rY,rdK,aA,cells?,splice,↓reduceIte,Nat.reduceEqDiff,fJ,reduceCtorEq,leE,leH,leB,aD,aB,wfE,wfB,wfV,wfL,yah,cF,cQ,jR,oL,nI,hc]
 cases hd3:decide (lt x S[g-1]) with
 | false =>
  have hn3:¬lt x S[g-1]:=of_decide_eq_false hd3
  have hl3:lt S[g-1] x:=(vR (.inl hyx)).resolve_right hn3
  simp -implicitDefEqProofs only [↓rY,kg]
  refine ⟨by simp only [lo,Fx.hi];omega,k+1,⟨by omega,by omega⟩,by omega,hfin g hg hgt fun y hy=>?_⟩
  rw [show g=g-1+1 by omega,yaq,yaj hgS] at hy
  rcases yaz.1 hy with hy|hy
  ·refine nD ?_ hl3
   have h0:=hS
   rw [←yan (g-1) S] at h0
   refine (yay.1 h0).2.2 y hy _ ?_
   rw [yax hgS];exact yaU
  ·simp at hy;subst hy;exact hl3
 | true =>
  have hl3:lt x S[g-1]:=of_decide_eq_true hd3
  simp -implicitDefEqProofs only [↓rY,kf,hml,h1,h2]
  refine ⟨by simp only [lo,Fx.hi];omega,by simp only [lo,Fx.hi];omega,by omega,by omega,by omega,by omega,by omega,by omega,by omega,by simp;omega,by simp only [lo,Fx.hi];omega,g-1,⟨⟨by omega,fun y hy=>?_⟩,by omega⟩,by omega,?_⟩
  ·rw [yax hgS] at hy
   rcases yaK.1 hy with rfl|hy
   ·exact hl3
   ·rw [show g-1+1=g by omega] at hy;exact hgt y hy
  ·exact Ic (Om (by omega) hgS)
end Go.Fx.H
namespace Go.Fx.H
open Go Go.Fx Go.Proofs Go.Fx.R
set_option maxRecDepth 20000
def swr (P A C B Q:List Sp) (i:Nat):List Sp:=P++((B.take i++A.drop i)++(C++((A.take i++B.drop i)++Q)))
theorem Rs {P A C B Q:List Sp} {i:Nat} (h:A.length=B.length):(swr P A C B Q i).length=P.length+A.length+C.length+B.length+Q.length:=by
 unfold swr
 simp only [yag,yai,yat]
 omega
theorem Yv {P A C B Q:List Sp} {i:Nat} (h:A.length=B.length) (hi:i<A.length) (hh:((P.length:Int)+i).toNat<(swr P A C B Q i).length):(swr P A C B Q i)[((P.length:Int)+i).toNat]'hh=A[i]:=by
 have e:((P.length:Int)+i).toNat=P.length+i:=by omega
 have hl:(B.take i).length=i:=by rw [yai];omega
 simp only [e,swr]
 rw [yao (by omega),yaA (by simp;omega),yao (by omega)]
 simp [hl]
theorem Yu {P A C B Q:List Sp} {i:Nat} {b:Int} (h:A.length=B.length) (hi:i<A.length) (hb:b=P.length+A.length+C.length) (hh:(b+i).toNat<(swr P A C B Q i).length):(swr P A C B Q i)[(b+i).toNat]'hh=B[i]:=by
 subst hb
 have e:((P.length:Int)+A.length+C.length+i).toNat=P.length+(A.length+(C.length+i)):=by omega
 have hl:(A.take i).length=i:=by rw [yai];omega
 have hl2:(B.take i++A.drop i).length=A.length:=by rw [yag,yai,yat];omega
 simp only [e,swr]
 rw [yao (by omega),yao (by omega),yao (by omega),yaA (by simp;omega),yao (by omega)]
 simp [hl,hl2]
theorem Cu {α:Type} {A:List α} {i:Nat} (h:i<A.length):∃ A1 A2,A=A1++A[i]::A2∧A1.length=i :=
 ⟨A.take i,A.drop (i+1),by rw [←yax h,yan],by rw [yai];omega⟩
theorem Ug {P A1 A2 C B1 B2 Q:List Sp} {x y:Sp} {i:Nat} (h1:A1.length=i) (h2:B1.length=i):swr P (A1++x::A2) C (B1++y::B2) Q i=P++((B1++x::A2)++(C++((A1++y::B2)++Q))):=by
 subst h1
 unfold swr
 rw [yaD (by omega),yaa (show B1.length≤A1.length by omega),yaF (yad _),List.drop_length,yaD (yad _),yaZ,yaF (by omega),yak (show B1.length≤A1.length by omega)]
 rfl
theorem Vv {P A1 A2 C B1 B2 Q:List Sp} {x y:Sp} {i:Nat} (h1:A1.length=i) (h2:B1.length=i):swr P (A1++x::A2) C (B1++y::B2) Q (i+1)=P++((B1++y::A2)++(C++((A1++x::B2)++Q))):=by
 have:=Ug (P:=P) (A1:=A1++[x]) (A2:=A2) (C:=C) (B1:=B1++[y]) (B2:=B2) (Q:=Q) (x:=x) (y:=y) (i:=i+1) (by simp [h1]) (by simp [h2])
 unfold swr
 rw [show A1++x::A2=(A1++[x])++A2 by simp,show B1++y::B2=(B1++[y])++B2 by simp]
 rw [yaD (by simp;omega),yaa (show (B1++[y]).length≤i+1 by simp;omega),yaF (by simp;omega),yak (show (A1++[x]).length≤i+1 by simp;omega),yaD (by simp;omega),yaa (show (A1++[x]).length≤i+1 by simp;omega),yaF (by simp;omega),yak (show (B1++[y]).length≤i+1 by simp;omega)]
 simp
theorem Mo {X Y Z:List Sp} {u v:Sp} {i:Nat} (hX:X.length=i):((X++u::Y)++Z).set i v=(X++v::Y)++Z:=by
 rw [List.set_append_left _ _ (by simp;omega),yaL _ _ (by omega),hX,Nat.sub_self];rfl
theorem pI {X Z:List Sp} {k:Nat} {v:Sp}:(X++Z).set (X.length+k) v=X++Z.set k v:=by
 rw [yaL _ _ (by omega),Nat.add_sub_cancel_left]
theorem Vu {P A C B Q:List Sp} {i:Nat} {b:Int} (h:A.length=B.length) (hi:i<A.length) (hb:b=P.length+A.length+C.length) :
  ((swr P A C B Q i).set ((P.length:Int)+i).toNat (B[i]'(by omega))).set (b+i).toNat A[i]=swr P A C B Q (i+1):=by
 have hiB:i<B.length:=by omega
 obtain ⟨A1,A2,hA,hA1⟩:=Cu hi
 obtain ⟨B1,B2,hB,hB1⟩:=Cu hiB
 have e:((P.length:Int)+i).toNat=P.length+i:=by omega
 have e2:(b+i).toNat=P.length+(A.length+(C.length+i)):=by omega
 have hl3:(B1++B[i]::A2).length=A.length:=by
  have:=congrArg List.length hA
  simp at this ⊢;omega
 rw [e,e2,←hl3]
 generalize A[i]=x at *
 generalize B[i]=y at *
 subst hA hB
 rw [Ug hA1 hB1,Vv hA1 hB1,pI,Mo hB1,pI,pI,pI,Mo hA1]
theorem Ns (P A C B Q:List Sp) (a b:Int) (n:Nat) (hn:n=(P++(A++(C++(B++Q)))).length) (h:n≤100000) (hAB:A.length=B.length) (ha:a=P.length) (hb:b=P.length+A.length+C.length) :
  OkN Tryz.prog 210 [.sl 0 0 n,.i a,.i b,.i A.length,.clo 68 []] [rw2 (P++(A++(C++(B++Q))))] [] (IsA (.tup []) [rw2 (P++(B++(C++(A++Q))))]):=by
 have hlen:n=P.length+A.length+C.length+B.length+Q.length:=by rw [hn];simp;omega
 subst ha
 refine fY pol [0] lw210 (by simp) ⟨trivial,trivial⟩ (fun k hk hm=>by simp at hk ⊢;omega) ?_
 unfold c210
 simp -implicitDefEqProofs only [rX,aA,Nat.reduceAdd,cxN,aF]
 refine aX (fun i:Nat=>⟨[(10,.i i),(0,.sl 0 0 n),(1,.i P.length),(2,.i b),(3,.i A.length)],[rw2 (swr P A C B Q i)],0⟩) (fun i=>i≤A.length) (fun i=>A.length-i) 0 (yab _) ?_ ?_
 ·have e0:swr P A C B Q 0=P++(A++(C++(B++Q))):=by simp [swr]
  simp -implicitDefEqProofs only [rX,↓reduceIte,Nat.reduceEqDiff,reduceCtorEq,leE,leH,leB,aD,aB,wfE,wfB,wfV,e0,yaC]
 rintro i hi
 have hml:=Rs (P:=P) (A:=A) (C:=C) (B:=B) (Q:=Q) (i:=i) hAB
 unfold c210l0
 simp -implicitDefEqProofs only [rX,↓rY,rdK,aA,cells?,splice,↓reduceIte,Nat.reduceEqDiff,fJ,reduceCtorEq,leE,leH,leB,aD,aB,wfE,wfB,wfV,yah,cF,cQ,jR,oL,nI]
 cases hd:decide ((i:Int)<A.length) with
 | false =>
  have hie:i=A.length:=by have:=of_decide_eq_false hd;omega
  have e0:swr P A C B Q A.length=P++(B++(C++(A++Q))):=by
   unfold swr
   rw [yaa (by omega),yak (by omega),yaa (by omega),yak (by omega)]
   simp
  subst hie
  simp -implicitDefEqProofs only [rX,↓rY,aO,aP,leH,leB,aD,aB,wfB,wfV,wfL,kg,bN,e0]
 | true =>
 have hil:i<A.length:=by have:=of_decide_eq_true hd;omega
 simp -implicitDefEqProofs only [↓rY,kf,hml]
 have h1:∀ hh,(swr P A C B Q i)[((P.length:Int)+i).toNat]'hh=A[i]:=Yv hAB hil
 have h2:∀ hh,(swr P A C B Q i)[(b+i).toNat]'hh=B[i]'(by omega):=Yu hAB hil hb
 refine ⟨by simp only [lo,Fx.hi];omega,by simp only [lo,Fx.hi];omega,by simp only [lo,Fx.hi];omega,by omega,by omega,by simp only [lo,Fx.hi];omega,by omega,by omega,by omega,by omega,by omega,by simp;omega,by simp only [lo,Fx.hi];omega,i+1,⟨by omega,by omega⟩,by omega,?_⟩
 rw [h1,h2]
 exact Ic (Vu hAB hil hb)
theorem fS {cx:Cx} {f:FuncId} {args:List V} {e:Env} {b:Nat} {K:V→St→Prop} {L L':List Sp} (xs:List V) (hC:cx.C f xs [rw2 L] [] (IsA (.tup []) [rw2 L'])) (hbn:0∉cx.bn)
  (ha:aG [rw2 L] (pos [0]) args∧wkL xs (aS [rw2 L] (pos [0]) args)) (keep:aD cx.fx [rw2 L']) (h3:K (.tup []) ⟨e,[rw2 L'],b⟩):eS cx f args ⟨e,[rw2 L],b⟩ K:=by
 refine eR [0] xs (.tup []) (.tup []) [rw2 L] [rw2 L'] [rw2 L'] hC ⟨by simp,fun k hk=>?_⟩ rfl ha (by simp) rfl rfl keep h3
 simp at hk
 subst hk
 exact ⟨by simp,hbn⟩
structure Qo (P L R Q p u v q:List Sp):Prop where
 hu:1≤u.length
 hv:1≤v.length
 hp:p.length+u.length=P.length+L.length
 ht:p++(v++(u++q))=P++(R++(L++Q))
abbrev G4:=List Sp × List Sp × List Sp × List Sp
theorem Qo.len {P L R Q p u v q:List Sp} (h:Qo P L R Q p u v q):p.length+v.length+u.length+q.length=P.length+L.length+R.length+Q.length:=by
 have:=congrArg List.length h.ht
 simp at this;omega
theorem aaQ (P L R Q:List Sp) (a m b:Int) (n:Nat) (hn:n=(P++(L++(R++Q))).length) (h:n≤100000) (ha:a=P.length) (hm:m=P.length+L.length) (hb:b=P.length+L.length+R.length) (hL:1≤L.length) (hR:1≤R.length) :
  OkN Tryz.prog 181 [.sl 0 0 n,.i a,.i m,.i b,.clo 68 []] [rw2 (P++(L++(R++Q)))] [] (IsA (.tup []) [rw2 (P++(R++(L++Q)))]):=by
 have hlen:n=P.length+L.length+R.length+Q.length:=by rw [hn];simp;omega
 refine fY pol [0] lw181 (by simp) ⟨trivial,trivial⟩ (fun k hk hm=>by simp at hk ⊢;omega) ?_
 unfold c181
 simp -implicitDefEqProofs only [rX,↓rY,↓reduceIte,Nat.reduceEqDiff,Nat.reduceAdd,reduceCtorEq,cxN,aF]
 refine ⟨by simp only [lo,Fx.hi];omega,by simp only [lo,Fx.hi];omega,?_⟩
 refine aX (fun g:G4=>⟨[(10,.i g.2.1.length),(11,.i g.2.2.1.length),(0,.sl 0 0 n),(2,.i m),(4,.clo 68 [])],[rw2 (g.1++(g.2.1++(g.2.2.1++g.2.2.2)))],0⟩) (fun g=>Qo P L R Q g.1 g.2.1 g.2.2.1 g.2.2.2) (fun g=>g.2.1.length+g.2.2.1.length) (P,L,R,Q) ⟨hL,hR,rfl,rfl⟩ ?_ ?_
 ·simp -implicitDefEqProofs only [rX,↓reduceIte,Nat.reduceEqDiff,reduceCtorEq,leE,leH,leB,aD,aB,wfE,wfB,wfV,wfL]
  refine ⟨?_,?_⟩<;>congr 1<;>omega
 rintro ⟨p,u,v,q⟩ hI
 have hIl:=hI.len
 obtain ⟨hu,hv,hp,ht⟩:=hI
 simp only at hu hv hp ht hIl
 have hnn:n=(p++(u++(v++q))).length:=by simp;omega
 unfold c181l0
 simp -implicitDefEqProofs only [rX,↓rY,↓reduceIte,Nat.reduceEqDiff,reduceCtorEq]
 cases hd:((u.length:Int) != v.length) with
 | false =>
  have huv:u.length=v.length:=by
   have:(u.length:Int)=v.length:=by simpa using hd
   omega
  simp -implicitDefEqProofs only [↓rY,kg]
  refine ⟨by simp only [lo,Fx.hi];omega,?_⟩
  have o:=Ns p u [] v q (m-u.length) m n (by simpa using hnn) h huv (by omega) (by simp;omega)
  refine fS _ o (by simp) ⟨⟨trivial,trivial,trivial,trivial,trivial,trivial⟩,rfl,rfl,rfl,rfl,⟨rfl,trivial⟩,trivial⟩ ⟨trivial,trivial⟩ ?_
  simp -implicitDefEqProofs only [rX,aO,aP,leH,leB,aD,aB,wfB,wfV,wfL,bN]
  rw [ht]
 | true =>
 have huv:u.length≠v.length:=by
  have:(u.length:Int)≠v.length:=by simpa using hd
  omega
 simp -implicitDefEqProofs only [↓rY,kf]
 cases hd2:decide ((v.length:Int)<u.length) with
 | true =>
  have hlt:v.length<u.length:=by have:=of_decide_eq_true hd2;omega
  have hu2:u=u.take v.length++u.drop v.length:=(yan _ _).symm
  have hu1l:(u.take v.length).length=v.length:=by rw [yai];omega
  have hu2l:(u.drop v.length).length=u.length-v.length:=by rw [yat]
  have o:=Ns p (u.take v.length) (u.drop v.length) v q (m-u.length) m n (by simp;omega) h hu1l (by omega) (by omega)
  rw [hu1l] at o
  have e1:p++(u.take v.length++(u.drop v.length++(v++q)))=p++(u++(v++q)):=by rw [←yam (u.take _),←hu2]
  rw [e1] at o
  simp only [kf]
  refine ⟨by simp only [lo,Fx.hi];omega,fS _ o (by simp) ⟨⟨trivial,trivial,trivial,trivial,trivial,trivial⟩,rfl,rfl,rfl,rfl,⟨rfl,trivial⟩,trivial⟩ ⟨trivial,trivial⟩ ?_⟩
  simp -implicitDefEqProofs only [rX,↓rY,↓reduceIte,Nat.reduceEqDiff,reduceCtorEq,leE,leH,leB,aD,aB,wfE,wfB,wfV,wfL]
  have hI':Qo P L R Q (p++v) (u.drop v.length) (u.take v.length) q:=by
   refine ⟨by omega,by omega,by rw [yag];omega,?_⟩
   rw [←ht,yam,←yam (u.take _),←hu2]
  refine ⟨by simp only [lo,Fx.hi];omega,(p++v,u.drop v.length,u.take v.length,q),⟨hI',by simp only;omega⟩,⟨by simp only;omega,by simp only;omega⟩,by simp⟩
 | false =>
  have hlt:u.length<v.length:=by have:=of_decide_eq_false hd2;omega
  have hv2:v=v.take (v.length-u.length)++v.drop (v.length-u.length):=(yan _ _).symm
  have hv1l:(v.take (v.length-u.length)).length=v.length-u.length:=by rw [yai];omega
  have hv2l:(v.drop (v.length-u.length)).length=u.length:=by rw [yat];omega
  have o:=Ns p u (v.take (v.length-u.length)) (v.drop (v.length-u.length)) q (m-u.length) (m+v.length-u.length) n (by simp;omega) h (by omega) (by omega) (by omega)
  have e1:p++(u++(v.take (v.length-u.length)++(v.drop (v.length-u.length)++q)))=p++(u++(v++q)):=by rw [←yam (v.take _),←hv2]
  rw [e1] at o
  simp only [kg]
  refine ⟨by simp only [lo,Fx.hi];omega,by simp only [lo,Fx.hi];omega,by simp only [lo,Fx.hi];omega,fS _ o (by simp) ⟨⟨trivial,trivial,trivial,trivial,trivial,trivial⟩,rfl,rfl,rfl,rfl,⟨rfl,trivial⟩,trivial⟩ ⟨trivial,trivial⟩ ?_⟩
  simp -implicitDefEqProofs only [rX,↓rY,↓reduceIte,Nat.reduceEqDiff,reduceCtorEq,leE,leH,leB,aD,aB,wfE,wfB,wfV,wfL]
  have hI':Qo P L R Q p (v.drop (v.length-u.length)) (v.take (v.length-u.length)) (u++q):=by
   refine ⟨by omega,by omega,by omega,?_⟩
   rw [←ht,←yam (v.take _),←hv2]
  refine ⟨by simp only [lo,Fx.hi];omega,(p,v.drop (v.length-u.length),v.take (v.length-u.length),u++q),⟨hI',by simp only;omega⟩,⟨by simp only;omega,by simp only;omega⟩,rfl⟩
end Go.Fx.H
namespace Go.Fx.H
open Go Go.Fx Go.Proofs Go.Fx.R
set_option maxRecDepth 20000
structure tP (L R:List Sp):Prop where
 hL:SrL L
 hR:SrL R
 sep:∀ x∈L,∀ y∈R,x.1<y.1
 bd:Bd (L++R)
 dst:Dst (L++R)
def Vc (P L R Q:List Sp):Prop:=∀ (n:Nat) (a m b:Int),n=(P++(L++(R++Q))).length→n≤100000→a=P.length→m=P.length+L.length→b=P.length+L.length+R.length→tP L R→1≤L.length→1≤R.length →
 OkN Tryz.prog 156 [.sl 0 0 n,.i a,.i m,.i b,.clo 68 []] [rw2 (P++(L++(R++Q)))] [] (IsA (.tup []) [rw2 (P++(bU (L++R)++Q))])
abbrev cM:Cx:=cxN Tryz.prog [0]
theorem c156_parts:c156=.seq (pt 0 c156) (.seq (pt 1 c156) (rt 2 c156)):=by rfl
theorem pH {x:Int} (h0:0≤x) (h:x≤1000000) {K:V→Prop}:bK .shr .u64 (IntKind.u64.wrap x) 1 K=K (.v (.int .u64 (x/2))):=by
 have e:IntKind.u64.wrap x=x:=by rw [wrap64];omega
 rw [e,Yy]
 have e2:(x.fdiv (2 ^ (min (1:Int).toNat 64)))=x/2:=by
  rw [show (2:Int) ^ (min (1:Int).toNat 64)=2 from rfl,Int.fdiv_eq_ediv_of_nonneg _ (by omega)]
 rw [e2]
 exact propext ⟨fun h=>h.2,fun h=>⟨by decide,h⟩⟩
theorem nR {x:Int} (h0:0≤x) (h:x≤1000000):IntKind.i64.wrap (x/2)=x/2:=gH _ _ (by simp only [lo,Fx.hi];omega)
theorem abY {P S T:List Sp} {x:Sp} {g c:Nat} {k:Int} (hg:g≤S.length) (hc:c<g) (hk:k=P.length+c) (hh:k.toNat<(mid P S x T g).length):(mid P S x T g)[k.toNat]'hh=S[c]'(by omega):=by
 subst hk
 have e:((P.length:Int)+c).toNat=P.length+c:=by omega
 have hl:(S.take g).length=g:=by rw [yai];omega
 simp only [e,mid]
 rw [yaA (by simp;omega),yao (by omega),yaA (by omega)]
 simp
theorem Up {P S T:List Sp} {x:Sp} {g c:Nat} {k:Int} (hg:g≤c) (hc:c<S.length) (hk:k=P.length+1+c) (hh:k.toNat<(mid P S x T g).length):(mid P S x T g)[k.toNat]'hh=S[c]:=by
 subst hk
 have e:((P.length:Int)+1+c).toNat=P.length+(g+(1+(c-g))):=by omega
 have hl:(S.take g).length=g:=by rw [yai];omega
 have e2:x::S.drop g=[x]++S.drop g:=rfl
 simp only [e,mid,e2]
 rw [yaA (by simp;omega),yao (by omega),yao (by omega),yao (by simp;omega)]
 simp only [hl,List.getElem_drop,yaV]
 congr 1
 omega
theorem Gi {P S T:List Sp} {x:Sp} {g:Nat} {k:Int} (hg:g≤S.length) (hk:k=P.length+g) (hh:k.toNat<(mid P S x T g).length):(mid P S x T g)[k.toNat]'hh=x:=by
 subst hk
 exact Ol hg hh
theorem Ja {P S T:List Sp} {x:Sp} {g:Nat}:(mid P S x T g).length=P.length+S.length+1+T.length:=by
 have:(S.take g).length+(S.drop g).length=S.length:=by rw [←yag,yan]
 unfold mid
 simp only [yag,yaI]
 omega
theorem Xk {P S T:List Sp} {x:Sp} {g:Nat} {k k1:Int} (hS:g<S.length) (hk:k=P.length+g) (hk1:k1=P.length+g+1):((mid P S x T g).set k.toNat S[g]).set k1.toNat x=mid P S x T (g+1):=by
 subst hk hk1
 have hl:(S.take g).length=g:=by rw [yai];omega
 have e1:((P.length:Int)+g).toNat=(P++S.take g).length:=by rw [yag,hl];omega
 have e2:((P.length:Int)+g+1).toNat=(P++S.take g).length+1:=by rw [yag,hl];omega
 have e3:S.take (g+1)=S.take g++[S[g]]:=by rw [yaq,yaj hS];rfl
 have e4:mid P S x T g=(P++S.take g)++x::S[g]::(S.drop (g+1)++T):=by
  unfold mid;rw [yax hS];simp only [yam,yaR]
 have e5:mid P S x T (g+1)=(P++S.take g)++S[g]::x::(S.drop (g+1)++T):=by
  unfold mid;rw [e3];simp only [yam,yaR,yaJ]
 rw [e1,e2,e4,e5]
 exact Mn
theorem tT {R:List Sp} {x y:Sp} {h:Nat} (hR:SrL R) (hy:R[h]?=some y) (hl:lt y x):∀ z∈R.take (h+1),lt z x:=by
 intro z hz
 rw [yaq,hy] at hz
 rcases yaz.1 hz with hz|hz
 ·refine nD ?_ hl
  have h0:=hR
  rw [←yan h R] at h0
  refine (yay.1 h0).2.2 z hz _ ?_
  exact List.mem_of_getElem? (i:=0) (by rw [List.getElem?_drop];exact hy)
 ·simp at hz;subst hz;exact hl
theorem uC {R:List Sp} {x y:Sp} {h:Nat} (hR:SrL R) (hy:R[h]?=some y) (hl:lt x y):∀ z∈R.drop h,lt x z:=by
 intro z hz
 obtain ⟨hh,rfl⟩:=List.getElem?_eq_some_iff.1 hy
 rw [yax hh] at hz
 rcases yaK.1 hz with rfl|hz
 ·exact hl
 ·refine nD hl ?_
  have h0:=hR
  rw [←yan h R,yax hh] at h0
  exact (yav.1 (yay.1 h0).2.1).1 z hz
theorem uO {l m:List Sp} (h:l.Perm m) (hd:Dst m):bU l=bU m:=by
 have hd':Dst l:=nJ hd h.symm
 exact tU (gO hd) (bX.trans h.symm) hd'
section
variable {P L R Q:List Sp} {x:Sp} {n:Nat} {a m b:Int} {N Z:St→Prop} {X:Nat→St→Prop} {e:Env} {bb:Nat}
structure Tv (n:Nat) (a m b:Int) (e:Env):Prop where
 e0:get e 0=.sl 0 0 n
 e1:get e 1=.i a
 e2:get e 2=.i m
 e3:get e 3=.i b
 e4:get e 4=.clo 68 []
theorem Wg (hn:n=(P++(L++(R++Q))).length) (h:n≤100000) (ha:a=P.length) (hm:m=P.length+L.length) (hb:b=P.length+L.length+R.length) (hI:tP L R) (hL:1≤L.length) (hR:1≤R.length)
  (hE:Tv n a m b e) (hN:∀ e b',Tv n a m b e→2≤L.length→N ⟨e,[rw2 (P++(L++(R++Q)))],b'⟩) (hZ:∀ e b',Z ⟨e,[rw2 (P++(bU (L++R)++Q))],b'⟩) :
  aw cM (pt 0 c156) N X Z ⟨e,[rw2 (P++(L++(R++Q)))],bb⟩:=by
 obtain ⟨e0,e1,e2,e3,e4⟩:=hE
 have hlen:n=P.length+L.length+R.length+Q.length:=by rw [hn];simp;omega
 conv=>arg 2;whnf
 simp -implicitDefEqProofs only [rX,↓rY,aA,↓reduceIte,Nat.reduceEqDiff,cxN,e1,e2,e3]
 refine ⟨by simp only [lo,Fx.hi];omega,?_⟩
 cases hd:(m-a==1) with
 | false =>
  have:m-a≠1:=by simpa using hd
  simp -implicitDefEqProofs only [↓rY,kg]
  exact hN _ _ ⟨e0,e1,e2,e3,e4⟩ (by omega)
 | true =>
 have h1:L.length=1:=by
  have:m-a=1:=by simpa using hd
  omega
 obtain ⟨x,rfl⟩:∃ x,L=[x]:=by
  match L,h1 with
  | [x],_=>exact ⟨x,rfl⟩
 have e9:P++([x]++(R++Q))=mid P R x Q 0:=by simp [mid]
 rw [e9]
 have hml:=fun g=>Ja (P:=P) (S:=R) (T:=Q) (x:=x) (g:=g)
 have hxb:BdS x:=hI.bd x (by simp)
 simp -implicitDefEqProofs only [↓rY,kf]
 refine aX (fun g:Nat × Nat=>⟨[(10,.i (m+g.1)),(11,.i (m+g.2)),(0,.sl 0 0 n),(1,.i a),(4,.clo 68 [])],[rw2 (mid P R x Q 0)],bb⟩) (fun g=>g.1≤g.2∧g.2≤R.length∧(g.1=0∨∃ y,R[g.1-1]?=some y∧lt y x)∧(g.2=R.length∨∃ y,R[g.2]?=some y∧lt x y)) (fun g=>g.2-g.1) (0,R.length) ⟨yab _,yad _,.inl rfl,.inl rfl⟩ ?_ ?_
 ·simp -implicitDefEqProofs only [rX,↓reduceIte,Nat.reduceEqDiff,reduceCtorEq,leE,leH,leB,aD,aB,wfE,wfB,wfV,wfL,e0,e1,e4]
  simp only [yaV] at *
  exact ⟨by omega,by omega⟩
 rintro ⟨i,j⟩ ⟨hij,hj,hi1,hj1⟩
 simp only [yaV] at hij hj hi1 hj1 hm hb hlen
 unfold c156l0
 simp -implicitDefEqProofs only [rX,↓rY,aA,↓reduceIte,Nat.reduceEqDiff,fJ,reduceCtorEq,yah,cF,cQ]
 cases hd2:decide (m+(i:Int)<m+j) with
 | false =>
  have hij2:i=j:=by have:=of_decide_eq_false hd2;omega
  subst hij2
  simp -implicitDefEqProofs only [↓rY,kg]
  have hlow:∀ z∈R.take i,lt z x:=by
   rcases hi1 with h0|⟨y,hy,hl⟩
   ·subst h0;simp
   ·rcases yau i with h0|h0
    ·subst h0;simp
    ·rw [show i=i-1+1 by omega];exact tT hI.hR hy hl
  have hhigh:∀ z∈R.drop i,lt x z:=by
   rcases hj1 with h0|⟨y,hy,hl⟩
   ·rw [yak (by omega)];simp
   ·exact uC hI.hR hy hl
  have hres:rw2 (mid P R x Q i)=rw2 (P++(bU ([x]++R)++Q)):=by
   have hd':Dst (R++[x]):=nJ hI.dst ybA
   rw [uO (m:=R++[x]) ybA hd',vZ hI.hR (.refl _) hd' hhigh hlow]
   simp [mid]
  refine aX (fun t:Nat=>⟨[(13,.i (a+t)),(10,.i (m+i)),(0,.sl 0 0 n)],[rw2 (mid P R x Q t)],bb⟩) (fun t=>t≤i) (fun t=>i-t) 0 (yab _) ?_ ?_
  ·simp -implicitDefEqProofs only [rX,↓reduceIte,Nat.reduceEqDiff,reduceCtorEq,leE,leH,leB,aD,aB,wfE,wfB,wfV,yaC,Int.add_zero]
  rintro t ht
  unfold c156l1
  simp -implicitDefEqProofs only [rX,↓rY,rdK,aA,cells?,splice,↓reduceIte,Nat.reduceEqDiff,fJ,reduceCtorEq,leE,leH,leB,aD,aB,wfE,wfB,wfV,yah,cF,cQ,jR,oL,nI]
  refine ⟨by simp only [lo,Fx.hi];omega,?_⟩
  cases hd3:decide (a+(t:Int)<m+i-1) with
  | false =>
   have hti:t=i:=by have:=of_decide_eq_false hd3;omega
   subst hti
   simp -implicitDefEqProofs only [↓rY,kg]
   rw [hres]
   exact hZ _ _
  | true =>
   have hti:t<R.length:=by have:=of_decide_eq_true hd3;omega
   have hti2:t<i:=by have:=of_decide_eq_true hd3;omega
   simp -implicitDefEqProofs only [↓rY,kf,hml]
   have h1:∀ hh,(mid P R x Q t)[(a+(t:Int)).toNat]'hh=x:=Gi (by omega) (by omega)
   have h2:∀ hh,(mid P R x Q t)[(a+(t:Int)+1).toNat]'hh=R[t]:=Up (yad _) hti (by omega)
   refine ⟨by simp only [lo,Fx.hi];omega,by simp only [lo,Fx.hi];omega,by omega,by omega,by omega,by omega,by omega,by omega,by omega,by simp [hml];omega,by simp only [lo,Fx.hi];omega,t+1,⟨by omega,by omega⟩,by omega,?_⟩
   rw [h1,h2]
   exact Ic (Xk hti (by omega) (by omega))
 | true =>
 have hij2:i<j:=by have:=of_decide_eq_true hd2;omega
 have hc:(m+(i:Int)+(m+j))/2=m+((i+j)/2:Nat):=by omega
 generalize hcc:(i+j)/2=c at hc
 have hcR:c<R.length:=by omega
 simp -implicitDefEqProofs only [↓rY,kf]
 rw [pH (by omega) (by omega),hc]
 have hw:IntKind.i64.wrap (m+(c:Int))=m+c:=by rw [←hc];exact nR (by omega) (by omega)
 simp -implicitDefEqProofs only [rX,hw,hml]
 refine ⟨by simp only [lo,Fx.hi];omega,by omega,by omega,by omega,by omega,?_⟩
 have h1:∀ hh,(mid P R x Q 0)[(m+(c:Int)).toNat]'hh=R[c]:=Up (yab _) hcR (by omega)
 have h2:∀ hh,(mid P R x Q 0)[a.toNat]'hh=x :=
  Gi (yab _) (by omega)
 rw [h1,h2]
 have hyb:BdS R[c]:=hI.bd _ (by simp)
 have hsep:=hI.sep x (by simp) R[c] (yal hcR)
 refine aC (Sg R[c] x hyb hxb) ⟨⟨⟨trivial,trivial,trivial⟩,⟨trivial,trivial,trivial⟩,trivial⟩,⟨rfl,rfl,trivial⟩,⟨rfl,rfl,trivial⟩,trivial⟩ rfl ⟨trivial,trivial⟩ ?_
 have hcm:decide (Bz R[c] x<0)=decide (lt R[c] x):=by
  unfold Bz lt
  exact decide_eq_decide.2 (by omega)
 have hcy:R[c]?=some R[c]:=yaj hcR
 simp -implicitDefEqProofs only [rX,↓rY,aA,↓reduceIte,Nat.reduceEqDiff,reduceCtorEq,leE,leH,leB,aD,aB,wfE,wfB,wfV,wfL,hcm]
 cases hd3:decide (lt R[c] x) with
 | true =>
  have hl3:lt R[c] x:=of_decide_eq_true hd3
  simp only [kf]
  refine ⟨by simp only [lo,Fx.hi];omega,(c+1,j),⟨⟨by simp only;omega,hj,.inr ⟨R[c],hcy,hl3⟩,hj1⟩,by simp only;omega⟩,by simp only;omega,rfl⟩
 | false =>
  have hl3:lt x R[c]:=(vR (.inl hsep)).resolve_right (of_decide_eq_false hd3)
  simp only [kg]
  refine ⟨(i,c),⟨⟨by simp only;omega,by simp only;omega,hi1,.inr ⟨R[c],hcy,hl3⟩⟩,by simp only;omega⟩,rfl,rfl⟩
theorem Wf (hn:n=(P++(L++(R++Q))).length) (h:n≤100000) (ha:a=P.length) (hm:m=P.length+L.length) (hb:b=P.length+L.length+R.length) (hI:tP L R) (hL:1≤L.length) (hR:1≤R.length)
  (hE:Tv n a m b e) (hN:∀ e b',Tv n a m b e→2≤R.length→N ⟨e,[rw2 (P++(L++(R++Q)))],b'⟩) (hZ:∀ e b',Z ⟨e,[rw2 (P++(bU (L++R)++Q))],b'⟩) :
  aw cM (pt 1 c156) N X Z ⟨e,[rw2 (P++(L++(R++Q)))],bb⟩:=by
 obtain ⟨e0,e1,e2,e3,e4⟩:=hE
 have hlen:n=P.length+L.length+R.length+Q.length:=by rw [hn];simp;omega
 conv=>arg 2;whnf
 simp -implicitDefEqProofs only [rX,↓rY,aA,↓reduceIte,Nat.reduceEqDiff,cxN,e1,e2,e3]
 refine ⟨by simp only [lo,Fx.hi];omega,?_⟩
 cases hd:(b-m==1) with
 | false =>
  have:b-m≠1:=by simpa using hd
  simp -implicitDefEqProofs only [↓rY,kg]
  exact hN _ _ ⟨e0,e1,e2,e3,e4⟩ (by omega)
 | true =>
 have h1:R.length=1:=by
  have:b-m=1:=by simpa using hd
  omega
 obtain ⟨x,rfl⟩:∃ x,R=[x]:=by
  match R,h1 with
  | [x],_=>exact ⟨x,rfl⟩
 have e9:P++(L++([x]++Q))=mid P L x Q L.length:=by simp [mid]
 rw [e9]
 have hml:=fun g=>Ja (P:=P) (S:=L) (T:=Q) (x:=x) (g:=g)
 have hxb:BdS x:=hI.bd x (by simp)
 simp -implicitDefEqProofs only [↓rY,kf]
 refine aX (fun g:Nat × Nat=>⟨[(14,.i (a+g.1)),(15,.i (a+g.2)),(0,.sl 0 0 n),(2,.i m),(4,.clo 68 [])],[rw2 (mid P L x Q L.length)],bb⟩) (fun g=>g.1≤g.2∧g.2≤L.length∧(g.1=0∨∃ y,L[g.1-1]?=some y∧lt y x)∧(g.2=L.length∨∃ y,L[g.2]?=some y∧lt x y)) (fun g=>g.2-g.1) (0,L.length) ⟨yab _,yad _,.inl rfl,.inl rfl⟩ ?_ ?_
 ·simp -implicitDefEqProofs only [rX,↓reduceIte,Nat.reduceEqDiff,reduceCtorEq,leE,leH,leB,aD,aB,wfE,wfB,wfV,wfL,e0,e2,e4]
  exact ⟨by omega,by omega⟩
 rintro ⟨i,j⟩ ⟨hij,hj,hi1,hj1⟩
 simp only [yaV] at hij hj hi1 hj1 hm hb hlen
 unfold c156l2
 simp -implicitDefEqProofs only [rX,↓rY,aA,↓reduceIte,Nat.reduceEqDiff,fJ,reduceCtorEq,yah,cF,cQ]
 cases hd2:decide (a+(i:Int)<a+j) with
 | false =>
  have hij2:i=j:=by have:=of_decide_eq_false hd2;omega
  subst hij2
  simp -implicitDefEqProofs only [↓rY,kg]
  have hlow:∀ z∈L.take i,lt z x:=by
   rcases hi1 with h0|⟨y,hy,hl⟩
   ·subst h0;simp
   ·rcases yau i with h0|h0
    ·subst h0;simp
    ·rw [show i=i-1+1 by omega];exact tT hI.hL hy hl
  have hhigh:∀ z∈L.drop i,lt x z:=by
   rcases hj1 with h0|⟨y,hy,hl⟩
   ·rw [yak (by omega)];simp
   ·exact uC hI.hL hy hl
  have hres:rw2 (mid P L x Q i)=rw2 (P++(bU (L++[x])++Q)):=by
   rw [vZ hI.hL (.refl _) hI.dst hhigh hlow]
   simp [mid]
  refine aX (fun t:Nat=>⟨[(17,.i (P.length+t)),(14,.i (a+i)),(0,.sl 0 0 n)],[rw2 (mid P L x Q t)],bb⟩) (fun t=>i≤t∧t≤L.length) (fun t=>t-i) L.length ⟨hj,yad _⟩ ?_ ?_
  ·simp -implicitDefEqProofs only [rX,↓reduceIte,Nat.reduceEqDiff,reduceCtorEq,leE,leH,leB,aD,aB,wfE,wfB,wfV]
   omega
  rintro t ⟨hit,ht⟩
  unfold c156l3
  simp -implicitDefEqProofs only [rX,↓rY,rdK,aA,cells?,splice,↓reduceIte,Nat.reduceEqDiff,fJ,reduceCtorEq,leE,leH,leB,aD,aB,wfE,wfB,wfV,yah,cF,cQ,jR,oL,nI]
  cases hd3:decide (a+(i:Int)<P.length+t) with
  | false =>
   have hti:t=i:=by have:=of_decide_eq_false hd3;omega
   subst hti
   simp -implicitDefEqProofs only [↓rY,kg]
   rw [hres]
   exact hZ _ _
  | true =>
   have hti2:i<t:=by have:=of_decide_eq_true hd3;omega
   have hti:t-1<L.length:=by omega
   have h1:∀ hh,(mid P L x Q t)[((P.length:Int)+t).toNat]'hh=x:=Ol ht
   have h2:∀ hh,(mid P L x Q t)[((P.length:Int)+t-1).toNat]'hh=L[t-1]:=Uq (by omega) hti
   simp -implicitDefEqProofs only [↓rY,kf,hml,h1,h2]
   refine ⟨by simp only [lo,Fx.hi];omega,by simp only [lo,Fx.hi];omega,by omega,by omega,by omega,by omega,by omega,by omega,by omega,by simp [hml];omega,by simp only [lo,Fx.hi];omega,t-1,⟨⟨by omega,by omega⟩,by omega⟩,by omega,?_⟩
   exact Ic (Om (by omega) hti)
 | true =>
 have hij2:i<j:=by have:=of_decide_eq_true hd2;omega
 have hc:(a+(i:Int)+(a+j))/2=a+((i+j)/2:Nat):=by omega
 generalize hcc:(i+j)/2=c at hc
 have hcR:c<L.length:=by omega
 simp -implicitDefEqProofs only [↓rY,kf]
 rw [pH (by omega) (by omega),hc]
 have hw:IntKind.i64.wrap (a+(c:Int))=a+c:=by rw [←hc];exact nR (by omega) (by omega)
 simp -implicitDefEqProofs only [rX,hw,hml]
 refine ⟨by simp only [lo,Fx.hi];omega,by omega,by omega,by omega,by omega,?_⟩
 have h1:∀ hh,(mid P L x Q L.length)[(a+(c:Int)).toNat]'hh=L[c]:=abY (yad _) hcR (by omega)
 have h2:∀ hh,(mid P L x Q L.length)[m.toNat]'hh=x:=Gi (yad _) (by omega)
 rw [h1,h2]
 have hyb:BdS L[c]:=hI.bd _ (by simp)
 have hsep:=hI.sep L[c] (yal hcR) x (by simp)
 refine aC (Sg x L[c] hxb hyb) ⟨⟨⟨trivial,trivial,trivial⟩,⟨trivial,trivial,trivial⟩,trivial⟩,⟨rfl,rfl,trivial⟩,⟨rfl,rfl,trivial⟩,trivial⟩ rfl ⟨trivial,trivial⟩ ?_
 have hcm:decide (Bz x L[c]<0)=decide (lt x L[c]):=by
  unfold Bz lt
  exact decide_eq_decide.2 (by omega)
 have hcy:L[c]?=some L[c]:=yaj hcR
 simp -implicitDefEqProofs only [rX,↓rY,aA,↓reduceIte,Nat.reduceEqDiff,reduceCtorEq,leE,leH,leB,aD,aB,wfE,wfB,wfV,wfL,hcm]
 cases hd3:decide (lt x L[c]) with
 | false =>
  have hl3:lt L[c] x:=(vR (.inl hsep)).resolve_right (of_decide_eq_false hd3)
  simp only [ybh,kf]
  refine ⟨by simp only [lo,Fx.hi];omega,(c+1,j),⟨⟨by simp only;omega,hj,.inr ⟨L[c],hcy,hl3⟩,hj1⟩,by simp only;omega⟩,by simp only;omega,rfl⟩
 | true =>
  have hl3:lt x L[c]:=of_decide_eq_true hd3
  simp only [ybi,kg]
  refine ⟨(i,c),⟨⟨by simp only;omega,by simp only;omega,hi1,.inr ⟨L[c],hcy,hl3⟩⟩,by simp only;omega⟩,rfl,rfl⟩
end
end Go.Fx.H
namespace Go.Fx.H
open Go Go.Fx Go.Proofs Go.Fx.R
set_option maxRecDepth 20000
section
variable {L R:List Sp} {s e:Nat}
theorem aeN (hI:tP L R) (hs:s≤L.length) (he:e≤R.length) (b1:s=0∨e=R.length∨∃ x y,L[s-1]?=some x∧R[e]?=some y∧lt x y) (b2:e=0∨s=L.length∨∃ x y,R[e-1]?=some x∧L[s]?=some y∧lt x y) :
  bU (L++R)=bU (L.take s++R.take e)++bU (L.drop s++R.drop e):=by
 have hp:((L.take s++R.take e)++(L.drop s++R.drop e)).Perm (L++R):=by
  refine List.perm_iff_count.2 fun a=>?_
  have h1:=congrArg (List.count a) (yan s L)
  have h2:=congrArg (List.count a) (yan e R)
  simp only [List.count_append] at *
  omega
 have hd:Dst ((L.take s++R.take e)++(L.drop s++R.drop e)):=nJ hI.dst hp.symm
 obtain ⟨hd1,hd2,-⟩:=yay.1 hd
 have c1:∀ u∈L.take s,∀ v∈R.drop e,lt u v:=by
  intro u hu v hv
  rcases b1 with h|h|⟨x,y,hx,hy,hl⟩
  ·subst h;simp at hu
  ·rw [yak (by omega)] at hv;simp at hv
  ·have h0:1≤s:=by
    rcases yau s with h|h
    ·subst h;simp at hu
    ·exact h
   exact uC hI.hR hy (tT hI.hL hx hl u (by rwa [show s-1+1=s by omega])) v hv
 have c2:∀ u∈R.take e,∀ v∈L.drop s,lt u v:=by
  intro u hu v hv
  rcases b2 with h|h|⟨x,y,hx,hy,hl⟩
  ·subst h;simp at hu
  ·rw [yak (by omega)] at hv;simp at hv
  ·have h0:1≤e:=by
    rcases yau e with h|h
    ·subst h;simp at hu
    ·exact h
   exact uC hI.hL hy (tT hI.hR hx hl u (by rwa [show e-1+1=e by omega])) v hv
 have c3:∀ u∈L.take s,∀ v∈L.drop s,lt u v:=by
  have h0:=hI.hL
  rw [←yan s L] at h0
  exact (yay.1 h0).2.2
 have c4:∀ u∈R.take e,∀ v∈R.drop e,lt u v:=by
  have h0:=hI.hR
  rw [←yan e R] at h0
  exact (yay.1 h0).2.2
 refine tU (yay.2 ⟨gO hd1,gO hd2,fun u hu v hv=>?_⟩) ((bX.append bX).trans hp) hI.dst
 have hu':=bX.mem_iff.1 hu
 have hv':=bX.mem_iff.1 hv
 rcases yaz.1 hu' with hu'|hu'<;>rcases yaz.1 hv' with hv'|hv'
 ·exact c3 u hu' v hv'
 ·exact c1 u hu' v hv'
 ·exact c2 u hu' v hv'
 ·exact c4 u hu' v hv'
theorem tP.sub {L' R':List Sp} (h:tP L R) (h1:L'.Sublist L) (h2:R'.Sublist R):tP L' R' :=
 ⟨h.hL.sublist h1,h.hR.sublist h2,fun x hx y hy=>h.sep x (h1.mem hx) y (h2.mem hy),fun x hx=>h.bd x ((h1.append h2).mem hx),h.dst.sublist (h1.append h2)⟩
theorem tV {l:List Sp} (h:SrL l) (hd:Dst l):bU l=l:=tU h (.refl _) hd
end
theorem agA {P L R Q:List Sp} {c:Nat} {k:Int} (hc:c<L.length) (hk:k=P.length+c) (hh:k.toNat<(P++(L++(R++Q))).length):(P++(L++(R++Q)))[k.toNat]'hh=L[c]:=by
 subst hk
 have e:((P.length:Int)+c).toNat=P.length+c:=by omega
 simp only [e]
 rw [yao (by omega),yaA (by omega)]
 simp
theorem afZ {P L R Q:List Sp} {c:Nat} {k:Int} (hc:c<R.length) (hk:k=P.length+L.length+c) (hh:k.toNat<(P++(L++(R++Q))).length):(P++(L++(R++Q)))[k.toNat]'hh=R[c]:=by
 subst hk
 have e:((P.length:Int)+L.length+c).toNat=P.length+(L.length+c):=by omega
 simp only [e]
 rw [yao (by omega),yao (by omega),yaA (by omega)]
 simp
theorem c156_parts2:rt 2 c156=.seq (pt 2 c156) (.seq (pt 3 c156) (.seq (pt 4 c156) (.seq (pt 5 c156) (.seq (pt 6 c156) (.seq (pt 7 c156) (.seq (pt 8 c156) (.seq (pt 9 c156) (.seq (pt 10 c156) (rt 11 c156))))))))):=by rfl
section
variable {P L R Q:List Sp} {n w:Nat} {a m b:Int} {N Z:St→Prop} {X:Nat→St→Prop} {e:Env} {bb:Nat}
structure E2 (n:Nat) (a m b:Int) (w:Nat) (e:Env):Prop where
 e0:get e 0=.sl 0 0 n
 e1:get e 1=.i a
 e2:get e 2=.i m
 e3:get e 3=.i b
 e4:get e 4=.clo 68 []
 e18:get e 18=.i (a+w)
 e19:get e 19=.i (a+w+m)
def B1 (L R:List Sp) (w lo i:Nat):Prop:=i=lo∨∃ x y,L[i-1]?=some x∧R[w-i]?=some y∧lt x y
def B2 (L R:List Sp) (w hi j:Nat):Prop:=j=hi∨∃ x y,R[w-1-j]?=some x∧L[j]?=some y∧lt x y
theorem We (hn:n=(P++(L++(R++Q))).length) (h:n≤100000) (ha:a=P.length) (hm:m=P.length+L.length) (hb:b=P.length+L.length+R.length) (hI:tP L R) (hL:1≤L.length) (hR:1≤R.length) (hw:(L.length+R.length)/2=w)
  (hE:E2 n a m b w e) (e20:get e 20=.i (a+(w-R.length:Nat))) (e21:get e 21=.i (a+(min w L.length:Nat))) (e22:get e 22=.i (a+w+m-1))
  (hN:∀ e b' s,E2 n a m b w e→get e 20=.i (a+(s:Nat))→s≤w→w-R.length≤s→s≤L.length→B1 L R w (w-R.length) s→B2 L R w (min w L.length) s→N ⟨e,[rw2 (P++(L++(R++Q)))],b'⟩) :
  aw cM (pt 7 c156) N X Z ⟨e,[rw2 (P++(L++(R++Q)))],bb⟩:=by
 obtain ⟨e0,e1,e2,e3,e4,e18,e19⟩:=hE
 have hlen:n=P.length+L.length+R.length+Q.length:=by rw [hn];simp;omega
 conv=>arg 2;whnf
 simp -implicitDefEqProofs only [rX,cxN]
 refine aX (fun g:Nat × Nat=>⟨[(20,.i (a+g.1)),(21,.i (a+g.2)),(22,.i (a+w+m-1)),(0,.sl 0 0 n),(1,.i a),(2,.i m),(3,.i b),(4,.clo 68 []),(18,.i (a+w)),(19,.i (a+w+m))],[rw2 (P++(L++(R++Q)))],bb⟩) (fun g=>w-R.length≤g.1∧g.1≤g.2∧g.2≤min w L.length∧B1 L R w (w-R.length) g.1∧B2 L R w (min w L.length) g.2) (fun g=>g.2-g.1) (w-R.length,min w L.length) ⟨yad _,by simp only;omega,yad _,.inl rfl,.inl rfl⟩ ?_ ?_
 ·simp -implicitDefEqProofs only [rX,leE,leH,leB,aD,aB,wfE,wfB,wfV,wfL,e0,e1,e2,e3,e4,e18,e19,e20,e21,e22]
 rintro ⟨i,j⟩ ⟨hi0,hij,hj,hi1,hj1⟩
 simp only at hi0 hij hj hi1 hj1
 unfold c156l4
 simp -implicitDefEqProofs only [rX,↓rY,aA,↓reduceIte,Nat.reduceEqDiff,fJ,reduceCtorEq,yah,cF,cQ]
 cases hd2:decide (a+(i:Int)<a+j) with
 | false =>
  have hij2:i=j:=by have:=of_decide_eq_false hd2;omega
  subst hij2
  simp -implicitDefEqProofs only [↓rY,kg]
  exact hN _ _ i ⟨rfl,rfl,rfl,rfl,rfl,rfl,rfl⟩ rfl (by omega) (by omega) (by omega) hi1 hj1
 | true =>
 have hij2:i<j:=by have:=of_decide_eq_true hd2;omega
 have hc:(a+(i:Int)+(a+j))/2=a+((i+j)/2:Nat):=by omega
 generalize hcc:(i+j)/2=c at hc
 have hcL:c<L.length:=by omega
 have hcR:w-1-c<R.length:=by omega
 simp -implicitDefEqProofs only [↓rY,kf]
 rw [pH (by omega) (by omega),hc]
 have hw2:IntKind.i64.wrap (a+(c:Int))=a+c:=by rw [←hc];exact nR (by omega) (by omega)
 simp -implicitDefEqProofs only [rX,hw2]
 refine ⟨by simp only [lo,Fx.hi];omega,by simp only [lo,Fx.hi];omega,by omega,by omega,by omega,by omega,?_⟩
 have h1:∀ hh,(P++(L++(R++Q)))[(a+(w:Int)+m-1-(a+c)).toNat]'hh=R[w-1-c]:=afZ hcR (by omega)
 have h2:∀ hh,(P++(L++(R++Q)))[(a+(c:Int)).toNat]'hh=L[c]:=agA hcL (by omega)
 rw [h1,h2]
 have hyb:BdS R[w-1-c]:=hI.bd _ (by simp)
 have hxb:BdS L[c]:=hI.bd _ (by simp)
 have hsep:=hI.sep L[c] (yal hcL) R[w-1-c] (yal hcR)
 refine aC (Sg R[w-1-c] L[c] hyb hxb) ⟨⟨⟨trivial,trivial,trivial⟩,⟨trivial,trivial,trivial⟩,trivial⟩,⟨rfl,rfl,trivial⟩,⟨rfl,rfl,trivial⟩,trivial⟩ rfl ⟨trivial,trivial⟩ ?_
 have hcm:decide (Bz R[w-1-c] L[c]<0)=decide (lt R[w-1-c] L[c]):=by
  unfold Bz lt
  exact decide_eq_decide.2 (by omega)
 have hcy:L[c]?=some L[c]:=yaj hcL
 have hcz:R[w-1-c]?=some R[w-1-c]:=yaj hcR
 simp -implicitDefEqProofs only [rX,↓rY,aA,↓reduceIte,Nat.reduceEqDiff,reduceCtorEq,leE,leH,leB,aD,aB,wfE,wfB,wfV,wfL,hcm]
 cases hd3:decide (lt R[w-1-c] L[c]) with
 | false =>
  have hl3:lt L[c] R[w-1-c]:=(vR (.inl hsep)).resolve_right (of_decide_eq_false hd3)
  simp only [ybh,kf]
  refine ⟨by simp only [lo,Fx.hi];omega,(c+1,j),⟨⟨by simp only;omega,by simp only;omega,hj,.inr ⟨L[c],R[w-1-c],hcy,?_,hl3⟩,hj1⟩,by simp only;omega⟩,by simp only;omega,rfl⟩
  rw [←hcz];congr 1;omega
 | true =>
  have hl3:lt R[w-1-c] L[c]:=of_decide_eq_true hd3
  simp only [ybi,kg]
  refine ⟨(i,c),⟨⟨by simp only;omega,by simp only;omega,by simp only;omega,hi1,.inr ⟨R[w-1-c],L[c],hcz,hcy,hl3⟩⟩,by simp only;omega⟩,rfl,rfl⟩
theorem Mv (hn:n=(P++(L++(R++Q))).length) (h:n≤100000) (ha:a=P.length) (hm:m=P.length+L.length) (hb:b=P.length+L.length+R.length) (hI:tP L R) (hL:2≤L.length) (hR:2≤R.length) (hw:(L.length+R.length)/2=w)
  (ih:∀ z',z'<L.length+R.length→∀ P L R Q,L.length+R.length=z'→Vc P L R Q)
  (hE:E2 n a m b w e) (e20:get e 20=.i (a+(w-R.length:Nat))) (e21:get e 21=.i (a+(min w L.length:Nat)))
  (hN:∀ e b',N ⟨e,[rw2 (P++(bU (L++R)++Q))],b'⟩) :
  aw cM (pt 6 c156) (fun s'=>aw cM (.seq (pt 7 c156) (.seq (pt 8 c156) (.seq (pt 9 c156) (.seq (pt 10 c156) (rt 11 c156))))) N X Z s') X Z ⟨e,[rw2 (P++(L++(R++Q)))],bb⟩:=by
 have hE':=hE
 obtain ⟨e0,e1,e2,e3,e4,e18,e19⟩:=hE
 have hlen:n=P.length+L.length+R.length+Q.length:=by rw [hn];simp;omega
 conv=>arg 2;whnf
 simp -implicitDefEqProofs only [rX,↓rY,aA,↓reduceIte,cxN,e19]
 refine ⟨by simp only [lo,Fx.hi];omega,?_⟩
 refine We hn h ha hm hb hI (by omega) (by omega) hw ⟨e0,e1,e2,e3,e4,e18,e19⟩ e20 e21 rfl ?_
 rintro e b' s ⟨e0,e1,e2,e3,e4,e18,e19⟩ e20 hs1 hs2 hs3 hB1 hB2
 have e24:a+(w:Int)+m-(a+s)=m+(w-s:Nat):=by omega
 obtain ⟨t,ht⟩:∃ t,w-s=t:=⟨_,rfl⟩
 rw [ht] at e24
 have htR:t≤R.length:=by omega
 have hspl:=aeN (s:=s) (e:=t) hI hs3 htR (by
  rcases hB1 with h1|⟨x,y,h1,h2,h3⟩
  ·rcases yau s with h4|h4
   ·exact .inl h4
   ·exact .inr (.inl (by omega))
  ·exact .inr (.inr ⟨x,y,h1,by rw [←ht];exact h2,h3⟩)) (by
  rcases hB2 with h1|⟨x,y,h1,h2,h3⟩
  ·rcases yau t with h4|h4
   ·exact .inl h4
   ·exact .inr (.inl (by omega))
  ·refine .inr (.inr ⟨x,y,?_,h2,h3⟩)
   rw [←h1];congr 1;omega)
 have hL12:=yan s L
 have hR12:=yan t R
 have iA:tP (L.take s) (R.take t):=hI.sub (yaM s L) (yaM t R)
 have iB:tP (L.drop s) (R.drop t):=hI.sub (yaW s L) (yaW t R)
 have lL1:(L.take s).length=s:=by rw [yai];omega
 have lL2:(L.drop s).length=L.length-s:=yat
 have lR1:(R.take t).length=t:=by rw [yai];omega
 have lR2:(R.drop t).length=R.length-t:=yat
 have hin:rw2 (P++(L++(R++Q)))=rw2 ((P++L.take s)++(L.drop s++(R.take t++(R.drop t++Q)))):=by
  conv=>lhs;rw [←hL12,←hR12]
  simp only [yam]
 rw [hin]
 rw [hspl] at hN
 generalize L.take s=L1 at *
 generalize L.drop s=L2 at *
 generalize R.take t=R1 at *
 generalize R.drop t=R2 at *
 simp -implicitDefEqProofs only [qL]
 conv=>arg 2;whnf
 simp -implicitDefEqProofs only [rX,↓rY,↓reduceIte,Nat.reduceEqDiff,e19,e20,e24]
 refine ⟨by simp only [lo,Fx.hi];omega,?_⟩
 have dA:bU (L1++R1)=L1++R1∨(1≤s∧1≤t):=by
  rcases yau s with h0|h0
  ·left
   have:L1=[]:=yaH (by omega)
   subst this
   exact tV iA.hR iA.dst
  ·rcases yau t with h1|h1
   ·left
    have:R1=[]:=yaH (by omega)
    subst this
    rw [yap]
    exact tV iA.hL (by simpa using iA.dst)
   ·exact .inr ⟨h0,h1⟩
 have dB:bU (L2++R2)=L2++R2∨(s<L.length∧t<R.length):=by
  rcases yaB s L.length with h0|h0
  ·rcases yaB t R.length with h1|h1
   ·exact .inr ⟨h0,h1⟩
   ·left
    have:R2=[]:=yaH (by omega)
    subst this
    rw [yap]
    exact tV iB.hL (by simpa using iB.dst)
  ·left
   have:L2=[]:=yaH (by omega)
   subst this
   exact tV iB.hR iB.dst
 have hAl:(bU (L1++R1)).length=s+t:=by rw [bX.length_eq,yag];omega
 have hr2:∀ e b',E2 n a m b w e→get e 24=.i (m+(t:Nat))→aw cM (rt 11 c156) N X Z ⟨e,[rw2 ((P++bU (L1++R1))++(L2++(R2++Q)))],b'⟩:=by
  rintro e b' ⟨e0,e1,e2,e3,e4,e18,e19⟩ e24
  have hNB:∀ e b',bU (L2++R2)=L2++R2→N ⟨e,[rw2 ((P++bU (L1++R1))++(L2++(R2++Q)))],b'⟩:=by
   intro e b' h0
   have:=hN e b'
   rw [h0] at this
   simpa only [yam] using this
  conv=>arg 2;whnf
  simp -implicitDefEqProofs only [rX,↓rY,aA,↓reduceIte,Nat.reduceEqDiff,reduceCtorEq,cxN,e0,e3,e4,e18,e24]
  cases hd1:decide (a+(w:Int)<m+t) with
  | false =>
   have h0:=of_decide_eq_false hd1
   simp -implicitDefEqProofs only [↓rY,kg]
   exact hNB _ _ (dB.resolve_right (by omega))
  | true =>
   have h0:=of_decide_eq_true hd1
   simp -implicitDefEqProofs only [↓rY,kf]
   cases hd2:decide (m+(t:Int)<b) with
   | false =>
    have h1:=of_decide_eq_false hd2
    simp -implicitDefEqProofs only [↓rY,kg]
    exact hNB _ _ (dB.resolve_right (by omega))
   | true =>
    have h1:=of_decide_eq_true hd2
    simp -implicitDefEqProofs only [↓rY,kf]
    have o:=ih (L2.length+R2.length) (by omega) (P++bU (L1++R1)) L2 R2 Q rfl n (a+w) (m+t) b (by simp only [yag,hAl];omega) h (by rw [yag,hAl];omega) (by rw [yag,hAl];omega) (by rw [yag,hAl];omega) iB (by omega) (by omega)
    refine fS _ o (by simp) ⟨⟨trivial,trivial,trivial,trivial,trivial,trivial⟩,rfl,rfl,rfl,rfl,⟨rfl,trivial⟩,trivial⟩ ⟨trivial,trivial⟩ ?_
    simp -implicitDefEqProofs only [rX]
    have:=hN
    simp only [yam] at this ⊢
    exact this _ _
 have hrest:∀ e b',E2 n a m b w e→get e 20=.i (a+(s:Nat))→get e 24=.i (m+(t:Nat))→aw cM (pt 10 c156) (fun s'=>aw cM (rt 11 c156) N X Z s') X Z ⟨e,[rw2 ((P++L1)++(R1++(L2++(R2++Q))))],b'⟩:=by
  rintro e b' ⟨e0,e1,e2,e3,e4,e18,e19⟩ e20 e24
  have hNA:∀ e b',bU (L1++R1)=L1++R1→E2 n a m b w e→get e 24=.i (m+(t:Nat))→aw cM (rt 11 c156) N X Z ⟨e,[rw2 ((P++L1)++(R1++(L2++(R2++Q))))],b'⟩:=by
   intro e b' h0 hE h24
   have:=hr2 e b' hE h24
   rw [h0] at this
   simpa only [yam] using this
  conv=>arg 2;whnf
  simp -implicitDefEqProofs only [rX,↓rY,aA,↓reduceIte,Nat.reduceEqDiff,reduceCtorEq,cxN,e0,e1,e4,e18,e20]
  cases hd1:decide (a<a+(s:Int)) with
  | false =>
   have h0:=of_decide_eq_false hd1
   simp -implicitDefEqProofs only [↓rY,kg]
   exact hNA _ _ (dA.resolve_right (by omega)) ⟨e0,e1,e2,e3,e4,e18,e19⟩ e24
  | true =>
   have h0:=of_decide_eq_true hd1
   simp -implicitDefEqProofs only [↓rY,kf]
   cases hd2:decide (a+(s:Int)<a+w) with
   | false =>
    have h1:=of_decide_eq_false hd2
    simp -implicitDefEqProofs only [↓rY,kg]
    exact hNA _ _ (dA.resolve_right (by omega)) ⟨e0,e1,e2,e3,e4,e18,e19⟩ e24
   | true =>
    have h1:=of_decide_eq_true hd2
    simp -implicitDefEqProofs only [↓rY,kf]
    have o:=ih (L1.length+R1.length) (by omega) P L1 R1 (L2++(R2++Q)) rfl n a (a+s) (a+w) (by simp only [yag];omega) h ha (by omega) (by omega) iA (by omega) (by omega)
    rw [yam]
    refine fS _ o (by simp) ⟨⟨trivial,trivial,trivial,trivial,trivial,trivial⟩,rfl,rfl,rfl,rfl,⟨rfl,trivial⟩,trivial⟩ ⟨trivial,trivial⟩ ?_
    simp -implicitDefEqProofs only [rX]
    rw [←yam]
    exact hr2 _ _ ⟨e0,e1,e2,e3,e4,e18,e19⟩ e24
 conv=>arg 2;whnf
 simp -implicitDefEqProofs only [rX,↓rY,aA,↓reduceIte,Nat.reduceEqDiff,reduceCtorEq,e0,e2,e4,e20]
 cases hd1:decide (a+(s:Int)<m) with
 | false =>
  have h0:=of_decide_eq_false hd1
  have:L2=[]:=yaH (by omega)
  subst this
  simp -implicitDefEqProofs only [rX,↓rY,kg]
  exact hrest _ _ ⟨e0,e1,e2,e3,e4,e18,e19⟩ e20 rfl
 | true =>
  have h0:=of_decide_eq_true hd1
  simp -implicitDefEqProofs only [↓rY,kf]
  cases hd2:decide (m<m+(t:Int)) with
  | false =>
   have h1:=of_decide_eq_false hd2
   have:R1=[]:=yaH (by omega)
   subst this
   simp -implicitDefEqProofs only [rX,↓rY,kg]
   exact hrest _ _ ⟨e0,e1,e2,e3,e4,e18,e19⟩ e20 rfl
  | true =>
   have h1:=of_decide_eq_true hd2
   simp -implicitDefEqProofs only [↓rY,kf]
   have o:=aaQ (P++L1) L2 R1 (R2++Q) (a+s) m (m+t) n (by simp only [yag];omega) h (by rw [yag];omega) (by rw [yag];omega) (by rw [yag];omega) (by omega) (by omega)
   refine fS _ o (by simp) ⟨⟨trivial,trivial,trivial,trivial,trivial,trivial⟩,rfl,rfl,rfl,rfl,⟨rfl,trivial⟩,trivial⟩ ⟨trivial,trivial⟩ ?_
   simp -implicitDefEqProofs only [rX]
   exact hrest _ _ ⟨e0,e1,e2,e3,e4,e18,e19⟩ e20 rfl
end
theorem aaX:∀ (z:Nat) (P L R Q:List Sp),L.length+R.length=z→Vc P L R Q:=by
 intro z
 induction z using yaG with
 | ind z ih =>
 intro P L R Q hz n a m b hn h ha hm hb hI hL hR
 have hlen:n=P.length+L.length+R.length+Q.length:=by rw [hn];simp;omega
 refine fY pol [0] lw156 (by simp) ⟨trivial,trivial⟩ (fun k hk hm=>by simp at hk ⊢;omega) ?_
 rw [c156_parts]
 have hret:∀ e b',eX [0] 1 [] (IsA (.tup []) [rw2 (P++(bU (L++R)++Q))]) ⟨e,[rw2 (P++(bU (L++R)++Q))],b'⟩:=by
  intro e b'
  rw [bN]
  simp -implicitDefEqProofs only [rX,aO,aP,leH,leB,aD,aB,wfB,wfV,wfL]
 simp -implicitDefEqProofs only [qL,aF]
 refine Wg hn h ha hm hb hI hL hR ⟨rfl,rfl,rfl,rfl,rfl⟩ (fun e b' hE h2L=>?_) hret
 refine Wf hn h ha hm hb hI hL hR hE (fun e b' hE h2R=>?_) hret
 obtain ⟨e0,e1,e2,e3,e4⟩:=hE
 have hw:(a+b)/2=a+((L.length+R.length)/2:Nat):=by omega
 generalize hww:(L.length+R.length)/2=w at hw
 have hwr:IntKind.i64.wrap (a+(w:Int))=a+w:=by rw [←hw];exact nR (by omega) (by omega)
 rw [c156_parts2]
 simp -implicitDefEqProofs only [qL]
 conv=>arg 2;whnf
 simp -implicitDefEqProofs only [rX,↓rY,aA,↓reduceIte,Nat.reduceEqDiff,cxN,e1,e3]
 rw [pH (by omega) (by omega),hw]
 simp -implicitDefEqProofs only [rX,hwr]
 refine ⟨by simp only [lo,Fx.hi];omega,?_⟩
 conv=>arg 2;whnf
 simp -implicitDefEqProofs only [rX,↓rY,↓reduceIte,Nat.reduceEqDiff,e2]
 refine ⟨by simp only [lo,Fx.hi];omega,?_⟩
 conv=>arg 2;whnf
 simp -implicitDefEqProofs only [rX,aA]
 conv=>arg 2;whnf
 simp -implicitDefEqProofs only [rX,↓rY,↓reduceIte,Nat.reduceEqDiff,e1,e2,e3]
 cases hd:decide (a+(w:Int)<m) with
 | true =>
  have:=of_decide_eq_true hd
  simp only [kf]
  refine ⟨by simp only [lo,Fx.hi];omega,Mv hn h ha hm hb hI h2L h2R hww (fun z' hz'=>ih z' (by omega)) ⟨e0,e1,e2,e3,e4,rfl,rfl⟩ ?_ ?_ hret⟩
  ·simp -implicitDefEqProofs only [rX,↓reduceIte,Nat.reduceEqDiff];omega
  ·simp -implicitDefEqProofs only [rX,↓reduceIte];omega
 | false =>
  have:=of_decide_eq_false hd
  simp only [kg]
  refine Mv hn h ha hm hb hI h2L h2R hww (fun z' hz'=>ih z' (by omega)) ⟨e0,e1,e2,e3,e4,rfl,rfl⟩ ?_ ?_ hret
  ·simp -implicitDefEqProofs only [rX,↓reduceIte,Nat.reduceEqDiff];omega
  ·simp -implicitDefEqProofs only [rX,↓reduceIte];omega
end Go.Fx.H
namespace Go.Fx.H
open Go Go.Fx Go.Proofs Go.Fx.R
set_option maxRecDepth 20000
theorem abS (G:List Sp) (hG:G.length≤39) (hasc:Asc G) (hbd:Bd G) :
  OkN Tryz.prog 119 [.sl 0 0 G.length,.i G.length,.clo 68 []] [rw2 G] [] (IsA (.tup []) [rw2 (bU G)]):=by
 refine fY pol [0] lw119 (by simp) ⟨trivial,trivial⟩ (fun k hk hm=>by simp at hk ⊢;omega) ?_
 have hsub:∀ {M},M.Sublist G→Asc M∧Bd M:=fun h=>⟨hasc.sublist h,fun x hx=>hbd x (h.mem hx)⟩
 unfold c119
 simp -implicitDefEqProofs only [rX,aA,↓reduceIte,Nat.reduceEqDiff,Nat.reduceAdd,cxN,aF]
 have hA:∀ k,G.take k++G.drop k=G:=fun k=>yan k G
 refine aX (fun g:Nat=>⟨[(6,.i 20),(7,.i (20*g:Nat)),(8,.i (20*g+20:Nat)),(0,.sl 0 0 G.length),(1,.i G.length),(2,.clo 68 [])],[rw2 (bU (G.take (20*g))++G.drop (20*g))],1⟩) (fun g=>g≤1∧20*g≤G.length) (fun g=>1-g) 0 ⟨by omega,by omega⟩ ?_ ?_
 ·have e0:bU (G.take (20*0))++G.drop (20*0)=G:=by simp [bU]
  rw [e0]
  simp -implicitDefEqProofs only [rX,↓reduceIte,Nat.reduceEqDiff,reduceCtorEq,leE,leH,leB,aD,aB,wfE,wfB,wfV,wfL]
  exact ⟨rfl,rfl⟩
 rintro g ⟨hg,hgl⟩
 unfold c119l0
 simp -implicitDefEqProofs only [rX,↓rY,↓reduceIte,Nat.reduceEqDiff,reduceCtorEq]
 cases hd:decide (((20*g+20:Nat):Int)≤G.length) with
 | true =>
  have hd':=of_decide_eq_true hd
  have hg0:g=0:=by omega
  subst hg0
  have o:=Un [] (G.take 20) (G.drop 20) 0 20 G.length (by simp) (by omega) rfl (by simp;omega) (hsub (yaM _ _)).1 (hsub (yaM _ _)).2
  have e0:bU (G.take (20*0))++G.drop (20*0)=[]++G.take 20++G.drop 20:=by simp [bU]
  rw [e0,kf]
  refine fS _ o (by simp) ⟨⟨trivial,trivial,trivial,trivial,trivial⟩,rfl,rfl,rfl,⟨rfl,trivial⟩,trivial⟩ ⟨trivial,trivial⟩ ?_
  simp -implicitDefEqProofs only [rX,↓rY,↓reduceIte,Nat.reduceEqDiff,reduceCtorEq,leE,leH,leB,aD,aB,wfE,wfB,wfV,wfL]
  exact ⟨by simp only [lo,Fx.hi];omega,1,⟨⟨by omega,by omega⟩,by omega⟩,⟨rfl,rfl⟩,by simp⟩
 | false =>
 have hd':=of_decide_eq_false hd
 have hP:(bU (G.take (20*g))).length=20*g:=by rw [bX.length_eq,yai];omega
 have o:=Un (bU (G.take (20*g))) (G.drop (20*g)) [] (20*g:Nat) G.length G.length (by simp only [yap,yag,hP,yat];omega) (by omega) (by rw [hP]) (by rw [hP,yat];omega) (hsub (yaW _ _)).1 (hsub (yaW _ _)).2
 simp only [yap] at o
 rw [kg]
 refine fS _ o (by simp) ⟨⟨trivial,trivial,trivial,trivial,trivial⟩,rfl,rfl,rfl,⟨rfl,trivial⟩,trivial⟩ ⟨trivial,trivial⟩ ?_
 simp -implicitDefEqProofs only [rX]
 have hAB:(bU (G.take (20*g))++bU (G.drop (20*g))).Perm G:=by
  conv=>rhs;rw [←hA (20*g)]
  exact bX.append bX
 have hdG:Dst G:=Ju hasc
 have hfin:g=0∨G.length=20→bU (G.take (20*g))++bU (G.drop (20*g))=bU G:=by
  rintro (h0|h0)
  ·subst h0;simp [bU]
  ·rcases yau g with h1|h1
   ·subst h1;simp [bU]
   ·have:g=1:=by omega
    subst this
    rw [yaa (by omega),yak (by omega)];simp [bU]
 refine aX (fun t:Nat=>⟨[(6,.i (20*t+20:Nat)),(0,.sl 0 0 G.length),(1,.i G.length),(2,.clo 68 [])],[rw2 (if t=0 then bU (G.take (20*g))++bU (G.drop (20*g)) else bU G)],1⟩) (fun t=>t≤1) (fun t=>1-t) 0 (by omega) ?_ ?_
 ·simp -implicitDefEqProofs only [rX,↓reduceIte,Nat.reduceEqDiff,reduceCtorEq,leE,leH,leB,aD,aB,wfE,wfB,wfV,wfL]
  rfl
 rintro t ht
 unfold c119l1
 simp -implicitDefEqProofs only [rX,↓rY,aA,↓reduceIte,Nat.reduceEqDiff,reduceCtorEq]
 cases hd2:decide (((20*t+20:Nat):Int)<G.length) with
 | false =>
  have hd2':=of_decide_eq_false hd2
  simp only [kg,bN]
  simp -implicitDefEqProofs only [rX,aO,aP,leH,leB,aD,aB,wfB,wfV,wfL]
  rcases yau t with h0|h0
  ·rw [if_pos h0,hfin (by omega)]
  ·rw [if_neg (by omega)]
 | true =>
 have hd2':=of_decide_eq_true hd2
 have ht0:t=0:=by omega
 have hg1:g=1:=by omega
 subst ht0 hg1
 simp -implicitDefEqProofs only [↓rY,↓reduceIte,yba,kf]
 refine ⟨by decide,?_⟩
 have hP2:(bU (G.take 20)).length=20:=by rw [bX.length_eq,yai];omega
 have hQ2:(bU (G.drop 20)).length=G.length-20:=by rw [bX.length_eq,yat]
 have hI:tP (bU (G.take 20)) (bU (G.drop 20)):=by
  refine ⟨gO (hdG.sublist (yaM _ _)),gO (hdG.sublist (yaW _ _)),fun x hx y hy=>?_,fun x hx=>hbd x (hAB.mem_iff.1 hx),nJ hdG hAB.symm⟩
  have h0:=hasc
  rw [←yan 20 G] at h0
  exact (yay.1 h0).2.2 x (bX.mem_iff.1 hx) y (bX.mem_iff.1 hy)
 have o:=aaX _ [] (bU (G.take 20)) (bU (G.drop 20)) [] rfl G.length 0 20 G.length (by simp only [yaJ,yap,yag,hP2,hQ2];omega) (by omega) rfl (by rw [hP2];rfl) (by rw [hP2,hQ2,ybb];omega) hI (by omega) (by omega)
 rw [uO hAB hdG] at o
 simp only [yaJ,yap] at o
 refine aX (fun t:Nat=>⟨[(6,.i 20),(7,.i 0),(8,.i 40),(0,.sl 0 0 G.length),(1,.i G.length),(2,.clo 68 [])],[rw2 (bU (G.take 20)++bU (G.drop 20))],1⟩) (fun t=>True) (fun t=>t) 0 trivial ?_ ?_
 ·simp -implicitDefEqProofs only [rX,↓reduceIte,Nat.reduceEqDiff,reduceCtorEq,leE,leH,leB,aD,aB,wfE,wfB,wfV,wfL]
  exact ⟨rfl,rfl⟩
 rintro t -
 unfold c119l2
 have h40:decide ((40:Int)≤G.length)=false:=decide_eq_false (by omega)
 have h20:decide ((20:Int)<G.length)=true:=decide_eq_true (by omega)
 simp -implicitDefEqProofs only [rX,↓rY,aA,↓reduceIte,Nat.reduceEqDiff,reduceCtorEq,leE,leH,leB,aD,aB,wfE,wfB,wfV,wfL,h40,kg]
 refine ⟨by decide,?_⟩
 rw [show decide ((0:Int)+20<G.length)=true from decide_eq_true (by omega),kf]
 refine fS _ o (by simp) ⟨⟨trivial,trivial,trivial,trivial,trivial,trivial⟩,rfl,rfl,rfl,rfl,⟨rfl,trivial⟩,trivial⟩ ⟨trivial,trivial⟩ ?_
 simp -implicitDefEqProofs only [rX,↓rY,aA,↓reduceIte,Nat.reduceEqDiff,reduceCtorEq,leE,leH,leB,aD,aB,wfE,wfB,wfV,wfL]
 exact ⟨by decide,1,⟨by omega,by omega⟩,rfl,rfl⟩
theorem afK (G:List Sp) (hG:G.length≤39) (hasc:Asc G) (hbd:Bd G) :
  OkN Tryz.prog 67 [.sl 0 0 G.length,.clo 68 []] [rw2 G] [] (IsA (.tup []) [rw2 (bU G)]):=by
 refine fY pol [0] lw67 (by simp) ⟨trivial,trivial⟩ (fun k hk hm=>by simp at hk ⊢;omega) ?_
 unfold c67
 simp -implicitDefEqProofs only [rX,↓rY,↓reduceIte,Nat.reduceEqDiff,reduceCtorEq,cxN,aF]
 intro _
 refine fS _ (abS G hG hasc hbd) (by simp) ⟨⟨trivial,trivial,trivial,trivial⟩,rfl,rfl,⟨rfl,trivial⟩,trivial⟩ ⟨trivial,trivial⟩ ?_
 simp -implicitDefEqProofs only [rX,aO,aP,leH,leB,aD,aB,wfB,wfV,wfL,bN]
def Pg (fx:List Nat) (v:V) (r:List Nat) (s:St) (K:St→Prop):Prop :=
 match v with
 | .sl k _ _=>Bt fx k (blk s.h k) s fun s'=>mU fx r s' K
 | _=>mU fx r s K
theorem Xw {fx:List Nat} {s:St} {K:St→Prop}:mU fx [] s K=K s:=rfl
theorem Xy {fx:List Nat} {x:Nat} {r:List Nat} {e:Env} {h:List Blk} {b:Nat} {K:St→Prop}:mU fx (x::r) ⟨e,h,b⟩ K=Pg fx (get e x) r ⟨e,h,b⟩ K:=rfl
theorem Xu {fx:List Nat} {k i n:Nat} {r:List Nat} {e:Env} {h:List Blk} {b:Nat} {K:St→Prop}:Pg fx (.sl k i n) r ⟨e,h,b⟩ K=Bt fx k (blk h k) ⟨e,h,b⟩ fun s'=>mU fx r s' K:=rfl
theorem Xz {fx:List Nat} {k sz:Nat} {els:List (List V)} {e:Env} {h:List Blk} {b:Nat} {K:St→Prop}:Bt fx k (.arr sz els) ⟨e,h,b⟩ K=(k∉fx∧K ⟨Br k sz els e,(h.map (rA k sz els)).set k .dead,b⟩):=rfl
@[congr] theorem agX {fx:List Nat} {v v':V} {r:List Nat} {s:St} {K:St→Prop} (q:v=v'):Pg fx v r s K=Pg fx v' r s K:=by rw [q]
@[congr] theorem agZ {fx:List Nat} {k:Nat} {B B':Blk} {s:St} {K:St→Prop} (q:B=B'):Bt fx k B s K=Bt fx k B' s K:=by rw [q]
@[congr] theorem agY {fx xs:List Nat} {s s':St} {K:St→Prop} (q:s=s'):mU fx xs s K=mU fx xs s' K:=by rw [q]
theorem No {cx:Cx} {e:Env} {h:List Blk} {b:Nat} {K:V→St→Prop} {xs:List Nat} {j sz n:Nat} {z:List Value} {ps:List (Nat × Operand)}:aOp cx (.litsf xs j sz n z ps) ⟨e,h,b⟩ K =
  mU (cx.fx++cx.bn) xs ⟨e,h,b⟩ fun s=>b5 s.e sz (yaN n (z.map .v)) ps fun els=>aE s.h (s.b+j)∧K (.sl (s.b+j) 0 n) { s with h:=s.h.set (s.b+j) (.arr sz els) }:=rfl
theorem Xv {fx:List Nat} {k:Nat} {l:List (List V)} {r:List Nat} {s:St} {K:St→Prop}:Pg fx (.ro k l) r s K=mU fx r s K:=rfl
end Go.Fx.H
namespace Go.Fx.H
open Go Go.Fx Go.Proofs Go.Fx.R
set_option maxRecDepth 20000
def gap (l:List Sp) (i:Nat):Sp:=((l.getD i (0,0)).2,(l.getD (i+1) (0,0)).1)
def Bq (l:List Sp) (k:Nat):List Sp:=(List.range k).map (gap l)
def oF (l:List Sp):List Sp:=Bq l (l.length-1)
theorem Ku {l:List Sp} {k:Nat}:Bq l (k+1)=Bq l k++[gap l k]:=by
 unfold Bq;rw [List.range_succ,yas];rfl
theorem p6 {l:List Sp} {k:Nat}:(Bq l k).length=k:=by simp [Bq]
theorem Bp {l:List Sp} {i:Nat} (h:i+1<l.length):gap l i=((l[i]'(by omega)).2,l[i+1].1):=by
 unfold gap
 rw [ybp,ybp,yaj h,yaj (show i<l.length by omega)]
 rfl
theorem Wb {l:List Sp} (h:Sep l) {i j:Nat} (hij:i<j) (hj:j<l.length):(l[i]'(by omega)).2<l[j].1:=by
 exact yaY.1 h.2 i j (by omega) hj hij
theorem Pe {l:List Sp} (h:Vd l):Asc (oF l):=by
 refine yaY.2 fun i j hi hj hij=>?_
 have hl:(oF l).length=l.length-1:=p6
 have h1:∀ k (hk:k<(oF l).length),(oF l)[k]=gap l k:=fun k hk=>by simp [oF,Bq]
 rw [h1 i hi,h1 j hj,Bp (by omega),Bp (by omega)]
 have h2:=Wb h.1 hij (show j<l.length by omega)
 have h3:=h.1.1 _ (yal (show j<l.length by omega))
 simp only
 omega
theorem Jn {l:List Sp} (h:Vd l):Bd (oF l):=by
 intro s hs
 obtain ⟨i,hi,rfl⟩:=ybo.1 hs
 have hi2:=List.mem_range.1 hi
 rw [Bp (by omega)]
 have h1:=h.2 _ (yal (show i<l.length by omega))
 have h2:=h.2 _ (yal (show i+1<l.length by omega))
 simp only
 omega
def Es (l:List Sp) (most:Int):Int:=if vd l=false∨most<1 then 1 else 0
def Er (l:List Sp) (most:Int):Nat:=min (oF l).length ((l.length:Int)-most).toNat
def Hh (l:List Sp) (most:Int):List Sp:=if Es l most≠0 then [] else ofS (l++(bU (oF l)).take (Er l most))
theorem afU (l:List Sp) (most:Int) (hl:l.length≤40) (hm:most≤9223372036854775807):Ok 17 [aR l,.i most] (Is (.tup [aR (Hh l most),.i (Es l most)])):=by
 refine eM (R:=fun q hs=>wk (.tup [aR (Hh l most),.i (Es l most)]) (gvV (fun _=>true) hs q)) ?_ fun _ _ h=>h
 refine a6 lw17 (by simp) ?_
 unfold c17
 simp -implicitDefEqProofs only [rX,aA,↓reduceIte,reduceCtorEq,cxN,aF]
 refine aC (aaH l) ⟨⟨trivial,trivial⟩,⟨rfl,rfl⟩,trivial⟩ rfl trivial ?_
 have hbad:vd l=false∨most<1→∀ e b,get e 4=.v (.slice none 0 0)→get e 5=.v (.int .i64 1)→eX [] 0 [fL.tmp 4,fL.tmp 5] (fun q hs=>wk (.tup [aR (Hh l most),.i (Es l most)]) (gvV (fun _=>true) hs q)) ⟨e,[],b⟩:=by
  intro hc e b g4 g5
  have e1:Es l most=1:=if_pos hc
  have e2:Hh l most=[]:=if_pos (by rw [e1];decide)
  rw [cO,e1,e2]
  simp -implicitDefEqProofs only [rX,aO,aP,aD,wfV,wfL,g4,g5]
  refine ⟨([]:List Blk),⟨trivial,yab _,trivial⟩,?_⟩
  simp [gvV,gvL,wk,wkL,wkR]
 cases hv:vd l with
 | false =>
  simp -implicitDefEqProofs only [rX,↓rY,aA,↓reduceIte,Nat.reduceEqDiff]
  exact hbad (.inl hv) _ _ rfl rfl
 | true =>
 simp -implicitDefEqProofs only [rX,↓rY,aA,↓reduceIte,Nat.reduceEqDiff,reduceCtorEq]
 cases hd:decide (most<1) with
 | true =>
  simp -implicitDefEqProofs only [↓rY,kf]
  exact hbad (.inr (of_decide_eq_true hd)) _ _ rfl rfl
 | false =>
 have hm1:=of_decide_eq_false hd
 simp -implicitDefEqProofs only [↓rY,kg]
 have hvd:Vd l:=Lu.1 hv
 have he0:Es l most=0:=if_neg (by rw [hv];simp;omega)
 have hgl:(oF l).length=l.length-1:=p6
 have hle:Hh l most=ofS (l++(bU (oF l)).take (Er l most)):=if_neg (by rw [he0];decide)
 refine fE (.virt 1 2 (by decide) (.nilE 6 0 rfl (.refl _))) (fun k:Nat=>⟨[(7,.i (k+1:Nat)),(6,.sl 0 0 k),(0,aR l),(1,.i most)],[rw2 (Bq l k)],0⟩) (fun k=>k≤l.length-1) (fun k=>l.length-k) 0 (by omega) ?_ ?_
 ·simp -implicitDefEqProofs only [rX,↓reduceIte,Nat.reduceEqDiff,reduceCtorEq,leE,leH,leB,aD,aB,wfE,wfB,wfV,yaP]
  exact ⟨rfl,rfl⟩
 rintro k hk
 unfold c17l0
 simp -implicitDefEqProofs only [rX,↓rY,rdK,aA,cells?,splice,↓reduceIte,Nat.reduceEqDiff,Nat.reduceAdd,reduceCtorEq,aE,bG,b5,leE,leH,leB,aD,aB,wfE,wfB,wfV,aT,aY,kill,St.kill,isD,Nat.reduceLT,Nat.reduceLeDiff,yah,yae,rE,lG]
 intro _
 cases hd2:decide (((k+1:Nat):Int)<l.length) with
 | true =>
  have hkl:=of_decide_eq_true hd2
  simp -implicitDefEqProofs only [↓rY,kf]
  have e1:((k+1:Nat):Int)-1=k:=by omega
  have e2:(((k+1:Nat):Int)-1).toNat=k:=by omega
  refine ⟨by simp only [lo,Fx.hi];omega,by omega,by omega,by omega,by omega,⟨by rw [p6];exact yad _,by omega⟩,by simp only [lo,Fx.hi];omega,k+1,⟨by omega,by omega⟩,⟨rfl,rfl⟩,?_⟩
  rw [Ku,Bp (by omega),yaa (by simp [p6])]
  simp only [e2]
  simp [rw2,enS]
 | false =>
 have hkl:=of_decide_eq_false hd2
 have hkk:k=l.length-1:=by omega
 have hgk:Bq l k=oF l:=by rw [hkk];rfl
 rw [hgk]
 simp -implicitDefEqProofs only [↓rY,kg]
 have o:=afK (oF l) (by omega) (Pe hvd) (Jn hvd)
 rw [hgl,←hkk] at o
 refine fS _ o (by simp) ⟨⟨trivial,trivial,trivial⟩,rfl,⟨rfl,trivial⟩,trivial⟩ trivial ?_
 have ef:max 0 (min (k:Int) ((l.length:Int)-most))=(Er l most:Nat):=by unfold Er;omega
 have hfk:Er l most≤k:=by unfold Er;omega
 have hsl:(bU (oF l)).length=k:=by rw [bX.length_eq];omega
 have hsl2:yac k ((bU (oF l)).map enS)=(bU (oF l)).map enS:=yaa (by simp;omega)
 simp -implicitDefEqProofs only [rX,↓rY,aA,cells?,↓reduceIte,Nat.reduceEqDiff,fJ,Nat.reduceAdd,reduceCtorEq,aE,cL,b5,isD,Nat.reduceLT,yae,No,Xw,Xy,Xu,Xv,Xz,Br,mT,v6,rA,ef,hsl,yae,show yar 0=0 from rfl,yaT,eq_true hfk,hsl2,←ybe,eq_true (show ((Er l most:Nat):Int)≤(k:Int) by omega)]
 intro _ _
 refine ⟨by simp only [lo,Fx.hi];omega,⟨⟨by omega,by omega⟩,Int.le_refl _⟩,?_⟩
 generalize hFF:(bU (oF l)).take (Er l most)=F at *
 have hFl:F.length≤40:=by rw [←hFF,yai];omega
 have hmid:Mid (l++F):=by
  intro s hs
  rcases yaz.1 hs with hs|hs
  ·have:=hvd.2 s hs;omega
  ·rw [←hFF] at hs
   have:=Jn hvd s (bX.mem_iff.1 (ybk hs));omega
 refine dW [.bro 1 ([l,F].map enL)] (.sl 0 0 (l++F).length) (.sl 2 0 (l++F).length) [.arr 2 ((l++F).map enS)] [.arr 2 ((l++F).map enS)] ?_ ?_ ?_ ?_ ?_ ?_
 ·have:=aaF [l,F] (by simp;omega)
  rw [show [l,F].flatten=l++F by simp] at this
  exact this
 ·simp [aG,aZ,aS,cJ,wkL,wk,wkB,blk,enL]
 ·simp [ren]
 ·simp [bW]
 ·trivial
 simp -implicitDefEqProofs only [rX,↓reduceIte]
 refine xO (l++F) rfl (by simp;omega) hmid rfl (by simp) (by simp) trivial ?_
 simp -implicitDefEqProofs only [rX,aA,↓reduceIte,Nat.reduceEqDiff,aO,aP,aD,wfV,wfL,aT,aY,kill,bO,St.kill,cO]
 rw [hle,he0]
 refine ⟨([]:List Blk),⟨trivial,yab _,trivial⟩,?_⟩
 simp [gvV,gvL,wk,wkL,wkR]
end Go.Fx.H
namespace Go.Fx.H
open Go Go.Fx Go.Proofs Go.Fx.R
set_option maxRecDepth 20000
end Go.Fx.H
namespace Go.Fx.H
open Go Go.Fx Go.Proofs Go.Fx.R
set_option maxRecDepth 20000
abbrev Op:=Int × Int × Bs
abbrev enO (x:Op):List V:=[.i x.1,.i x.2.1,sv x.2.2]
abbrev rO (l:List Op):V:=.ro 3 (l.map enO)
def pe (a b:Bs) (s:Int) (o:V):List V:=us a++(us b++[.i s,o])
section
variable {a b:Bs} {s:Int} {o:V}
theorem m6 (ha:a.length=16) (hb:b.length=16):(pe a b s o).length=34:=by simp [pe,cG,ha,hb]
theorem Dj (ha:a.length=16) (hb:b.length=16):(pe a b s o)[33]?=some o:=by
 unfold pe
 rw [yaQ (by rw [cG];omega),yaQ (by rw [cG,cG];omega),cG,cG,ha,hb];rfl
theorem Wr (ha:a.length=16):yac 16 (pe a b s o)=us a:=by
 unfold pe
 rw [yaD (by rw [cG];omega),yaa (by rw [cG];omega)]
theorem aaA (ha:a.length=16):yaf 16 (pe a b s o)=us b++[.i s,o]:=by
 unfold pe
 rw [yaF (by rw [cG];omega),yak (by rw [cG];omega)];rfl
theorem Kp (ho:isC o=true):(pe a b s o).all isC=true:=by
 unfold pe
 rw [yaS,eL,yaS,eL]
 show (true&&(true&&(isC (.i s)&&(isC o&&true))))=true
 rw [ho];rfl
theorem pQ (ha:a.length=16) (hb:b.length=16):yac 34 (pe a b s o)=pe a b s o:=yaa (by rw [m6 ha hb];exact yad _)
theorem hU (ha:a.length=16) (hb:b.length=16):yaf 34 (pe a b s o)=[]:=yak (by rw [m6 ha hb];exact yad _)
theorem Hr {q:List Blk} {x y:List V}:wfL q (x++y)↔wfL q x∧wfL q y:=by
 induction x with
 | nil=>simp [wfL]
 | cons u r ih=>simp [wfL,ih,and_assoc]
theorem vC {q:List Blk} (ho:wfV q o):wfL q (pe a b s o):=by
 unfold pe
 rw [Hr,Hr]
 exact ⟨bV,bV,by simp [wfL,wfV,ho]⟩
end
theorem Wy (t:Bs) (h:t.length≤100000000000):Ok 70 [sv t] (Is (.agg (us (c9 34 [t])))):=by
 refine a6 lw70 (by simp) ?_
 unfold c70
 simp -implicitDefEqProofs only [rX,↓rY,aA,cells?,↓reduceIte,reduceCtorEq,aE,b5,isD,Nat.reduceLT,cxN,mO,aF,w16]
 refine aC (Sf 34 [t] (in1 h)) ⟨⟨trivial,yad 1,trivial⟩,rfl,⟨rfl,rfl⟩,trivial⟩ (by simp [ren,aQ]) trivial ?_
 obtain ⟨u1,u2,u3⟩:=dR (bQ (k:=34) (l:=[t]))
 obtain ⟨z1,z2,z3⟩:=dR bM
 simp -implicitDefEqProofs only [rX,↓rY,cells?,splice,↓reduceIte,Nat.reduceEqDiff,aO,aP,wfV,u1,u2,z1,z3,eL,bV]
def wgt (l:List Op):Int:=l.foldl (fun n x=>n+(x.2.2.length:Int)) 0
theorem uK {l:List Op} {k:Nat} (h:k<l.length):wgt (l.take (k+1))=wgt (l.take k)+(l[k].2.2.length:Int):=by
 unfold wgt
 rw [yaq,yaj h,List.foldl_append];rfl
theorem Tz {l:List Op} (h:∀ x∈l,x.2.2.length≤1000000) {k:Nat} (hk:k≤l.length):0≤wgt (l.take k)∧wgt (l.take k)≤1000000*k:=by
 induction k with
 | zero=>simp [wgt]
 | succ k ih =>
  have:=ih (by omega)
  have h2:=h _ (yal (show k<l.length by omega))
  rw [uK (by omega)]
  omega
theorem afS (a b:Bs) (s:Int) (l:List Op) (ha:a.length=16) (hb:b.length=16) (hl:l.length≤1000000) (hw:∀ x∈l,x.2.2.length≤1000000):Ok 25 [.agg (pe a b s (rO l))] (Is (.i (wgt l))):=by
 refine a6 lw25 (by simp) ?_
 unfold c25
 simp -implicitDefEqProofs only [rX,↓rY,aA,cells?,↓reduceIte,Nat.reduceEqDiff,aE,cxN,aF,Dj,ha,hb]
 intro _
 refine aX (fun k:Nat=>⟨[(9,.i k),(8,.i l.length),(7,rO l),(3,.i (wgt (l.take k)))],[],1⟩) (fun k=>k≤l.length) (fun k=>l.length-k) 0 (yab _) ?_ ?_
 ·simp -implicitDefEqProofs only [rX,↓reduceIte,Nat.reduceEqDiff,leE,leH,aD,wfE,wfB,wfV,yaC,wgt,List.foldl_nil]
 rintro k hk
 unfold c25l0
 simp -implicitDefEqProofs only [rX,↓rY,aA,cells?,splice,↓reduceIte,Nat.reduceEqDiff,Nat.reduceAdd,aE,aO,aP,leE,leH,aD,wfE,wfB,wfV,isC,yah,yae,bR,mO]
 cases hd:decide ((k:Int)<l.length) with
 | false =>
  have hd':=of_decide_eq_false hd
  have:k=l.length:=by omega
  subst this
  simp -implicitDefEqProofs only [↓rY,kg,yaZ]
 | true =>
  have hd':=of_decide_eq_true hd
  have hkl:k<l.length:=by omega
  simp only [kf]
  have h1:=Tz hw (k:=k) hk
  have h2:=Tz hw (k:=k+1) (by omega)
  rw [uK hkl] at h2
  refine ⟨⟨by omega,by omega⟩,hkl,?_⟩
  refine ⟨by simp only [lo,Fx.hi];omega,by simp only [lo,Fx.hi];omega,k+1,⟨by omega,by omega⟩,?_⟩
  rw [uK hkl]
  exact ⟨by omega,rfl⟩
theorem Mt {a b:Bs}:(sb a==sb b)=(a==b):=by
 show (a.toArray==b.toArray)=(a==b)
 simp
theorem eqO {x y:Op} {K:Bool→Prop}:(cZ (i7 (.agg [.i x.1,.i x.2.1,sv x.2.2])) fun xs=>cZ (i7 (.agg [.i y.1,.i y.2.1,sv y.2.2])) fun ys=>eU xs ys [(0,.int .i64),(1,.int .i64),(2,.string)] K)=K (x==y):=by
 have e:(x==y)=((x.1==y.1)&&((x.2.1==y.2.1)&&((x.2.2==y.2.2)&&true))):=by
  obtain ⟨a,b,c⟩:=x
  obtain ⟨a',b',c'⟩:=y
  rw [Bool.and_true];rfl
 rw [e,←Mt]
 exact propext ⟨fun h=>h.2.2.2,fun h=>⟨⟨rfl,rfl⟩,⟨rfl,rfl⟩,⟨rfl,rfl⟩,h⟩⟩
end Go.Fx.H
namespace Go.Fx.H
open Go Go.Fx Go.Proofs Go.Fx.R
set_option maxRecDepth 20000
section
variable {a b:Bs} {s:Int} {o o':V}
theorem yX {M:List Nat} {x y:List V}:bO M (x++y)=bO M x++bO M y:=by
 induction x with
 | nil=>rfl
 | cons u r ih=>simp [bO,ih]
theorem Nk (ha:a.length=16) (hb:b.length=16):yac 33 (pe a b s o)++[o']=pe a b s o':=by
 have e:pe a b s o=(us a++(us b++[.i s]))++[o]:=by simp [pe]
 rw [e,yaD (by simp [cG,ha,hb]),yaa (by simp [cG,ha,hb])]
 simp [pe]
theorem gR {M:List Nat}:bO M (pe a b s o)=pe a b s (kill M o):=by
 unfold pe
 rw [yX,yX,mX,mX];rfl
theorem Df {f:Nat→Option Nat} {x y:List V}:cB f (x++y)=cB f x++cB f y:=by
 induction x with
 | nil=>rfl
 | cons u r ih=>simp [cB,ih]
theorem pP {f:Nat→Option Nat}:cB f (pe a b s o)=pe a b s (ren f o):=by
 unfold pe
 rw [Df,Df,aQ,aQ];rfl
end
abbrev rwO (l:List Op):Blk:=.arr 3 (l.map enO)
def flO (o:List Op) (new:Bs) (p i:Nat):List Op:=if p<i then o++[(0,0,(new.take i).drop p)] else o
theorem aaE (a b new:Bs) (s:Int) (l:List Op) (p i:Nat) (ha:a.length=16) (hb:b.length=16) (hl:l.length≤1000000) (hi:i≤new.length) (hn:new.length≤1000000) :
  OkN Tryz.prog 71 [.i i,.ptr 0 0 0,.ptr 1 0 0,.ptr 2 0 0] [.var [.i p],.var (pe a b s (.sl 3 0 l.length)),.var [sv new],rwO l] [3] (IsA (.tup []) [.var [.i p],.var (pe a b s (.sl 3 0 (flO l new p i).length)),.var [sv new],rwO (flO l new p i)]):=by
 refine fY pol [0,1,2] lw71 (by simp) ⟨trivial,trivial,trivial,trivial⟩ (fun k hk hm=>by simp at hk hm ⊢;omega) ?_
 unfold c71
 simp -implicitDefEqProofs only [rX,↓rY,qu,rdK,zF,cells?,splice,↓reduceIte,Nat.reduceEqDiff,Nat.reduceAdd,reduceCtorEq,aE,cL,bG,b5,aO,aP,leH,leB,leV,dQ,aD,aB,wfB,wfV,wfL,aT,aY,kill,bO,St.kill,isD,isC,Nat.reduceLT,yae,cxN,bR,mO,aF,m6,Dj,hU,gR,ha,hb,bN]
 cases hd:decide ((p:Int)<i) with
 | false =>
  have hd':=of_decide_eq_false hd
  have e1:flO l new p i=l:=if_neg (by omega)
  rw [kg,e1]
  exact ⟨⟨c8 _,rfl⟩,vC (by simp [wfV,aB])⟩
 | true =>
  have hd':=of_decide_eq_true hd
  have e1:flO l new p i=l++[(0,0,(new.take i).drop p)]:=if_pos (by omega)
  rw [kf,e1]
  refine ⟨⟨⟨by omega,by omega⟩,by omega,Int.le_refl _⟩,by omega,⟨?_,?_⟩,vC (by simp [wfV,aB])⟩
  ·rw [Nk ha hb,yag];exact c8 _
  ·rw [yaa (by simp),fW]
   simp [rwO]
def tO (old:Bs) (b:Nat) (q:Bs):Nat→Option Nat
 | 0=>none
 | j+1=>match tO old b q j with
  | some f=>some f
  | none=>if bk old b j=q∧q.length=b then some (j*b) else none
def fnd (old:Bs) (b:Nat) (q:Bs):Option Nat:=tO old b q (nb old.length b)
theorem sL {old q:Bs} {b f:Nat}:∀ {j},tO old b q j=some f→∃ i,i<j∧f=i*b∧bk old b i=q∧q.length=b
 | 0,h=>by cases h
 | j+1,h=>by
  unfold tO at h
  cases h1:tO old b q j with
  | some g =>
   rw [h1] at h
   cases h
   obtain ⟨i,h2,h3⟩:=sL h1
   exact ⟨i,by omega,h3⟩
  | none =>
   rw [h1] at h
   simp only at h
   split at h
   ·rename_i h2
    cases h
    exact ⟨j,by omega,rfl,h2⟩
   ·cases h
theorem Tj {old:Bs} {b j:Nat} (h:(bk old b j).length=b) (hb:1≤b):j*b+b≤old.length:=by rw [xP] at h;omega
def lkp (q:Bs):List (Bs × Nat)→Nat→Option (Nat × V)
 | [],_=>none
 | e::r,i=>if q=e.1 then some (i,.i e.2) else lkp q r (i+1)
def gU (old:Bs) (b:Nat):Nat→List (Bs × Nat)
 | 0=>[]
 | j+1=>if lkp (bk old b j) (gU old b j) 0=none∧(bk old b j).length=b then gU old b j++[(bk old b j,j*b)] else gU old b j
def esV:List (Bs × Nat)→Nat→List (Value × V × Nat)
 | [],_=>[]
 | e::r,i=>(.string (sb e.1),.i e.2,i)::esV r (i+1)
theorem Sv {l:List (Bs × Nat)} {x:Bs × Nat}:∀ {i},esV (l++[x]) i=esV l i++[(.string (sb x.1),.i x.2,i+l.length)]:=by
 induction l with
 | nil=>intro i;rfl
 | cons y r ih =>
  intro i
  show _::esV (r++[x]) (i+1)=_::(esV r (i+1)++_)
  rw [ih,yaI,show i+1+r.length=i+(r.length+1) by omega]
theorem vL {q:Bs}:∀ {l:List (Bs × Nat)} {i n},fV .string (.string (sb q)) (esV l n) i=some (lkp q l i)
 | [],_,_=>rfl
 | e::r,i,n=>by
  have hs:Instr.sameNow .string (.string (sb q)) (.string (sb e.1))=some (decide (q=e.1)):=by
   have e0:(sb q==sb e.1)=decide (q=e.1):=by rw [Mt,yaO];simp
   rw [←e0];rfl
  show (match Instr.sameNow .string (.string (sb q)) (.string (sb e.1)) with
   | some true=>some (some (i,V.i e.2))
   | some false=>fV .string (.string (sb q)) (esV r (n+1)) (i+1)
   | none=>none)=_
  rw [hs]
  unfold lkp
  by_cases h:q=e.1
  ·rw [decide_eq_true h,if_pos h]
  ·rw [decide_eq_false h,if_neg h]
   exact vL
theorem Jf {q:Bs} {x:Bs × Nat}:∀ {l:List (Bs × Nat)} {i},lkp q (l++[x]) i=match lkp q l i with
  | some r=>some r
  | none=>if q=x.1 then some (i+l.length,.i x.2) else none
 | [],i=>rfl
 | e::r,i=>by
  show (if q=e.1 then _ else lkp q (r++[x]) (i+1))=match (if q=e.1 then _ else lkp q r (i+1)) with
   | some r=>some r
   | none=>_
  by_cases h:q=e.1
  ·rw [if_pos h,if_pos h]
  ·rw [if_neg h,if_neg h,Jf,yaI,show i+1+r.length=i+(r.length+1) by omega]
theorem Je {old q:Bs} {b:Nat}:∀ {j},(lkp q (gU old b j) 0).map (·.2)=(tO old b q j).map fun f=>V.i (f:Nat)
 | 0=>rfl
 | j+1=>by
  have ih:=Je (old:=old) (q:=q) (b:=b) (j:=j)
  unfold gU tO
  by_cases h:lkp (bk old b j) (gU old b j) 0=none∧(bk old b j).length=b
  ·rw [if_pos h,Jf]
   cases h1:lkp q (gU old b j) 0 with
   | some r =>
    rw [h1] at ih
    cases h2:tO old b q j with
    | none=>rw [h2] at ih;simp at ih
    | some f=>rw [h2] at ih;simpa using ih
   | none =>
    rw [h1] at ih
    cases h2:tO old b q j with
    | some f=>rw [h2] at ih;simp at ih
    | none =>
     simp only
     by_cases h3:q=bk old b j
     ·rw [if_pos h3,if_pos ⟨h3.symm,by rw [h3];exact h.2⟩];rfl
     ·rw [if_neg h3,if_neg (fun h4=>h3 h4.1.symm)];rfl
  ·rw [if_neg h]
   cases h2:tO old b q j with
   | some f=>rw [h2] at ih;simpa using ih
   | none =>
    rw [h2] at ih
    simp only
    rw [if_neg ?_]
    ·exact ih
    ·rintro ⟨h3,h4⟩
     subst h3
     refine h ⟨?_,h4⟩
     cases h5:lkp (bk old b j) (gU old b j) 0 with
     | none=>rfl
     | some r=>rw [h5] at ih;simp at ih
end Go.Fx.H
namespace Go.Fx.H
open Go Go.Fx Go.Proofs Go.Fx.R
set_option maxRecDepth 20000
theorem Cj:[V.v (Value.int IntKind.u8 0),V.v (Value.int IntKind.u8 0),V.v (Value.int IntKind.u8 0),V.v (Value.int IntKind.u8 0),V.v (Value.int IntKind.u8 0),V.v (Value.int IntKind.u8 0),V.v (Value.int IntKind.u8 0),V.v (Value.int IntKind.u8 0),V.v (Value.int IntKind.u8 0),V.v (Value.int IntKind.u8 0),V.v (Value.int IntKind.u8 0),V.v (Value.int IntKind.u8 0),V.v (Value.int IntKind.u8 0),V.v (Value.int IntKind.u8 0),V.v (Value.int IntKind.u8 0),V.v (Value.int IntKind.u8 0),V.v (Value.int IntKind.u8 0),V.v (Value.int IntKind.u8 0),V.v (Value.int IntKind.u8 0),V.v (Value.int IntKind.u8 0),V.v (Value.int IntKind.u8 0),V.v (Value.int IntKind.u8 0),V.v (Value.int IntKind.u8 0),V.v (Value.int IntKind.u8 0),V.v (Value.int IntKind.u8 0),V.v (Value.int IntKind.u8 0),V.v (Value.int IntKind.u8 0),V.v (Value.int IntKind.u8 0),V.v (Value.int IntKind.u8 0),V.v (Value.int IntKind.u8 0),V.v (Value.int IntKind.u8 0),V.v (Value.int IntKind.u8 0),V.v (Value.int IntKind.i64 0),V.v (Value.slice none 0 0)]=pe z16 z16 0 (.v (.slice none 0 0)):=by unfold pe us z16;rfl
section
variable {a b:Bs} {s:Int} {o v:V}
theorem Nl (ha:a.length=16) (hb:b.length=16):yaf 32 (pe a b s o)=[.i s,o]:=by
 rw [show 32=16+16 from rfl,←List.drop_drop,aaA ha,yaF (by rw [cG];omega),yak (by rw [cG];omega)];rfl
theorem Wt (ha:a.length=16) (hb:b.length=16):yaf 33 (pe a b s o)=[o]:=by
 rw [show 33=32+1 from rfl,←List.drop_drop,Nl ha hb];rfl
theorem Wq (ha:a.length=16) (hb:b.length=16):yac 32 (pe a b s o)=us a++us b:=by
 unfold pe
 rw [←yam,yaD (by rw [yag,cG,cG];omega),yaa (by rw [yag,cG,cG];omega)]
theorem r1 {d:Bs} (ha:a.length=16):us d++yaf 16 (pe a b s o)=pe d b s o:=by rw [aaA ha];rfl
theorem r2 {d:Bs} (ha:a.length=16) (hb:b.length=16):us a++us d++yaf 32 (pe a b s o)=pe a d s o:=by rw [Nl ha hb,yam];rfl
theorem r3 {n:Int} (ha:a.length=16) (hb:b.length=16):yac 32 (pe a b s o)++[V.v (.int .i64 n)]++yaf 33 (pe a b s o)=pe a b n o:=by
 rw [Wt ha hb,Wq ha hb]
 simp [pe]
end
def Ql (o:List Op) (c:Bs):List Op :=
 match o.getLast? with
 | some x=>if x.2.2≠[] then o.dropLast++[(x.1,x.2.1,x.2.2++c)] else o++[(0,0,c)]
 | none=>o++[(0,0,c)]
def xU (o:List Op) (f b:Nat):List Op :=
 match o.getLast? with
 | some x=>if x.2.2=[]∧x.2.1=f then o.dropLast++[(x.1,(f:Int)+b,x.2.2)] else o++[((f:Int),(f:Int)+b,[])]
 | none=>o++[((f:Int),(f:Int)+b,[])]
def pc (new:Bs) (b i:Nat):Bs:=(new.drop i).take b
def mV (old new:Bs) (b i:Nat) (o:List Op):List Op :=
 if i<new.length then
  match fnd old b (pc new b i) with
  | none=>mV old new b (i+1) (Ql o (pc new 1 i))
  | some f=>mV old new b (i+(b-1)+1) (xU o f b)
 else o
termination_by new.length-i
def dfE (old new:Bs) (b:Int):Int:=if b<1∨4096<b then 1 else if 65536<(max old.length new.length:Nat) then 2 else 0
def dig (t:Bs):Bs:=c9 34 [t]
def dfO (old new:Bs) (b:Int):List Op:=if dfE old new b≠0 then [] else mV old new b.toNat 0 []
def dfP (old new:Bs) (b:Int) (o:V):List V:=if dfE old new b≠0 then pe z16 z16 0 o else pe (dig old) (dig new) new.length o
theorem Uh {a b:Bs} {s:Int} {o:V} {M:Nat→Bool} {h:List Blk}:gvL M h (pe a b s o)=pe a b s (gvV M h o):=by
 have app:∀ x y:List V,gvL M h (x++y)=gvL M h x++gvL M h y:=by
  intro x y
  induction x with
  | nil=>rfl
  | cons u r ih=>simp [gvL,ih]
 have ug:∀ l:Bs,gvL M h (us l)=us l:=fun l=>Al _ jN
 unfold pe
 rw [app,app,ug,ug];rfl
theorem Ho {x y x' y':List V} (h1:wkL x x') (h2:wkL y y') (hl:x.length=x'.length):wkL (x++y) (x'++y'):=by
 induction x generalizing x' with
 | nil=>cases x' with
  | nil=>exact h2
  | cons=>simp at hl
 | cons u r ih=>cases x' with
  | nil=>simp at hl
  | cons u' r'=>exact ⟨h1.1,ih h1.2 (by simpa using hl)⟩
theorem Lw {l:Bs}:wkL (us l) (us l):=by
 have h:=(bJ (l:=l) (h:=[]) (g:=fun _=>none)).2
 have e:∀ x:List V,(∀ v∈x,∃ u,v=.v u)→aS [] (fun _=>none) x=x:=by
  intro x hx
  induction x with
  | nil=>rfl
  | cons v r ih =>
   obtain ⟨u,rfl⟩:=hx v yaU
   show V.v u::aS [] (fun _=>none) r=_
   rw [ih fun w hw=>hx w (ybv _ hw)]
 rwa [e _ jN] at h
theorem Nj {a b:Bs} {s:Int} {o o':V} (h:wk o o'):wkL (pe a b s o) (pe a b s o'):=Ho Lw (Ho Lw ⟨rfl,h,trivial⟩ rfl) rfl
def Ep:LCode→LCode
 | .block _ b=>b
 | c=>c
abbrev cE:Cx:=cxN Tryz.prog []
abbrev h21 (D1 D2 new:Bs) (o:List Op):List Blk:=[.var (pe z16 z16 0 (.v (.slice none 0 0))++[.i 0]),.var (pe D1 D2 new.length (.sl 2 0 o.length)),rwO o]
theorem Wu {new:Bs} {b i:Nat}:(pc new b i).length=min b (new.length-i):=by simp [pc]
section
variable {old new D1 D2:Bs} {n i:Nat} {o:List Op} {N R:St→Prop} {X:Nat→St→Prop} {e:Env} {bb:Nat}
theorem set_last {o1:List Op} {x y:Op}:((o1++[x]).map enO).set o1.length (enO y)=(o1++[y]).map enO:=by
 rw [yas,yas,yaL _ _ (by simp)]
 simp
theorem Ey {o:List Op} {x:Op} {c:Bs}:Ql (o++[x]) c=if x.2.2≠[] then o++[(x.1,x.2.1,x.2.2++c)] else (o++[x])++[(0,0,c)]:=by
 unfold Ql
 rw [ybB,ybC]
 simp only [Option.some_or,ybD]
theorem nP {o:List Op} {x:Op} {f b:Nat}:xU (o++[x]) f b=if x.2.2=[]∧x.2.1=f then o++[(x.1,(f:Int)+b,x.2.2)] else (o++[x])++[((f:Int),(f:Int)+b,[])]:=by
 unfold xU
 rw [ybB,ybC]
 simp only [Option.some_or,ybD]
end
end Go.Fx.H
namespace Go.Fx.H
open Go Go.Fx Go.Proofs Go.Fx.R
set_option maxRecDepth 20000
theorem Ws {a b:Bs} {s:Int} {z:Nat} (ha:a.length=16) (hb:b.length=16) {i:Nat} {x y:V} (hx:(pe a b s (.v (.slice none 0 0)))[i]?=some x) (hy:(pe a b s (.sl z 0 0))[i]?=some y):Bb x y:=by
 have e:∀ o,pe a b s o=(us a++(us b++[.i s]))++[o]:=fun o=>by simp [pe]
 have hl:(us a++(us b++[V.i s])).length=33:=by simp [cG,ha,hb]
 rw [e] at hx hy
 rcases yaB i 33 with h|h
 ·rw [List.getElem?_append_left (by omega)] at hx hy
  rw [hx] at hy
  exact .inl (Option.some.inj hy).symm
 ·rw [yaQ (by omega)] at hx hy
  rcases Nat.eq_or_lt_of_le h with h|h
  ·rw [hl,←h] at hx hy
   simp at hx hy
   subst hx hy
   exact .inr ⟨rfl,_,rfl⟩
  ·rw [List.getElem?_eq_none (by rw [hl];simp;omega)] at hx
   cases hx
theorem Ya {old q:Bs} {b f:Nat} (h:fnd old b q=some f):f+b≤old.length∨b=0:=by
 obtain ⟨j,h1,h2,h3,h4⟩:=sL h
 rcases yau b with h5|h5
 ·exact .inr h5
 ·left;rw [h2];exact Tj (by rw [h3,h4]) h5
theorem n9 {old new:Bs} {b i:Nat} {o:List Op} (hb:1≤b) (h:i<new.length):mV old new b i o=match fnd old b (pc new b i) with
  | none=>mV old new b (i+1) (Ql o (pc new 1 i))
  | some f=>mV old new b (i+b) (xU o f b):=by
 rw [mV,if_pos h]
 cases fnd old b (pc new b i) with
 | none=>rfl
 | some f=>simp only;rw [show i+(b-1)+1=i+b by omega]
theorem Ej {old new:Bs} {b i:Nat} {o:List Op} (h:new.length≤i):mV old new b i o=o:=by
 rw [mV,if_neg (by omega)]
end Go.Fx.H
