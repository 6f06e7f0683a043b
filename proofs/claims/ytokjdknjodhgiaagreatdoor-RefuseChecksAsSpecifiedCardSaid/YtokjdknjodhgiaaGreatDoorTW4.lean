import Derived.Test.YtokjdknjodhgiaaGreatDoorT23
import Derived.Test.YtokjdknjodhgiaaGreatDoorFxRX
import Derived.Shelf.Sort.Plain
import Derived.Ground.Names2Prog
import Derived.Shelf.Slices.In.SortNone
import Derived.Test.YtokjdknjodhgiaaGreatDoorProg
import Derived.Test.YtokjdknjodhgiaaGreatDoorPTC21
set_option linter.unusedVariables false
set_option linter.unusedSimpArgs false
set_option linter.unusedSectionVars false
open List renaming getElem?_eq_getElem → yaa, getElem_map → yac, map → yad, mem_cons → yae, take → yaf, range → yag, getElem_mem → yah, take_of_length_le → yaj, map_append → yak, length_map → yam, append_assoc → yan, length_append → yao, map_cons → yar, length_cons → yas, mem_filter → yau, not_mem_nil → yav, length_nil → yax, mem_cons_of_mem → yay, filter_append → yaz, mem_cons_self → yaB, map_nil → yaC, getElem?_map → yaD, length_take → yaE, getElem_of_mem → yaG, getD_eq_getElem?_getD → yaH, length_range → yaJ, append_nil → yaK, getElem_cons_succ → yaL, getElem_cons_zero → yaM, getElem?_eq_none → yaN, pairwise_cons → yaP, getElem?_append_right → yaQ, take_append_getElem → yaR, length_filter_le → yaS, mem_map → yaT, replicate → yaU, getD_cons_succ → yaV, getD_cons_zero → yaW, pairwise_iff_getElem → yaX, mem_of_mem_head? → yaY, getElem?_append_left → ybb, length_filterMap_le → ybc, replicate_succ → ybd
open Int renaming toNat_natCast → yab
open Nat renaming zero_le → yai, le_refl → yat
open Option renaming isSome_none → yal, isSome_some → yaw
open Bool renaming false_and → yap, true_and → yaq, and_eq_true → yaA, false_eq_true → yaF, not_eq_true' → yaO
open Option.some renaming injEq → yaI
open Array renaming getElem?_append_left → yaZ, getElem?_modify → yba
namespace Go.Fx.E
open Go Go.Fx Go.Proofs
set_option maxRecDepth 20000
open Go.Fx.P (Arc aJ)
def hasB (l:List Int) (x:Int):Bool:=decide (x∈l)
structure NoI (l:List Int) (x:Int) (j:Nat):Prop where
 le:j≤l.length
 no:∀ i (h:i<l.length),i<j→l[i]≠x
theorem NoI.next {l:List Int} {x:Int} {j:Nat} (h:NoI l x j) (hj:j<l.length) (hx:l[j]≠x):NoI l x (j+1):=⟨by omega,fun i hi hlt=>by
 by_cases e:i=j
 ·subst e;exact hx
 ·exact h.no i hi (by omega)⟩
theorem Zc {l:List Int} {x:Int} {j:Nat} (hj:j<l.length) (h:l[j]=x):hasB l x=true:=decide_eq_true (h▸yah hj)
theorem NoI.none {l:List Int} {x:Int} (h:NoI l x l.length):hasB l x=false:=decide_eq_false fun hm=>by
 obtain ⟨i,hi,rfl⟩:=yaG hm
 exact h.no i hi hi rfl
theorem ajR (l:List Int) (x:Int):Ok 78 [bI' l,.i x] (IsQ (fun k:Int=>decide (k≥0)=hasB l x) (fun k=>.i k) (fun _=>[])):=by
 refine ok_of lw78 (by simp) ?_
 unfold c78
 simp -implicitDefEqProofs only [rX,↓rY,aA,↓reduceIte,reduceCtorEq,aG,aN]
 intro hml
 simp only [maxLen] at hml
 refine bN (fun j:Nat=>(⟨[(8,.i j),(7,.i l.length),(1,.i x),(0,bI' l)],[],0⟩:St)) (NoI l x) (fun j=>l.length-j) 0 ⟨yai _,fun i _ h=>by omega⟩ ?_ ?_
 ·exact ⟨by simp -implicitDefEqProofs only [rX,↓reduceIte,Nat.reduceEqDiff,reduceCtorEq,leE];rfl,aV _,trivial,by simp -implicitDefEqProofs only [rX,wfE,wfV],by simp -implicitDefEqProofs only [wfB]⟩
 intro j hI N hN
 have hle:=hI.le
 simp only [c78l0]
 simp -implicitDefEqProofs only [rX,↓rY,aA,↓reduceIte,Nat.reduceEqDiff,reduceCtorEq,yac,yab]
 cases h1:decide ((j:Int)<(l.length:Int)) with
 | true =>
  have h1':=of_decide_eq_true h1
  have hj:j<l.length:=by omega
  simp -implicitDefEqProofs only [rX,↓rY,yaa hj,P.cM]
  refine ⟨⟨by omega,by omega⟩,hj,?_⟩
  cases h2:(x==l[j]) with
  | true =>
   have h2':=eq_of_beq h2
   simp -implicitDefEqProofs only [↓rY]
   refine dV (Q:=fun k:Int=>decide (k≥0)=hasB l x) (j:Int) (by rw [Zc hj h2'.symm];exact decide_eq_true (by omega)) ?_
   simp -implicitDefEqProofs only [rX,↓reduceIte,aQ,aT,leH,aE,wfB,wfV]
  | false =>
   have h2':=ne_of_beq_false h2
   simp -implicitDefEqProofs only [↓rY]
   refine ⟨⟨by simp only [lo];omega,by simp only [Fx.hi];omega⟩,hN _ (j+1) (hI.next hj (fun h=>h2' h.symm)) (by omega) ?_⟩
   exact ⟨by simp -implicitDefEqProofs only [rX,↓reduceIte,Nat.reduceEqDiff,reduceCtorEq,leE];rfl,aV _,trivial,by simp -implicitDefEqProofs only [rX,wfE,wfV],by simp -implicitDefEqProofs only [wfB]⟩
 | false =>
  have h1':=of_decide_eq_false h1
  have:j=l.length:=by omega
  subst this
  simp -implicitDefEqProofs only [↓rY]
  refine dV (Q:=fun k:Int=>decide (k≥0)=hasB l x) (-1:Int) (by rw [hI.none];rfl) ?_
  simp -implicitDefEqProofs only [rX,↓reduceIte,aQ,aT,leH,aE,wfB,wfV]
theorem akE (l:List Int) (x:Int):Ok 56 [bI' l,.i x] (Is (.b (hasB l x))):=by
 refine ok_of lw56 (by simp) ?_
 unfold c56
 simp -implicitDefEqProofs only [rX,aA,↓reduceIte,Nat.reduceEqDiff,reduceCtorEq,aN]
 refine tQ _ _ _ (ajR l x) (by simp [aF,aK,aU,bG,wkL,wk,wkR,wkB]) (fun g=>rfl) trivial ?_
 intro k hk
 simp -implicitDefEqProofs only [rX,↓rY,aA,↓reduceIte,aQ,aT,wfV,hk]
theorem Ei (l:List Int) (x:Int):Ok 57 [bI' l,.i x] (Is (.b (hasB l x))):=by
 refine ok_of lw57 (by simp) ?_
 unfold c57
 simp -implicitDefEqProofs only [rX,aA,aG,aN]
 refine bN (fun j:Nat=>(⟨[(5,.i j),(1,.i x),(0,bI' l)],[],0⟩:St)) (NoI l x) (fun j=>l.length-j) 0 ⟨yai _,fun i _ h=>by omega⟩ ?_ ?_
 ·exact ⟨by simp -implicitDefEqProofs only [rX,↓reduceIte,Nat.reduceEqDiff,reduceCtorEq,leE];rfl,aV _,trivial,by simp -implicitDefEqProofs only [rX,wfE,wfV],by simp -implicitDefEqProofs only [wfB]⟩
 intro j hI N hN
 have hle:=hI.le
 simp only [c57l0]
 simp -implicitDefEqProofs only [rX,↓rY,aA,↓reduceIte,Nat.reduceEqDiff,reduceCtorEq,aQ,aT,wfV,yac,yab]
 intro hml
 simp only [maxLen] at hml
 cases h1:decide ((j:Int)<(l.length:Int)) with
 | true =>
  have h1':=of_decide_eq_true h1
  have hj:j<l.length:=by omega
  simp -implicitDefEqProofs only [rX,↓rY,yaa hj,P.cM]
  refine ⟨⟨by omega,by omega⟩,hj,?_⟩
  cases h2:(l[j]==x) with
  | true =>
   have h2':=eq_of_beq h2
   simp -implicitDefEqProofs only [↓rY,Zc hj h2']
  | false =>
   have h2':=ne_of_beq_false h2
   simp -implicitDefEqProofs only [↓rY]
   refine ⟨⟨by simp only [lo];omega,by simp only [Fx.hi];omega⟩,hN _ (j+1) (hI.next hj h2') (by omega) ?_⟩
   exact ⟨by simp -implicitDefEqProofs only [rX,↓reduceIte,Nat.reduceEqDiff,reduceCtorEq,leE];rfl,aV _,trivial,by simp -implicitDefEqProofs only [rX,wfE,wfV],by simp -implicitDefEqProofs only [wfB]⟩
 | false =>
  have h1':=of_decide_eq_false h1
  have:j=l.length:=by omega
  subst this
  simp -implicitDefEqProofs only [↓rY,hI.none]
def fO (ps:List aJ) (p:Int):Option aJ:=if 0≤p then (ps[p.toNat]?).filter (fun x=>x.kind==1) else none
theorem Lz {ps:List aJ} {p:Int} (h:p<0):fO ps p=none:=if_neg (by omega)
theorem Ma {ps:List aJ} {p:Int} (h:(ps.length:Int)≤p):fO ps p=none:=by
 unfold fO
 rw [if_pos (by omega),yaN (by omega)];rfl
theorem Qn {ps:List aJ} {k:Nat} (h:k<ps.length):fO ps (k:Int)=if ps[k].kind=1 then some ps[k] else none:=by
 unfold fO
 rw [if_pos (by omega),yab,yaa h,Option.filter_some]
 by_cases e:ps[k].kind=1
 ·simp [e]
 ·simp [e]
theorem mD {ps:List aJ} {p:Int} {x:aJ} (h:fO ps p=some x):∃ (k:Nat) (hk:k<ps.length),p=k∧ps[k]=x∧x.kind=1:=by
 unfold fO at h
 split at h
 ·rename_i h0
  obtain ⟨h1,h2⟩:=Option.filter_eq_some_iff.1 h
  obtain ⟨h3,h4⟩:=List.getElem?_eq_some_iff.1 h1
  exact ⟨p.toNat,h3,by omega,h4,by simpa using h2⟩
 ·cases h
def zSp:aJ:=⟨0,0,0⟩
theorem aaU (ps:List aJ) (rs:List P.Road) (p:Int) (hl:ps.length≤1000):Ok 34 [P.bC ps rs,.i p] (Is (.tup [.agg ((fO ps p).getD zSp).enc,.b (fO ps p).isSome])):=by
 refine ok_of lw34 (by simp) ?_
 unfold c34 P.bC P.sps P.rds
 simp -implicitDefEqProofs only [rX,↓rY,aA,cells?,splice,↓reduceIte,Nat.reduceEqDiff,Nat.reduceAdd,reduceCtorEq,aC,bJ,aQ,aT,wfV,wfL,isC,yac,aM,aN]
 cases d1:decide (p<0) with
 | true =>
  have d1':=of_decide_eq_true d1
  simp -implicitDefEqProofs only [rX,↓rY,Lz d1',yal]
  rfl
 | false =>
  have d1':=of_decide_eq_false d1
  simp -implicitDefEqProofs only [↓rY]
  intro hml
  cases d2:decide ((ps.length:Int)≤p) with
  | true =>
   have d2':=of_decide_eq_true d2
   simp -implicitDefEqProofs only [rX,↓rY,Ma d2',yal]
   rfl
  | false =>
   have d2':=of_decide_eq_false d2
   obtain ⟨k,rfl⟩:∃ k:Nat,p=k:=⟨p.toNat,by omega⟩
   have hk:k<ps.length:=by omega
   have hs:=Qn hk
   simp -implicitDefEqProofs only [rX,↓rY,yab,P.nL,P.iY,P.sO,P.oS]
   refine ⟨⟨by omega,by omega⟩,hk,?_⟩
   by_cases e:ps[k].kind=1
   ·rw [if_pos e] at hs
    simp -implicitDefEqProofs only [rX,↓rY,hs,e,bne_self_eq_false,yaw]
    exact ⟨⟨by omega,by omega⟩,hk,⟨trivial,trivial,trivial,trivial⟩⟩
   ·rw [if_neg e] at hs
    have e2:(ps[k].kind != 1)=true:=bne_iff_ne.2 e
    simp -implicitDefEqProofs only [rX,↓rY,hs,e2,yal]
    rfl
theorem aeC (ps:List aJ) (rs:List P.Road) (p:Int) (hl:ps.length≤1000):Ok 44 [P.bC ps rs,.i p] (Is (.b (fO ps p).isSome)):=by
 refine ok_of lw44 (by simp) ?_
 unfold c44 P.bC P.sps P.rds
 simp -implicitDefEqProofs only [rX,↓rY,aA,cells?,↓reduceIte,Nat.reduceEqDiff,reduceCtorEq,aC,aQ,aT,wfV,yac,aN]
 cases d1:decide (p≥0) with
 | false =>
  have d1':=of_decide_eq_false d1
  simp -implicitDefEqProofs only [↓rY,Lz (show p<0 by omega),yal]
 | true =>
  have d1':=of_decide_eq_true d1
  simp -implicitDefEqProofs only [↓rY]
  intro hml
  cases d2:decide (p<(ps.length:Int)) with
  | false =>
   have d2':=of_decide_eq_false d2
   simp -implicitDefEqProofs only [↓rY,Ma (show (ps.length:Int)≤p by omega),yal]
  | true =>
   have d2':=of_decide_eq_true d2
   obtain ⟨k,rfl⟩:∃ k:Nat,p=k:=⟨p.toNat,by omega⟩
   have hk:k<ps.length:=by omega
   have hs:=Qn hk
   simp -implicitDefEqProofs only [rX,↓rY,yab,P.sO]
   refine ⟨⟨by omega,by omega⟩,hk,?_⟩
   by_cases e:ps[k].kind=1
   ·rw [if_pos e] at hs
    rw [hs,e];rfl
   ·rw [if_neg e] at hs
    rw [hs,beq_eq_false_iff_ne.2 e];rfl
set_option maxRecDepth 20000
open Go.Fx.P (Arc aJ)
structure CuS (n:Int) (cut:List Int) (j:Nat):Prop where
 le:j≤cut.length
 ok:∀ i (h:i<cut.length),i<j→0≤cut[i]∧cut[i]<n
 ord:∀ i (h:i+1<cut.length),i+1<j→cut[i]<cut[i+1]
theorem CuS.all {n:Int} {cut:List Int} (h:CuS n cut cut.length):iR n cut=(hasB cut 0&&!hasB cut 1):=by
 have h1:∀ x∈cut,0≤x∧x<n:=fun k hk=>by
  obtain ⟨j,hj,rfl⟩:=yaG hk
  exact h.ok j hj hj
 have h2:cut.Pairwise (·<·):=yaX.2 fun i j hi hj hij=>by
  obtain ⟨d,rfl⟩:∃ d,j=i+1+d:=⟨j-(i+1),by omega⟩
  induction d with
  | zero=>exact h.ord i (by omega) (by omega)
  | succ d ih=>exact Int.lt_trans (ih (by omega) (by omega)) (h.ord (i+1+d) (by omega) (by omega))
 have e1:iR n cut=true↔xB n cut:=decide_eq_true_iff
 have e2:(hasB cut 0&&!hasB cut 1)=true↔(0:Int)∈cut∧¬(1:Int)∈cut:=by
  unfold hasB
  rw [yaA,yaO,decide_eq_false_iff_not,decide_eq_true_eq]
 rw [Bool.eq_iff_iff,e1,e2]
 constructor
 ·rintro ⟨a,b,c⟩
  exact ⟨yaY c,fun h=>(a 1 h).2.2 rfl⟩
 ·rintro ⟨a,b⟩
  refine ⟨fun x hx=>⟨(h1 x hx).1,(h1 x hx).2,fun e=>b (e▸hx)⟩,h2,?_⟩
  cases cut with
  | nil=>simp at a
  | cons x r =>
   rw [List.head?_cons]
   rcases yae.1 a with e|e
   ·rw [←e]
   ·have:=(yaP.1 h2).1 0 e
    have:=(h1 x yaB).1
    omega
theorem Ie {n:Int} {cut:List Int} {j:Nat} (hj:j<cut.length) (h:¬(0≤cut[j]∧cut[j]<n)):false=iR n cut:=(decide_eq_false fun q=>h ⟨(q.1 _ (yah hj)).1,(q.1 _ (yah hj)).2.1⟩).symm
structure eQ (ps:List aJ) (rs:List P.Road):Prop where
 ok:P.fU ps rs=0
 pl:ps.length≤6
 rl:rs.length≤20
theorem eQ.net {ps:List aJ} {rs:List P.Road} (h:eQ ps rs):P.K.Val (P.nN ps) (P.cE ps rs):=P.Ek h.ok
theorem eQ.e25 {ps:List aJ} {rs:List P.Road} (h:eQ ps rs):Ok 25 [P.bC ps rs] (Is (P.net (P.nN ps) (P.cE ps rs))):=by
 have:=P.akT ps rs (by have:=h.pl;omega) (by have:=h.rl;omega) (P.gJ h.ok).2.2
 rw [P.Mq] at this
 exact this
theorem eQ.e51 {ps:List aJ} {rs:List P.Road} (h:eQ ps rs):Ok 51 [P.bC ps rs] (Is (P.net (P.nN ps) (P.cE ps rs))):=by
 have:=P.aaT ps rs (by have:=h.pl;omega) (by have:=h.rl;omega) (P.gJ h.ok).2.2
 rw [P.Mq] at this
 exact this
theorem aL {h:List Blk} {g:Nat→Option Nat} {ps:List aJ} {rs:List P.Road}:aK h g (.agg [P.sps ps,P.rds rs])∧wk (P.bC ps rs) (bG h g (.agg [P.sps ps,P.rds rs])):=⟨⟨trivial,trivial,trivial⟩,⟨⟨rfl,rfl⟩,⟨rfl,rfl⟩,trivial⟩⟩
theorem aeA (ps:List aJ) (rs:List P.Road) (cut:List Int) (hF:eQ ps rs) (hcl:cut.length≤1000000):Ok 60 [P.bC ps rs,bI' cut] (Is (.b (iR (P.nN ps) cut))):=by
 refine ok_of lw60 (by simp) ?_
 unfold c60 P.bC
 simp -implicitDefEqProofs only [rX,↓rY,aA,cells?,↓reduceIte,Nat.reduceEqDiff,Nat.reduceAdd,aC,aN]
 refine aD hF.e25 ⟨⟨aL.1,trivial⟩,aL.2,trivial⟩ rfl trivial ?_
 unfold P.net
 simp -implicitDefEqProofs only [rX,↓rY,aA,cells?,splice,↓reduceIte,Nat.reduceEqDiff,Nat.reduceAdd,aC,isC,aM,aG]
 generalize ((P.nN ps:Nat):Int)=n
 generalize yad P.Arc.enc (P.cE ps rs)=AR
 refine bN (fun j:Nat=>(⟨[(6,.i j),(5,.ptr 1 0 0),(1,bI' cut)],[.dead,.var [.i n,.ro 4 AR]],1⟩:St)) (CuS n cut) (fun j=>cut.length-j) 0 ⟨yai _,fun i _ h=>by omega,fun i _ h=>by omega⟩ ?_ ?_
 ·exact ⟨by simp -implicitDefEqProofs only [rX,↓reduceIte,Nat.reduceEqDiff,reduceCtorEq,leE];rfl,⟨trivial,aH _,trivial⟩,trivial,by simp -implicitDefEqProofs only [rX,aB,wfE,wfV],by simp -implicitDefEqProofs only [rX,wfB,wfV,wfL]⟩
 intro j hI N hN
 have hle:=hI.le
 have b0:lo IntKind.i64≤(j:Int)+1∧(j:Int)+1≤Fx.hi IntKind.i64:=⟨by simp only [lo];omega,by simp only [Fx.hi];omega⟩
 simp only [c60l0]
 simp -implicitDefEqProofs only [rX,↓rY,aA,↓reduceIte,Nat.reduceEqDiff,Nat.reduceAdd,aQ,aT,wfV,yac,yab]
 intro hml
 cases h1:decide ((j:Int)<(cut.length:Int)) with
 | true =>
  have h1':=of_decide_eq_true h1
  have hj:j<cut.length:=by omega
  have b1:0≤(j:Int)∧(j:Int)<(cut.length:Int):=by omega
  have fin:∀ (e:Env) (b:Nat),(0≤cut[j]∧cut[j]<n)→(∀ i (h:i+1<cut.length),i+1=j→cut[i]<cut[i+1])→get e 6=.v (.int .i64 ((j:Int)+1))→get e 5=.ptr 1 0 0→get e 1=bI' cut→N ⟨e,[.dead,.var [.i n,.ro 4 AR]],b⟩:=by
   intro e b q1 q2 q6 q5 q11
   refine hN _ (j+1) ⟨by omega,fun i hi hlt=>?_,fun i hi hlt=>?_⟩ (by omega) ?_
   ·by_cases e:i=j
    ·subst e;exact q1
    ·exact hI.ok i hi (by omega)
   ·by_cases e:i+1=j
    ·exact q2 i hi e
    ·exact hI.ord i hi (by omega)
   ·simp -implicitDefEqProofs only [rX,leE,leH,leB,leV,bD,aE,aB,wfE,wfB,wfV,wfL,q6,q5,q11]
    rfl
  simp -implicitDefEqProofs only [rX,↓rY,yaa hj,P.cM]
  refine ⟨b1,hj,?_⟩
  cases d1:decide (cut[j]<0) with
  | true =>
   have d1':=of_decide_eq_true d1
   simp -implicitDefEqProofs only [↓rY]
   exact Ie hj (by omega)
  | false =>
   have d1':=of_decide_eq_false d1
   simp -implicitDefEqProofs only [↓rY]
   refine ⟨b1,hj,?_⟩
   cases d2:decide (n≤cut[j]) with
   | true =>
    have d2':=of_decide_eq_true d2
    simp -implicitDefEqProofs only [↓rY]
    exact Ie hj (by omega)
   | false =>
    have d2':=of_decide_eq_false d2
    simp -implicitDefEqProofs only [↓rY]
    have q1:0≤cut[j]∧cut[j]<n:=⟨by omega,by omega⟩
    cases d4:decide (0<(j:Int)) with
    | false =>
     have d4':=of_decide_eq_false d4
     simp -implicitDefEqProofs only [↓rY]
     exact ⟨b0,fin _ _ q1 (fun i h e=>by omega) rfl rfl rfl⟩
    | true =>
     have d4':=of_decide_eq_true d4
     obtain ⟨m,rfl⟩:∃ m,j=m+1:=⟨j-1,by omega⟩
     have hm:m<cut.length:=by omega
     have em:((m+1:Nat):Int)-1=(m:Int):=by omega
     simp -implicitDefEqProofs only [↓rY,yab,em]
     refine ⟨b1,hj,⟨by simp only [lo];omega,by simp only [Fx.hi];omega⟩,⟨by omega,by omega⟩,hm,?_⟩
     cases d5:decide (cut[m+1]≤cut[m]) with
     | true =>
      have d5':=of_decide_eq_true d5
      simp -implicitDefEqProofs only [↓rY]
      exact Ng hj (by omega)
     | false =>
      have d5':=of_decide_eq_false d5
      simp -implicitDefEqProofs only [↓rY]
      refine ⟨b0,fin _ _ q1 (fun i h e=>?_) rfl rfl rfl⟩
      obtain rfl:i=m:=by omega
      omega
 | false =>
  have h1':=of_decide_eq_false h1
  have:j=cut.length:=by omega
  subst this
  have hA:=hI.all
  simp -implicitDefEqProofs only [↓rY]
  refine aD (Ei cut 0) (by simp [aF,aK,aU,bG,wkL,wk,wkR,wkB]) rfl trivial ?_
  rw [hA]
  cases hc:hasB cut 0 with
  | false=>simp -implicitDefEqProofs only [rX,↓rY,aA,↓reduceIte,Nat.reduceEqDiff,aQ,aT,wfV,yap]
  | true =>
   simp -implicitDefEqProofs only [rX,↓rY,aA,↓reduceIte,Nat.reduceEqDiff]
   refine aD (Ei cut 1) (by simp [aF,aK,aU,bG,wkL,wk,wkR,wkB]) rfl trivial ?_
   simp -implicitDefEqProofs only [rX,↓rY,↓reduceIte,Nat.reduceEqDiff,aQ,aT,wfV,yaq]
theorem aeJ (ps:List aJ) (rs:List P.Road) (cut:List Int) (hF:eQ ps rs) (hcl:cut.length≤1000000):Ok 19 [P.bC ps rs,bI' cut] (Is (.agg (if iR (P.nN ps) cut then [.i (bnd (P.cE ps rs) cut),.i 0] else [.i 0,.i 110]))):=by
 refine ok_of lw19 (by simp) ?_
 unfold c19 P.bC
 simp -implicitDefEqProofs only [rX,↓rY,aA,cells?,↓reduceIte,Nat.reduceEqDiff,Nat.reduceAdd,reduceCtorEq,aC,aN]
 refine aD (aeA ps rs cut hF hcl) ⟨⟨aL.1,trivial,trivial⟩,aL.2,⟨rfl,rfl⟩,trivial⟩ rfl trivial ?_
 cases hc:iR (P.nN ps) cut with
 | false=>simp -implicitDefEqProofs only [rX,↓rY,aA,cells?,splice,↓reduceIte,Nat.reduceEqDiff,Nat.reduceAdd,bJ,aQ,aT,wfV,wfL,isC,aM]
 | true =>
  simp -implicitDefEqProofs only [rX,↓rY,↓reduceIte,Nat.reduceEqDiff,Nat.reduceAdd]
  refine aD hF.e25 ⟨⟨aL.1,trivial⟩,aL.2,trivial⟩ rfl trivial ?_
  have hV:=hF.net
  have hal:=hV.hl
  unfold P.net
  generalize ((P.nN ps:Nat):Int)=n
  generalize P.cE ps rs=arcs at hV hal ⊢
  simp -implicitDefEqProofs only [rX,↓rY,aA,cells?,splice,↓reduceIte,Nat.reduceEqDiff,Nat.reduceAdd,aC,isC,aM,aG]
  refine bN (fun i:Nat=>(⟨[(8,.i i),(7,.i (sA arcs cut i)),(6,.ptr 2 0 0),(4,.ptr 1 0 0),(1,bI' cut)],[.dead,.var [.i 0,.i 0],.var [.i n,.ro 4 (arcs.map Arc.enc)]],1⟩:St)) (fun i=>i≤arcs.length) (fun i=>arcs.length-i) 0 (yai _) ?_ ?_
  ·exact ⟨by simp -implicitDefEqProofs only [rX,↓reduceIte,Nat.reduceEqDiff,reduceCtorEq,leE,Uj];rfl,⟨trivial,aH _,aH _,trivial⟩,trivial,by simp -implicitDefEqProofs only [rX,aB,wfE,wfV],by simp -implicitDefEqProofs only [rX,wfB,wfV,wfL]⟩
  intro i hi N hN
  have b0:lo IntKind.i64≤(i:Int)+1∧(i:Int)+1≤Fx.hi IntKind.i64:=⟨by simp only [lo];omega,by simp only [Fx.hi];omega⟩
  simp only [c19l0]
  simp -implicitDefEqProofs only [rX,↓rY,cells?,splice,↓reduceIte,Nat.reduceEqDiff,Nat.reduceAdd,bJ,aQ,aT,wfV,wfL,isC,Nat.reduceLeDiff,yac,yab,aM]
  intro hml
  cases h1:decide ((i:Int)<(arcs.length:Int)) with
  | false =>
   have h1':=of_decide_eq_false h1
   have:i=arcs.length:=by omega
   subst this
   simp -implicitDefEqProofs only [↓rY]
   rfl
  | true =>
   have h1':=of_decide_eq_true h1
   have hi':i<arcs.length:=by omega
   have b1:0≤(i:Int)∧(i:Int)<(arcs.length:Int):=by omega
   have hcap:=hV.ha _ (yah hi')
   have hb:=Nr (cut:=cut) (fun a ha=>(hV.ha a ha).2.2.2.1) (Nat.le_of_lt hi')
   have fin:∀ (e:Env) (b:Nat),get e 8=.v (.int .i64 ((i:Int)+1))→get e 7=.i (sA arcs cut (i+1))→get e 6=.ptr 2 0 0→get e 4=.ptr 1 0 0→get e 1=bI' cut→N ⟨e,[.dead,.var [.i 0,.i 0],.var [.i n,.ro 4 (arcs.map Arc.enc)]],b⟩:=by
    intro e b q8 q7 q6 q4 q11
    refine hN _ (i+1) (by omega) (by omega) ?_
    simp -implicitDefEqProofs only [rX,leE,leH,leB,leV,bD,aE,aB,wfE,wfB,wfV,wfL,q8,q7,q6,q4,q11]
    rfl
   simp -implicitDefEqProofs only [↓rY,yaa hi',P.oJ]
   refine ⟨b1,hi',?_⟩
   refine aD (Ei cut arcs[i].from_) (by simp [aF,aK,aU,bG,wkL,wk,wkR,wkB]) rfl trivial ?_
   cases h2:hasB cut arcs[i].from_ with
   | false =>
    simp -implicitDefEqProofs only [rX,↓rY,aA,↓reduceIte,Nat.reduceEqDiff,Nat.reduceAdd]
    exact ⟨b0,fin _ _ rfl (by rw [Nq hi' (by unfold iG;unfold hasB at h2;rw [h2];rfl)];rfl) rfl rfl rfl⟩
   | true =>
    simp -implicitDefEqProofs only [rX,↓rY,↓reduceIte,Nat.reduceEqDiff,yac,yab,yaa hi',P.oI]
    refine ⟨b1,hi',?_⟩
    refine aD (Ei cut arcs[i].to) (by simp [aF,aK,aU,bG,wkL,wk,wkR,wkB]) rfl trivial ?_
    cases h3:hasB cut arcs[i].to with
    | true =>
     simp -implicitDefEqProofs only [rX,↓rY,aA,↓reduceIte,Nat.reduceEqDiff,Nat.reduceAdd]
     exact ⟨b0,fin _ _ rfl (by rw [Nq hi' (by unfold iG;unfold hasB at h2 h3;rw [h2,h3];rfl)];rfl) rfl rfl rfl⟩
    | false =>
     simp -implicitDefEqProofs only [rX,↓rY,aA,↓reduceIte,Nat.reduceEqDiff,Nat.reduceAdd,yac,yab,yaa hi',P.p9]
     refine ⟨b1,hi',⟨by simp only [lo];omega,by simp only [Fx.hi];omega⟩,b0,fin _ _ rfl (by rw [Ui hi' (by unfold iG;unfold hasB at h2 h3;rw [h2,h3];rfl)];rfl) rfl rfl rfl⟩
theorem aeK (ps:List aJ) (rs:List P.Road) (cut:List Int) (hF:eQ ps rs) (hcl:cut.length≤1000000):Ok 18 [P.bC ps rs,P.li cut] (Is (.tup (if iR (P.nN ps) cut then [.i (bnd (P.cE ps rs) cut),.i 0] else [.i 0,.i 110]))):=by
 refine ok_of lw18 (by simp) ?_
 unfold c18 P.bC
 simp -implicitDefEqProofs only [rX,↓rY,aA,cells?,↓reduceIte,Nat.reduceEqDiff,Nat.reduceAdd,aC,aN]
 refine aD hF.e51 ⟨⟨aL.1,trivial⟩,aL.2,trivial⟩ rfl trivial ?_
 have hV:=hF.net
 unfold P.net
 simp -implicitDefEqProofs only [rX,↓rY,aA,cells?,splice,↓reduceIte,Nat.reduceEqDiff,Nat.reduceAdd,reduceCtorEq,aC,isC,aM]
 refine aD (aaS (P.nN ps) cut hcl) (by simp [aF,aK,aU,bG,wkL,wk,wkR,wkB,P.li]) rfl trivial ?_
 cases hc:iR (P.nN ps) cut with
 | false=>simp -implicitDefEqProofs only [rX,↓rY,aA,↓reduceIte,Nat.reduceEqDiff,Nat.reduceAdd,aQ,aT,wfV,wfL]
 | true =>
  have hcP:xB (P.nN ps) cut:=of_decide_eq_true hc
  simp -implicitDefEqProofs only [rX,↓rY,↓reduceIte,Nat.reduceEqDiff,Nat.reduceAdd,reduceCtorEq]
  refine aD (aeB (P.nN ps) (P.cE ps rs) cut hV hcl (fun x hx=>⟨(hcP.1 x hx).1,(hcP.1 x hx).2.1⟩)) (by simp [aF,aK,aU,bG,wkL,wk,wkR,wkB,P.net,P.li]) rfl trivial ?_
  simp -implicitDefEqProofs only [rX,aA,↓reduceIte,Nat.reduceEqDiff,aQ,aT,wfV,wfL]
set_option maxRecDepth 20000
open Go.Fx.P (Arc aJ)
def lE (ps:List aJ) (rs:List P.Road) (r:Rf):Bool:=iR (P.nN ps) r.cut&&(bnd (P.cE ps rs) r.cut==r.sent)&&decide (r.sent<P.dem ps)&&hasB r.cut (2+2*r.place)
theorem eQ.e55 {ps:List aJ} {rs:List P.Road} (h:eQ ps rs):Ok 55 [P.bC ps rs] (Is (.i (P.dem ps))):=P.aaR ps rs (by have:=h.pl;omega) (P.gJ h.ok).2.1
theorem eQ.e28 {ps:List aJ} {rs:List P.Road} (h:eQ ps rs):Ok 28 [P.bC ps rs] (Is (.i (P.dem ps))):=P.akS ps rs (by have:=h.pl;omega) (P.gJ h.ok).2.1
theorem Ef {r:Rf}:r.enc.all isC=true:=by unfold Rf.enc P.li;simp [isC,isD,xY]
set_option maxHeartbeats 1000000 in
theorem akF (ps:List aJ) (rs:List P.Road) (r:Rf) (hF:eQ ps rs) (hcl:r.cut.length≤1000000) (hp:0≤r.place∧r.place≤1000) :
  OkN Tryz.prog 52 [.ptr 0 0 0,.ptr 1 0 0,.ptr 2 0 0] [.var [.i (P.nN ps),.ro 4 ((P.cE ps rs).map Arc.enc)],.var r.enc,.var [P.sps ps,P.rds rs]] [] (IsA (.b (lE ps rs r)) [.var [.i (P.nN ps),.ro 4 ((P.cE ps rs).map Arc.enc)],.var r.enc,.var [P.sps ps,P.rds rs]]):=by
 refine eV pol [0,1,2] lw52 (by simp) ⟨trivial,trivial,trivial,trivial⟩ (by intro k hk _;simp at hk ⊢;omega) ?_
 have hV:=hF.net
 unfold c52 Rf.enc lE P.li P.sps P.rds
 have ul:∀ l:Bs,bD (us l) (us l)=True:=fun l=>eq_true acR
 simp -implicitDefEqProofs only [rX,↓rY,rdK,aA,↓reduceIte,Nat.reduceEqDiff,Nat.reduceAdd,reduceCtorEq,aG,aN]
 refine aD (aaS (P.nN ps) r.cut hcl) (by simp [aF,aK,aU,bG,wkL,wk,wkR,wkB,P.li]) rfl ⟨trivial,trivial,trivial,trivial⟩ ?_
 cases hc:iR (P.nN ps) r.cut with
 | false =>
  simp -implicitDefEqProofs only [rX,↓rY,rdK,aA,↓reduceIte,Nat.reduceEqDiff,Nat.reduceAdd,reduceCtorEq,aQ,aT,leH,leB,leV,bD,aE,aB,wfB,wfV,wfL,yap,cA,ul,cY]
 | true =>
  have hcP:xB (P.nN ps) r.cut:=of_decide_eq_true hc
  simp -implicitDefEqProofs only [rX,↓rY,rdK,↓reduceIte,Nat.reduceEqDiff,Nat.reduceAdd,reduceCtorEq,aG]
  refine aD (aeB (P.nN ps) (P.cE ps rs) r.cut hV hcl (fun x hx=>⟨(hcP.1 x hx).1,(hcP.1 x hx).2.1⟩)) (by simp [aF,aK,aU,bG,wkL,wk,wkR,wkB,P.net,P.li]) rfl ⟨trivial,trivial,trivial,trivial⟩ ?_
  cases hb:(bnd (P.cE ps rs) r.cut==r.sent) with
  | false =>
   simp -implicitDefEqProofs only [rX,↓rY,rdK,aA,↓reduceIte,Nat.reduceEqDiff,Nat.reduceAdd,reduceCtorEq,aQ,aT,leH,leB,leV,bD,aE,aB,wfB,wfV,wfL,yap,yaq,cA,hb,ul,cY]
  | true =>
   simp -implicitDefEqProofs only [rX,↓rY,rdK,↓reduceIte,Nat.reduceEqDiff,Nat.reduceAdd,reduceCtorEq,aG,hb]
   refine aD hF.e55 ⟨⟨aL.1,trivial⟩,aL.2,trivial⟩ rfl ⟨trivial,trivial,trivial,trivial⟩ ?_
   cases hd:decide (r.sent<P.dem ps) with
   | false =>
    simp -implicitDefEqProofs only [rX,↓rY,rdK,aA,↓reduceIte,Nat.reduceEqDiff,Nat.reduceAdd,aQ,aT,leH,leB,leV,bD,aE,aB,wfB,wfV,wfL,yap,yaq,cA,hd,ul,cY]
   | true =>
    simp -implicitDefEqProofs only [rX,↓rY,rdK,aA,↓reduceIte,Nat.reduceEqDiff,reduceCtorEq,aG,hd]
    refine ⟨⟨by simp only [lo];omega,by simp only [Fx.hi];omega⟩,⟨by simp only [lo];omega,by simp only [Fx.hi];omega⟩,?_⟩
    refine aD (akE r.cut (2+2*r.place)) (by simp [aF,aK,aU,bG,wkL,wk,wkR,wkB,P.li]) rfl ⟨trivial,trivial,trivial,trivial⟩ ?_
    simp -implicitDefEqProofs only [rX,↓rY,↓reduceIte,Nat.reduceEqDiff,Nat.reduceAdd,aQ,aT,leH,leB,leV,bD,aE,aB,wfB,wfV,wfL,yaq,cA,ul,cY]
def r7 (ps:List aJ) (rs:List P.Road) (r:Rf):Int :=
 match fO ps r.place with
 | none=>5
 | some x=>if r.n<0∨x.cap≤r.n∨Ap r.win=false then 1 else if lE ps rs r then 0 else 110
set_option maxHeartbeats 1000000 in
theorem aaW (ps:List aJ) (rs:List P.Road) (r:Rf) (hF:eQ ps rs) (hcl:r.cut.length≤1000000):Ok 14 [P.bC ps rs,.agg r.enc] (Is (.i (r7 ps rs r))):=by
 refine ok_of lw14 (by simp) ?_
 have o34:=aaU ps rs r.place (by have:=hF.pl;omega)
 unfold c14 P.bC Rf.enc
 simp -implicitDefEqProofs only [rX,↓rY,aA,cells?,↓reduceIte,Nat.reduceEqDiff,Nat.reduceAdd,reduceCtorEq,aC,aN]
 unfold r7
 cases hs:fO ps r.place with
 | none =>
  rw [hs] at o34
  refine aD o34 ⟨⟨aL.1,trivial,trivial⟩,aL.2,rfl,trivial⟩ rfl trivial ?_
  simp -implicitDefEqProofs only [rX,↓rY,aA,cells?,splice,↓reduceIte,Nat.reduceEqDiff,Nat.reduceAdd,aC,aQ,aT,wfV,isC,aM,P.aJ.enc,zSp,yal]
 | some x =>
  rw [hs] at o34
  obtain ⟨k,hk,hpk,hx,hkind⟩:=mD hs
  refine aD o34 ⟨⟨aL.1,trivial,trivial⟩,aL.2,rfl,trivial⟩ rfl trivial ?_
  simp -implicitDefEqProofs only [rX,↓rY,aA,cells?,splice,↓reduceIte,Nat.reduceEqDiff,Nat.reduceAdd,aC,aQ,aT,wfV,isC,aM,P.aJ.enc,yaw]
  cases d1:decide (r.n<0) with
  | true =>
   have d1':=of_decide_eq_true d1
   simp -implicitDefEqProofs only [↓rY]
   rw [if_pos (.inl d1')]
  | false =>
   have d1':=of_decide_eq_false d1
   simp -implicitDefEqProofs only [↓rY]
   cases d2:decide (x.cap≤r.n) with
   | true =>
    have d2':=of_decide_eq_true d2
    simp -implicitDefEqProofs only [↓rY]
    rw [if_pos (.inr (.inl d2'))]
   | false =>
    have d2':=of_decide_eq_false d2
    simp -implicitDefEqProofs only [↓rY]
    refine aD (aeG r.win) ⟨⟨trivial,trivial⟩,rfl,trivial⟩ rfl trivial ?_
    cases d3:Ap r.win with
    | false =>
     simp -implicitDefEqProofs only [rX,↓rY,aA,↓reduceIte,Nat.reduceEqDiff,Nat.reduceAdd,aQ,aT,wfV]
     rw [if_pos (.inr (.inr trivial))]
    | true =>
     rw [if_neg (by simp;omega)]
     simp -implicitDefEqProofs only [rX,↓rY,↓reduceIte,Nat.reduceEqDiff,Nat.reduceAdd]
     refine aD hF.e51 ⟨⟨aL.1,trivial⟩,aL.2,trivial⟩ rfl trivial ?_
     unfold P.net
     simp -implicitDefEqProofs only [rX,↓rY,aA,cells?,splice,↓reduceIte,Nat.reduceEqDiff,Nat.reduceAdd,aC,isC,aM]
     refine dA [3,1,0] [.ptr 0 0 0,.ptr 1 0 0,.ptr 2 0 0] (.b (lE ps rs r)) (.b (lE ps rs r)) [.var [.i (P.nN ps),.ro 4 ((P.cE ps rs).map Arc.enc)],.var r.enc,.var [P.sps ps,P.rds rs]] [.var [.i (P.nN ps),.ro 4 ((P.cE ps rs).map Arc.enc)],.var r.enc,.var [P.sps ps,P.rds rs]] [.var [P.sps ps,P.rds rs],.var r.enc,.var [.i x.kind,.i x.num,.i x.cap],.var [.i (P.nN ps),.ro 4 ((P.cE ps rs).map Arc.enc)]]
      (akF ps rs r hF hcl (by have:=hF.pl;omega)) (by simp [aM]) (by simp [blk,bX,cO,ren,gB,P.li,P.sps,P.rds,Rf.enc]) (by simp [aF,aK,aU,bG,wkL,wk,wkR,pos]) (by simp) (by simp [bO,bX,cO,ren,gB,P.li,P.sps,P.rds,Rf.enc]) rfl trivial ?_
     cases hq:lE ps rs r with
     | false=>simp -implicitDefEqProofs only [rX,↓rY,aA,↓reduceIte,Nat.reduceAdd,aQ,aT,wfV]
     | true=>simp -implicitDefEqProofs only [rX,↓rY,aA,↓reduceIte,Nat.reduceAdd,aQ,aT,wfV]
theorem afL:((110:Int) != 0)=true:=rfl
set_option maxHeartbeats 1000000 in
theorem aeP (ps:List aJ) (rs:List P.Road) (r:Rf) (hF:eQ ps rs) (hcl:r.cut.length≤1000000):Ok 15 [P.bC ps rs,.agg r.enc] (Is (.i (r7 ps rs r))):=by
 refine ok_of lw15 (by simp) ?_
 have o44:=aeC ps rs r.place (by have:=hF.pl;omega)
 have o19:=aeJ ps rs r.cut hF hcl
 unfold c15 P.bC Rf.enc
 simp -implicitDefEqProofs only [rX,↓rY,aA,cells?,↓reduceIte,Nat.reduceEqDiff,Nat.reduceAdd,reduceCtorEq,aC,aN]
 unfold r7
 cases hs:fO ps r.place with
 | none =>
  rw [hs] at o44
  refine aD o44 ⟨⟨aL.1,trivial,trivial⟩,aL.2,rfl,trivial⟩ rfl trivial ?_
  simp -implicitDefEqProofs only [rX,↓rY,aA,↓reduceIte,Nat.reduceAdd,aQ,aT,wfV,yal]
 | some x =>
  rw [hs] at o44
  obtain ⟨k,hk,hpk,hx,hkind⟩:=mD hs
  refine aD o44 ⟨⟨aL.1,trivial,trivial⟩,aL.2,rfl,trivial⟩ rfl trivial ?_
  have bk:0≤(k:Int)∧(k:Int)<(ps.length:Int):=by omega
  simp -implicitDefEqProofs only [rX,↓rY,aA,↓reduceIte,Nat.reduceEqDiff,Nat.reduceAdd,aQ,aT,wfV,yaw]
  cases d1:decide (r.n<0) with
  | true =>
   have d1':=of_decide_eq_true d1
   simp -implicitDefEqProofs only [↓rY]
   rw [if_pos (.inl d1')]
  | false =>
   have d1':=of_decide_eq_false d1
   simp -implicitDefEqProofs only [rX,↓rY,yac,yab,P.sps,hpk,yaa hk,P.w4,hx]
   refine ⟨bk,hk,?_⟩
   cases d2:decide (x.cap≤r.n) with
   | true =>
    have d2':=of_decide_eq_true d2
    simp -implicitDefEqProofs only [↓rY]
    rw [if_pos (.inr (.inl d2'))]
   | false =>
    have d2':=of_decide_eq_false d2
    simp -implicitDefEqProofs only [↓rY]
    refine aD (akJ r.win) ⟨⟨trivial,trivial⟩,rfl,trivial⟩ rfl trivial ?_
    cases d3:Ap r.win with
    | false =>
     simp -implicitDefEqProofs only [rX,↓rY,aA,↓reduceIte,Nat.reduceEqDiff,Nat.reduceAdd,aQ,aT,wfV]
     rw [if_pos (.inr (.inr trivial))]
    | true =>
     rw [if_neg (by simp;omega)]
     simp -implicitDefEqProofs only [rX,↓rY,↓reduceIte,Nat.reduceEqDiff,Nat.reduceAdd]
     unfold lE
     cases hc:iR (P.nN ps) r.cut with
     | false =>
      rw [hc] at o19
      refine aD o19 ⟨⟨aL.1,trivial,trivial⟩,aL.2,⟨rfl,rfl⟩,trivial⟩ rfl trivial ?_
      simp -implicitDefEqProofs only [rX,↓rY,rdK,aA,cells?,splice,↓reduceIte,Nat.reduceEqDiff,Nat.reduceAdd,aC,aQ,aT,wfV,isC,aM,aG,yap,afL]
     | true =>
      rw [hc] at o19
      refine aD o19 ⟨⟨aL.1,trivial,trivial⟩,aL.2,⟨rfl,rfl⟩,trivial⟩ rfl trivial ?_
      simp -implicitDefEqProofs only [rX,↓rY,rdK,aA,cells?,splice,↓reduceIte,Nat.reduceEqDiff,Nat.reduceAdd,aC,aQ,aT,wfV,isC,aM,aG,yaq,bne_self_eq_false]
      cases hb:(bnd (P.cE ps rs) r.cut==r.sent) with
      | false =>
       have hb':(bnd (P.cE ps rs) r.cut != r.sent)=true:=by simp only [bne,hb];rfl
       simp -implicitDefEqProofs only [rX,↓rY,↓reduceIte,yap,hb']
      | true =>
       have hb':(bnd (P.cE ps rs) r.cut != r.sent)=false:=by simp only [bne,hb];rfl
       simp -implicitDefEqProofs only [↓rY,hb']
       refine aD hF.e28 ⟨⟨aL.1,trivial⟩,aL.2,trivial⟩ rfl trivial ?_
       cases hd:decide (r.sent<P.dem ps) with
       | false =>
        have hd':decide (r.sent≥P.dem ps)=true:=decide_eq_true (by have:=of_decide_eq_false hd;omega)
        simp -implicitDefEqProofs only [rX,↓rY,rdK,aA,↓reduceIte,Nat.reduceEqDiff,Nat.reduceAdd,aQ,aT,wfV,yap,yaq,hd']
       | true =>
        have hd':decide (r.sent≥P.dem ps)=false:=decide_eq_false (by have:=of_decide_eq_true hd;omega)
        have hpl:=hF.pl
        simp -implicitDefEqProofs only [rX,↓rY,rdK,aA,↓reduceIte,Nat.reduceEqDiff,aG,hd',yaq]
        refine ⟨⟨by simp only [lo];omega,by simp only [Fx.hi];omega⟩,⟨by simp only [lo];omega,by simp only [Fx.hi];omega⟩,?_⟩
        refine aD (Ei r.cut (2+2*(k:Int))) (by simp [aF,aK,aU,bG,wkL,wk,wkR,wkB,P.li]) rfl trivial ?_
        cases hq:hasB r.cut (2+2*(k:Int)) with
        | false=>simp -implicitDefEqProofs only [rX,↓rY,aA,↓reduceIte,Nat.reduceEqDiff,Nat.reduceAdd,aQ,aT,wfV];rw [hpk,hq];rfl
        | true=>simp -implicitDefEqProofs only [rX,↓rY,aA,↓reduceIte,Nat.reduceEqDiff,Nat.reduceAdd,aQ,aT,wfV];rw [hpk,hq];rfl
set_option maxRecDepth 20000
open Go.Fx.P (Arc aJ)
theorem Ec {k:Ky} {r:Rf} (hk:k.sec.length≤1000) (hr:r.Ok):Up k (partsOf r):=by
 have h1:=Sm hr.n7 (by simp)
 have h2:=Sm hr.cut (by have:=hr.len;omega)
 have h3:=hr.len
 simp only [yas,yax] at h1
 have t1:=Jf (t:=k.sec) (by omega)
 have t2:=Jf (t:=lB [r.place,r.n,r.win,r.sent,r.lo,r.hi,r.serial]) (by omega)
 have t3:=Jf (t:=lB r.cut) (by omega)
 refine ⟨?_,by simp [partsOf]⟩
 unfold inB partsOf
 simp only [yas,yao,yar,yaC,List.cons_append,List.nil_append,List.flatten_cons,List.flatten_nil,yax]
 omega
def Ph (ring:List Ky) (ps:List aJ) (r:Rf):Int :=
 match fO ps r.place with
 | none=>5
 | some x=>Kr ring (1000+x.num) r.serial 410 (partsOf r) r.sg r.lo r.hi
theorem Pg {ps:List aJ} {rs:List P.Road} (h:P.fU ps rs=0):∀ i (hi:i<ps.length),P.lK ps[i]:=by
 unfold P.fU at h
 by_cases h1:100<ps.length∨1500<rs.length
 ·rw [if_pos h1] at h;cases h
 rw [if_neg h1] at h
 by_cases h2:P.iQ (P.eAt ps) ps.length 0≠0
 ·rw [if_pos h2] at h;exact absurd h h2
 simp only [ne_eq,Classical.not_not] at h2
 have key:∀ n i,i≤n→i<ps.length→P.eAt ps i=0:=by
  intro n
  induction n with
  | zero =>
   intro i hi hil
   by_cases h4:P.eAt ps i=0
   ·exact h4
   ·exact absurd (P.j4 (n:=ps.length) (k:=0) (by omega) (by omega) (fun j _ hj=>by omega) h4) (by rw [h2];exact fun h5=>h4 h5.symm)
  | succ n ih =>
   intro i hi hil
   by_cases h4:P.eAt ps i=0
   ·exact h4
   ·exact absurd (P.j4 (n:=ps.length) (k:=0) (by omega) (by omega) (fun j _ hj=>ih j (by omega) (by omega)) h4) (by rw [h2];exact fun h5=>h4 h5.symm)
 intro i hi
 have:=key i i (yat _) hi
 rw [P.Fi hi] at this
 by_cases h4:P.gD ps[i]=false
 ·rw [if_pos h4] at this;cases this
 ·simpa [P.gD] using h4
theorem yG {ps:List aJ} {rs:List P.Road} (hF:eQ ps rs) {p:Int} {x:aJ} (h:fO ps p=some x):0≤x.num∧x.num<64:=by
 obtain ⟨k,hk,_,rfl,hkind⟩:=mD h
 have h1:=Pg hF.ok k hk
 unfold P.lK at h1
 omega
theorem cZ {h:List Blk} {g:Nat→Option Nat} {r:Rf} {s:List V} (hs:s=r.enc):aK h g (.agg s)∧wk (.agg r.enc) (bG h g (.agg s)):=by
 subst hs
 exact ⟨⟨trivial,trivial,trivial,trivial,trivial,trivial,trivial,trivial,(dC _ lQ).1⟩,⟨rfl,rfl,rfl,rfl,⟨rfl,rfl⟩,rfl,rfl,rfl,(dC _ lQ).2⟩⟩
theorem Me {r:Rf} (h:r.sg.length=16):yaf 24 (.i r.place::.i r.n::.i r.win::.i r.sent::P.li r.cut::.i r.lo::.i r.hi::.i r.serial::us r.sg)=r.enc:=yaj (by simp [fN,h])
set_option maxHeartbeats 1000000 in
theorem aeL (ring:List Ky) (ps:List aJ) (rs:List P.Road) (r:Rf) (hF:eQ ps rs) (hr:r.Ok) (hR:pM ring) (hl:ring.length≤1000000) (hsg:r.sg.length=16):Ok 16 [bK ring,P.bC ps rs,.agg r.enc] (Is (.i (Ph ring ps r))):=by
 refine ok_of lw16 (by simp) ?_
 have o34:=aaU ps rs r.place (by have:=hF.pl;omega)
 have hser:=hr.n7 r.serial (by simp)
 obtain ⟨u1,u2,u3⟩:=Dw hsg
 unfold c16 P.bC Rf.enc
 simp -implicitDefEqProofs only [rX,↓rY,aA,cells?,↓reduceIte,Nat.reduceEqDiff,Nat.reduceAdd,reduceCtorEq,aC,aN]
 unfold Ph
 cases hs:fO ps r.place with
 | none =>
  rw [hs] at o34
  refine aD o34 ⟨⟨aL.1,trivial,trivial⟩,aL.2,rfl,trivial⟩ rfl trivial ?_
  simp -implicitDefEqProofs only [rX,↓rY,aA,cells?,splice,↓reduceIte,Nat.reduceEqDiff,Nat.reduceAdd,aC,aQ,aT,wfV,isC,aM,P.aJ.enc,zSp,yal]
 | some x =>
  rw [hs] at o34
  have hnum:=yG hF hs
  have o58:=akD ring (1000+x.num) r.serial 410 (partsOf r) r.sg r.lo r.hi hR hl ⟨by omega,hser⟩ hsg (fun k hk=>Ec (by have:=(hR.ok k hk).2.2.1;omega) hr)
  refine aD o34 ⟨⟨aL.1,trivial,trivial⟩,aL.2,rfl,trivial⟩ rfl trivial ?_
  simp -implicitDefEqProofs only [rX,↓rY,rdK,aA,cells?,splice,↓reduceIte,Nat.reduceEqDiff,Nat.reduceAdd,reduceCtorEq,aC,isC,Nat.reduceLeDiff,aM,aG,P.aJ.enc,yaw,fN,u2,hsg,Me hsg]
  refine ⟨⟨by simp only [lo];omega,by simp only [Fx.hi];omega⟩,?_⟩
  refine aD (aeD r hr) ⟨⟨(cZ rfl).1,trivial⟩,(cZ rfl).2,trivial⟩ rfl trivial ?_
  simp -implicitDefEqProofs only [rX,aA,↓reduceIte,Nat.reduceEqDiff,aG]
  refine aD o58 ⟨⟨trivial,trivial,trivial,trivial,trivial,(dC _ lQ).1,⟨trivial,trivial,trivial⟩,trivial⟩,⟨rfl,rfl⟩,rfl,rfl,rfl,⟨rfl,rfl⟩,(dC _ lQ).2,⟨rfl,rfl,trivial⟩,trivial⟩ rfl trivial ?_
  simp -implicitDefEqProofs only [rX,↓reduceIte,aQ,aT,wfV]
set_option maxHeartbeats 1000000 in
theorem akW (ring:List Ky) (ps:List aJ) (rs:List P.Road) (r:Rf) (hF:eQ ps rs) (hr:r.Ok) (hR:pM ring) (hl:ring.length≤1000000) (hsg:r.sg.length=16):Ok 17 [bK ring,P.bC ps rs,.agg r.enc] (Is (.i (Ph ring ps r))):=by
 refine ok_of lw17 (by simp) ?_
 have o44:=aeC ps rs r.place (by have:=hF.pl;omega)
 obtain ⟨u1,u2,u3⟩:=Dw hsg
 unfold c17 P.bC Rf.enc
 simp -implicitDefEqProofs only [rX,↓rY,aA,cells?,↓reduceIte,Nat.reduceEqDiff,Nat.reduceAdd,reduceCtorEq,aC,aN]
 unfold Ph
 cases hs:fO ps r.place with
 | none =>
  rw [hs] at o44
  refine aD o44 ⟨⟨aL.1,trivial,trivial⟩,aL.2,rfl,trivial⟩ rfl trivial ?_
  simp -implicitDefEqProofs only [rX,↓rY,aA,↓reduceIte,Nat.reduceAdd,aQ,aT,wfV,yal]
 | some x =>
  rw [hs] at o44
  obtain ⟨k,hk,hpk,hx,hkind⟩:=mD hs
  have hnum:=yG hF hs
  have o59:=akC ring (1000+x.num) r.serial 410 (partsOf r) r.sg r.lo r.hi hl hsg (fun k hk=>Ec (by have:=(hR.ok k hk).2.2.1;omega) hr)
  refine aD o44 ⟨⟨aL.1,trivial,trivial⟩,aL.2,rfl,trivial⟩ rfl trivial ?_
  have bk:0≤r.place∧r.place<(ps.length:Int):=by omega
  have ek:r.place.toNat=k:=by omega
  simp -implicitDefEqProofs only [rX,↓rY,rdK,aA,↓reduceIte,Nat.reduceEqDiff,Nat.reduceAdd,reduceCtorEq,Nat.reduceLeDiff,yac,aG,P.sps,yaw,fN,u2,hsg,Me hsg,ek,yaa hk,P.Qj,hx]
  refine ⟨bk,hk,⟨by simp only [lo];omega,by simp only [Fx.hi];omega⟩,?_⟩
  refine aD (akH r hr) ⟨⟨(cZ rfl).1,trivial⟩,(cZ rfl).2,trivial⟩ rfl trivial ?_
  simp -implicitDefEqProofs only [rX,aA,↓reduceIte,Nat.reduceEqDiff,aG]
  refine aD o59 ⟨⟨trivial,trivial,trivial,trivial,trivial,(dC _ lQ).1,⟨trivial,trivial,trivial⟩,trivial⟩,⟨rfl,rfl⟩,rfl,rfl,rfl,⟨rfl,rfl⟩,(dC _ lQ).2,⟨rfl,rfl,trivial⟩,trivial⟩ rfl trivial ?_
  simp -implicitDefEqProofs only [rX,↓reduceIte,aQ,aT,wfV]
set_option maxRecDepth 20000
open Go.Fx.P (Arc aJ)
theorem akL (l:List Int) (hl:l.length≤1000000):Ok 39 [P.li l] (Is (P.li l)):=by
 refine oY (ok_of lw39 (by simp) ?_)
 unfold c39 P.li
 simp -implicitDefEqProofs only [rX,↓rY,aA,↓reduceIte,Nat.reduceEqDiff,reduceCtorEq,aC,bZ,bP,bF,kill,St.kill,aM,aG,aN]
 refine ⟨fun _=>⟨.inr trivial,by omega,Eg rfl rfl (by simp)⟩,fun he=>⟨?_,.inr trivial,by omega,Eg rfl rfl (by simp)⟩⟩
 rw [he]
 exact Wb rfl
theorem u16:us z16=[.v (.int .u8 0),.v (.int .u8 0),.v (.int .u8 0),.v (.int .u8 0),.v (.int .u8 0),.v (.int .u8 0),.v (.int .u8 0),.v (.int .u8 0),.v (.int .u8 0),.v (.int .u8 0),.v (.int .u8 0),.v (.int .u8 0),.v (.int .u8 0),.v (.int .u8 0),.v (.int .u8 0),.v (.int .u8 0)]:=by
 unfold us z16;rfl
theorem aiE {x0 x1 x2 x3 x4 x5 x6 x7 x8 x9 x10 x11 x12 x13 x14 x15 x16 x17 x18 x19 x20 x21 x22 x23:V}:yaf 24 [x0,x1,x2,x3,x4,x5,x6,x7,x8,x9,x10,x11,x12,x13,x14,x15,x16,x17,x18,x19,x20,x21,x22,x23]=[x0,x1,x2,x3,x4,x5,x6,x7,x8,x9,x10,x11,x12,x13,x14,x15,x16,x17,x18,x19,x20,x21,x22,x23]:=rfl
theorem Be {x0 x1 x2 x3 x4 x5 x6 x7 x8 x9 x10 x11 x12 x13 x14 x15 x16 x17 x18 x19 x20 x21 x22 x23:V} {r:List V}:List.drop 24 (x0::x1::x2::x3::x4::x5::x6::x7::x8::x9::x10::x11::x12::x13::x14::x15::x16::x17::x18::x19::x20::x21::x22::x23::r)=r:=rfl
theorem Lt {M:Nat→Bool} {h:List Blk}:∀ {l:List V},(∀ x∈l,∃ u,x=.v u)→wkL l (gvL M h l)
 | [],_=>trivial
 | x::r,q=>by
  obtain ⟨u,rfl⟩:=q x yaB
  exact ⟨rfl,Lt fun y hy=>q y (yay _ hy)⟩
def zRf:Rf:=⟨0,0,0,0,[],0,0,0,z16⟩
def rf0 (k:Ky) (fr:P.Fr) (place n w a b:Int):Rf:=⟨place,n,w,fr.sent,fr.cut,a,b,k.serial,z16⟩
def rf1 (k:Ky) (fr:P.Fr) (place n w a b:Int):Rf:={ rf0 k fr place n w a b with sg:=iO k 410 (partsOf (rf0 k fr place n w a b)) }
theorem lV {h:List Blk} {g:Nat→Option Nat} {fr:P.Fr}:aK h g (.agg [.i fr.sent,.i fr.cost,P.li fr.flow,P.li fr.price,P.li fr.cut])∧wk fr.enc (bG h g (.agg [.i fr.sent,.i fr.cost,P.li fr.flow,P.li fr.price,P.li fr.cut])):=⟨⟨trivial,trivial,trivial,trivial,trivial,trivial⟩,⟨rfl,rfl,⟨rfl,rfl⟩,⟨rfl,rfl⟩,⟨rfl,rfl⟩,trivial⟩⟩
theorem Xm {ps:List aJ} {rs:List P.Road} {fr:P.Fr} (hF:eQ ps rs) (h:P.tU ps rs fr=0):P.K.OkAc (P.nN ps) (P.cE ps rs) 0 1 (P.dem ps) fr∧ps.length≤fr.flow.length:=by
 have hc:=hF.ok
 unfold P.tU P.K.accI at h
 rw [if_neg (by simp [hc])] at h
 by_cases hA:P.K.OkAc (P.nN ps) (P.cE ps rs) 0 1 (P.dem ps) fr
 ·refine ⟨hA,?_⟩
  rw [hA.fl.hl]
  unfold P.cE P.nA4 P.nA3
  simp only [yao,P.xJ]
  omega
 ·rw [if_neg hA] at h;cases h
def xC (k:Ky) (ps:List aJ) (place n w a b:Int):Prop:=∃ x,fO ps place=some x∧KyP k∧k.party=1000+x.num∧PeP a b∧Ap w=true∧0≤n∧n<x.cap
open Classical in
noncomputable def mkE (k:Ky) (ps:List aJ) (rs:List P.Road) (fr:P.Fr) (place n w a b:Int):Int :=
 if xC k ps place n w a b then if P.tU ps rs fr=0 then if n<fr.flow.getD place.toNat 0 then 4 else 0 else 110 else 1
open Classical in
noncomputable def mkR (k:Ky) (ps:List aJ) (rs:List P.Road) (fr:P.Fr) (place n w a b:Int):Rf:=if mkE k ps rs fr place n w a b=0 then rf1 k fr place n w a b else zRf
theorem Wh {k:Ky} {ps:List aJ} {rs:List P.Road} {fr:P.Fr} {place n w a b:Int} (h:¬xC k ps place n w a b):mkE k ps rs fr place n w a b=1∧mkR k ps rs fr place n w a b=zRf:=by
 have e:mkE k ps rs fr place n w a b=1:=by unfold mkE;rw [if_neg h]
 exact ⟨e,by unfold mkR;rw [e,if_neg (by decide)]⟩
theorem Sf {k:Ky} {ps:List aJ} {rs:List P.Road} {fr:P.Fr} {place n w a b:Int} (h:xC k ps place n w a b) (h2:P.tU ps rs fr≠0):mkE k ps rs fr place n w a b=110∧mkR k ps rs fr place n w a b=zRf:=by
 have e:mkE k ps rs fr place n w a b=110:=by unfold mkE;rw [if_pos h,if_neg h2]
 exact ⟨e,by unfold mkR;rw [e,if_neg (by decide)]⟩
theorem afR {k:Ky} {ps:List aJ} {rs:List P.Road} {fr:P.Fr} {place n w a b:Int} (h:xC k ps place n w a b) (h2:P.tU ps rs fr=0) (h3:n<fr.flow.getD place.toNat 0):mkE k ps rs fr place n w a b=4∧mkR k ps rs fr place n w a b=zRf:=by
 have e:mkE k ps rs fr place n w a b=4:=by unfold mkE;rw [if_pos h,if_pos h2,if_pos h3]
 exact ⟨e,by unfold mkR;rw [e,if_neg (by decide)]⟩
theorem abA {k:Ky} {ps:List aJ} {rs:List P.Road} {fr:P.Fr} {place n w a b:Int} (h:xC k ps place n w a b) (h2:P.tU ps rs fr=0) (h3:¬n<fr.flow.getD place.toNat 0):mkE k ps rs fr place n w a b=0∧mkR k ps rs fr place n w a b=rf1 k fr place n w a b:=by
 have e:mkE k ps rs fr place n w a b=0:=by unfold mkE;rw [if_pos h,if_pos h2,if_neg h3]
 exact ⟨e,by unfold mkR;rw [e,if_pos rfl]⟩
set_option maxHeartbeats 4000000 in
theorem aaY (k:Ky) (ps:List aJ) (rs:List P.Road) (fr:P.Fr) (place n w a b:Int) (hF:eQ ps rs) (hr:(rf0 k fr place n w a b).Ok) (hsec:k.sec.length≤1000) :
  Ok 10 [.agg k.enc,P.bC ps rs,fr.enc,.i place,.i n,.i w,.agg [.i a,.i b]] (Is (.tup [.agg (mkR k ps rs fr place n w a b).enc,.i (mkE k ps rs fr place n w a b)])):=by
 refine oY (ok_of lw10 (by simp) ?_)
 have o34:=aaU ps rs place (by have:=hF.pl;omega)
 unfold c10 P.bC Ky.enc P.Fr.enc
 simp -implicitDefEqProofs only [rX,↓rY,aA,cells?,↓reduceIte,Nat.reduceEqDiff,Nat.reduceAdd,reduceCtorEq,aC,aN]
 have zret:∀ (e:Env) (h:List Blk) (b:Nat) (E:Int),get e 14=.ptr 4 0 0→h[4]?=some (.var [.i 0,.i 0,.i 0,.i 0,.v (.slice none 0 0),.i 0,.i 0,.i 0,.v (.int .u8 0),.v (.int .u8 0),.v (.int .u8 0),.v (.int .u8 0),.v (.int .u8 0),.v (.int .u8 0),.v (.int .u8 0),.v (.int .u8 0),.v (.int .u8 0),.v (.int .u8 0),.v (.int .u8 0),.v (.int .u8 0),.v (.int .u8 0),.v (.int .u8 0),.v (.int .u8 0),.v (.int .u8 0)])→get e 15=.i E →
   eU [] 0 [.cell 14 (some 24),.tmp 15] (Gv (.tup [.agg zRf.enc,.i E])) ⟨e,h,b⟩:=by
  intro e h b E h1 h2 h3
  refine oW ?_
  simp -implicitDefEqProofs only [rX,↓rY,Nat.reduceAdd,aQ,aT,wfV,wfL,h1,h2,h3,zRf,Rf.enc,P.li,u16]
  exact ⟨by simp [wfL,wfV],by simp [Gv,gvV,gvL,wk,wkL,wkR]⟩
 cases hs:fO ps place with
 | none =>
  rw [hs] at o34
  have hno:¬xC k ps place n w a b:=by rintro ⟨x,hx,_⟩;rw [hs] at hx;cases hx
  rw [(Wh hno).1,(Wh hno).2]
  refine aD o34 ⟨⟨aL.1,trivial,trivial⟩,aL.2,rfl,trivial⟩ rfl trivial ?_
  simp -implicitDefEqProofs only [rX,↓rY,aA,cells?,splice,↓reduceIte,Nat.reduceEqDiff,Nat.reduceAdd,aC,bJ,isC,aM,P.aJ.enc,zSp,yal]
  exact zret _ _ _ 1 rfl rfl rfl
 | some x =>
  rw [hs] at o34
  refine aD o34 ⟨⟨aL.1,trivial,trivial⟩,aL.2,rfl,trivial⟩ rfl trivial ?_
  simp -implicitDefEqProofs only [rX,↓rY,aA,cells?,splice,↓reduceIte,Nat.reduceEqDiff,Nat.reduceAdd,aC,isC,aM,P.aJ.enc,yaw]
  have bad:∀ (e:Env) (h:List Blk) (b':Nat),¬xC k ps place n w a b→get e 14=.ptr 4 0 0→h[4]?=some (.var [.i 0,.i 0,.i 0,.i 0,.v (.slice none 0 0),.i 0,.i 0,.i 0,.v (.int .u8 0),.v (.int .u8 0),.v (.int .u8 0),.v (.int .u8 0),.v (.int .u8 0),.v (.int .u8 0),.v (.int .u8 0),.v (.int .u8 0),.v (.int .u8 0),.v (.int .u8 0),.v (.int .u8 0),.v (.int .u8 0),.v (.int .u8 0),.v (.int .u8 0),.v (.int .u8 0),.v (.int .u8 0)])→get e 15=.i 1 →
    eU [] 0 [.cell 14 (some 24),.tmp 15] (Gv (.tup [.agg (mkR k ps rs fr place n w a b).enc,.i (mkE k ps rs fr place n w a b)])) ⟨e,h,b'⟩:=by
   intro e h b' hno h1 h2 h3
   rw [(Wh hno).1,(Wh hno).2]
   exact zret e h b' 1 h1 h2 h3
  have hA:∀ {q:Prop},(xC k ps place n w a b→q)→¬q→¬xC k ps place n w a b:=fun f g h=>g (f h)
  have arg:xC k ps place n w a b→KyP k∧k.party=1000+x.num∧PeP a b∧Ap w=true∧0≤n∧n<x.cap:=by
   rintro ⟨y,hy,q⟩
   rw [hs] at hy;cases hy;exact q
  have hnum:=yG hF hs
  obtain ⟨pk,hpk,rfl,hpx,hkind⟩:=mD hs
  refine aD (akN k) ⟨⟨dJ.1,trivial⟩,dJ.2,trivial⟩ rfl trivial ?_
  cases d1:kyB k with
  | false =>
   have d1':=of_decide_eq_false d1
   simp -implicitDefEqProofs only [rX,↓rY,aA,cells?,splice,↓reduceIte,Nat.reduceEqDiff,Nat.reduceAdd,bJ,isC,aM]
   exact bad _ _ _ (hA arg fun q=>d1' q.1) rfl rfl rfl
  | true =>
  have d1':KyP k:=of_decide_eq_true d1
  simp -implicitDefEqProofs only [rX,↓rY,aA,cells?,splice,↓reduceIte,Nat.reduceEqDiff,Nat.reduceAdd,bJ,isC,aM]
  refine ⟨⟨by simp only [lo];omega,by simp only [Fx.hi];omega⟩,?_⟩
  cases d2:(k.party != 1000+x.num) with
  | true =>
   have d2':=bne_iff_ne.1 d2
   simp -implicitDefEqProofs only [↓rY]
   exact bad _ _ _ (hA arg fun q=>d2' q.2.1) rfl rfl rfl
  | false =>
  have d2':k.party=1000+x.num:=by simpa using d2
  simp -implicitDefEqProofs only [↓rY]
  refine aD (akM a b) ⟨⟨⟨trivial,trivial,trivial⟩,trivial⟩,⟨rfl,rfl,trivial⟩,trivial⟩ rfl trivial ?_
  cases d3:peB a b with
  | false =>
   have d3':=of_decide_eq_false d3
   simp -implicitDefEqProofs only [rX,↓rY,aA,cells?,splice,↓reduceIte,Nat.reduceEqDiff,Nat.reduceAdd,bJ,isC,aM]
   exact bad _ _ _ (hA arg fun q=>d3' q.2.2.1) rfl rfl rfl
  | true =>
  have d3':PeP a b:=of_decide_eq_true d3
  simp -implicitDefEqProofs only [rX,↓rY,↓reduceIte,Nat.reduceEqDiff,reduceCtorEq]
  refine aD (aeG w) ⟨⟨trivial,trivial⟩,rfl,trivial⟩ rfl trivial ?_
  cases d4:Ap w with
  | false =>
   simp -implicitDefEqProofs only [rX,↓rY,aA,cells?,splice,↓reduceIte,Nat.reduceEqDiff,Nat.reduceAdd,bJ,isC,aM]
   exact bad _ _ _ (hA arg fun q=>by rw [d4] at q;exact absurd q.2.2.2.1 (by simp)) rfl rfl rfl
  | true =>
  simp -implicitDefEqProofs only [rX,↓rY,aA,cells?,splice,↓reduceIte,Nat.reduceEqDiff,Nat.reduceAdd,reduceCtorEq,bJ,isC,aM]
  cases d5:decide (n<0) with
  | true =>
   have d5':=of_decide_eq_true d5
   simp -implicitDefEqProofs only [↓rY]
   exact bad _ _ _ (hA arg fun q=>by omega) rfl rfl rfl
  | false =>
  have d5':=of_decide_eq_false d5
  simp -implicitDefEqProofs only [↓rY]
  cases d6:decide (x.cap≤n) with
  | true =>
   have d6':=of_decide_eq_true d6
   simp -implicitDefEqProofs only [↓rY]
   exact bad _ _ _ (hA arg fun q=>by omega) rfl rfl rfl
  | false =>
  have d6':=of_decide_eq_false d6
  have hArg:xC k ps (pk:Int) n w a b:=⟨x,hs,d1',d2',d3',d4,by omega,by omega⟩
  simp -implicitDefEqProofs only [↓rY]
  by_cases h2:P.tU ps rs fr=0
  ·have hfl:=(Xm hF h2).2
   refine aD (P.aeF ps rs fr) ⟨⟨aL.1,lV.1,trivial⟩,aL.2,lV.2,trivial⟩ rfl trivial ?_
   simp -implicitDefEqProofs only [rX,↓rY,aA,cells?,splice,↓reduceIte,Nat.reduceEqDiff,Nat.reduceAdd,reduceCtorEq,bJ,isC,aM,h2,bne_self_eq_false]
   refine aD (P.akQ ps rs fr pk hpk hfl) ⟨⟨aL.1,lV.1,trivial,trivial⟩,aL.2,lV.2,rfl,trivial⟩ rfl trivial ?_
   cases d7:decide (n<fr.flow.getD pk 0) with
   | true =>
    have d7':=of_decide_eq_true d7
    obtain ⟨e1,e2⟩:=afR hArg h2 (by rw [yab];exact d7')
    rw [e1,e2]
    rw [yaH] at d7
    simp -implicitDefEqProofs only [rX,↓rY,aA,cells?,splice,↓reduceIte,Nat.reduceEqDiff,Nat.reduceAdd,bJ,isC,aM,d7]
    exact zret _ _ _ 4 rfl rfl rfl
   | false =>
    have d7':=of_decide_eq_false d7
    obtain ⟨e1,e2⟩:=abA hArg h2 (by rw [yab];exact d7')
    rw [e1,e2]
    rw [yaH] at d7
    simp -implicitDefEqProofs only [rX,↓rY,rdK,aA,cells?,↓reduceIte,Nat.reduceEqDiff,Nat.reduceAdd,reduceCtorEq,aC,aG,d7]
    have hz:[.i (pk:Int),.i n,.i w,.i fr.sent,P.li fr.cut,.i a,.i b,.i k.serial,.v (.int .u8 0),.v (.int .u8 0),.v (.int .u8 0),.v (.int .u8 0),.v (.int .u8 0),.v (.int .u8 0),.v (.int .u8 0),.v (.int .u8 0),.v (.int .u8 0),.v (.int .u8 0),.v (.int .u8 0),.v (.int .u8 0),.v (.int .u8 0),.v (.int .u8 0),.v (.int .u8 0),.v (.int .u8 0)]=(rf0 k fr (pk:Int) n w a b).enc:=by unfold Rf.enc rf0;simp only [u16]
    have o41:=aeD (rf0 k fr (pk:Int) n w a b) hr
    have o39:=akL fr.cut hr.len
    have o40:=aeE k 410 (partsOf (rf0 k fr (pk:Int) n w a b)) (Ec hsec hr)
    obtain ⟨v1,v2,v3⟩:=Dw (dK (k:=k) (tag:=410) (l:=partsOf (rf0 k fr (pk:Int) n w a b)))
    have hv:∀ {c0 c1 c2 c3 c4 c5 c6 c7:V},yaf 24 (c0::c1::c2::c3::c4::c5::c6::c7::us (iO k 410 (partsOf (rf0 k fr (pk:Int) n w a b))))=c0::c1::c2::c3::c4::c5::c6::c7::us (iO k 410 (partsOf (rf0 k fr (pk:Int) n w a b))):=yaj (by simp [v1])
    simp only [P.li] at hz o39 ⊢
    refine ⟨?_,?_⟩
    all_goals
     refine aD o39 ⟨⟨trivial,trivial⟩,⟨rfl,rfl⟩,trivial⟩ rfl trivial ?_
     simp -implicitDefEqProofs only [rX,↓rY,rdK,aA,cells?,splice,↓reduceIte,Nat.reduceEqDiff,Nat.reduceAdd,aC,bJ,isC,Nat.reduceLeDiff,aG,aiE,Be]
     refine aD o41 ⟨⟨(cZ hz).1,trivial⟩,(cZ hz).2,trivial⟩ rfl trivial ?_
     simp -implicitDefEqProofs only [rX,aA,↓reduceIte,Nat.reduceEqDiff,aG]
     refine aD o40 ⟨⟨dJ.1,trivial,trivial,trivial⟩,dJ.2,rfl,⟨rfl,rfl⟩,trivial⟩ (by simp [ren,gB]) trivial ?_
     simp -implicitDefEqProofs only [rX,↓rY,aA,cells?,splice,↓reduceIte,Nat.reduceEqDiff,Nat.reduceAdd,isC,Nat.reduceLeDiff,aM,aG,Be,v1,xY,hv]
     refine oW ?_
     simp -implicitDefEqProofs only [rX,↓rY,↓reduceIte,Nat.reduceEqDiff,Nat.reduceAdd,aQ,aT,wfV,wfL,v1,hv,cY]
     exact ⟨⟨rfl,rfl,rfl,rfl,⟨rfl,rfl⟩,rfl,rfl,rfl,Lt lQ⟩,rfl,trivial⟩
  ·have h2':(P.tU ps rs fr != 0)=true:=bne_iff_ne.2 h2
   refine aD (P.aeF ps rs fr) ⟨⟨aL.1,lV.1,trivial⟩,aL.2,lV.2,trivial⟩ rfl trivial ?_
   simp -implicitDefEqProofs only [rX,↓rY,aA,cells?,splice,↓reduceIte,Nat.reduceEqDiff,Nat.reduceAdd,reduceCtorEq,bJ,isC,aM,h2']
   rw [(Sf hArg h2).1,(Sf hArg h2).2]
   exact zret _ _ _ 110 rfl rfl rfl
set_option maxRecDepth 20000
open Go.Fx.P (Arc aJ)
end Go.Fx.E
namespace Go.Proofs
open Go.Shelf
def Tryz.lays189_ren:Go.Shelf.Ren:=⟨fun|189=>63|125=>85|257=>84|128=>119|129=>120|294=>110|295=>111|296=>112|297=>113|298=>114|299=>115|216=>116|300=>117|301=>118|328=>138|329=>139|330=>140|331=>141|332=>142|215=>143|343=>153|n=>n,fun|28=>28|3=>3|46=>135|0=>0|51=>149|53=>152|4=>4|183=>170|182=>169|131=>166|5=>5|9=>9|218=>198|222=>202|228=>215|229=>107|n=>n,fun|n=>n⟩
theorem Tryz.lays189:Go.Proofs.Lays.n189 Tryz.prog Tryz.lays189_ren:={
 mixed:=by kernel_rfl
 f125:=Tryz.func85.trans (congrArg some (by kernel_rfl))
 f128:=Tryz.func119.trans (congrArg some (by kernel_rfl))
 f129:=Tryz.func120.trans (congrArg some (by kernel_rfl))
 f189:=Tryz.func63.trans (congrArg some (by kernel_rfl))
 f215:=Tryz.func143.trans (congrArg some (by kernel_rfl))
 f216:=Tryz.func116.trans (congrArg some (by kernel_rfl))
 f257:=Tryz.func84.trans (congrArg some (by kernel_rfl))
 f294:=Tryz.func110.trans (congrArg some (by kernel_rfl))
 f295:=Tryz.func111.trans (congrArg some (by kernel_rfl))
 f296:=Tryz.func112.trans (congrArg some (by kernel_rfl))
 f297:=Tryz.func113.trans (congrArg some (by kernel_rfl))
 f298:=Tryz.func114.trans (congrArg some (by kernel_rfl))
 f299:=Tryz.func115.trans (congrArg some (by kernel_rfl))
 f300:=Tryz.func117.trans (congrArg some (by kernel_rfl))
 f301:=Tryz.func118.trans (congrArg some (by kernel_rfl))
 f328:=Tryz.func138.trans (congrArg some (by kernel_rfl))
 f329:=Tryz.func139.trans (congrArg some (by kernel_rfl))
 f330:=Tryz.func140.trans (congrArg some (by kernel_rfl))
 f331:=Tryz.func141.trans (congrArg some (by kernel_rfl))
 f332:=Tryz.func142.trans (congrArg some (by kernel_rfl))
 f343:=Tryz.func153.trans (congrArg some (by kernel_rfl))
 t0:=Tryz.underlying0
 a0:=Tryz.isAgg0
 z0:=Tryz.sizeOf0
 v0:=Tryz.zeroValue0
 t3:=Tryz.underlying3
 a3:=Tryz.isAgg3
 z3:=Tryz.sizeOf3
 v3:=Tryz.zeroValue3
 t4:=Tryz.underlying4
 a4:=Tryz.isAgg4
 z4:=Tryz.sizeOf4
 v4:=Tryz.zeroValue4
 t5:=Tryz.underlying5
 a5:=Tryz.isAgg5
 z5:=Tryz.sizeOf5
 v5:=Tryz.zeroValue5
 t9:=Tryz.underlying9
 a9:=Tryz.isAgg9
 z9:=Tryz.sizeOf9
 v9:=Tryz.zeroValue9
 t28:=Tryz.underlying28
 a28:=Tryz.isAgg28
 z28:=Tryz.sizeOf28
 v28:=Tryz.zeroValue28
 t46:=Tryz.underlying135
 a46:=Tryz.isAgg135
 z46:=Tryz.sizeOf135
 v46:=Tryz.zeroValue135
 t51:=Tryz.underlying149
 a51:=Tryz.isAgg149
 z51:=Tryz.sizeOf149
 v51:=Tryz.zeroValue149
 t53:=Tryz.underlying152
 a53:=Tryz.isAgg152
 z53:=Tryz.sizeOf152
 v53:=Tryz.zeroValue152
 t131:=Tryz.underlying166
 a131:=Tryz.isAgg166
 z131:=Tryz.sizeOf166
 v131:=Tryz.zeroValue166
 t182:=Tryz.underlying169
 a182:=Tryz.isAgg169
 z182:=Tryz.sizeOf169
 v182:=Tryz.zeroValue169
 t183:=Tryz.underlying170
 a183:=Tryz.isAgg170
 z183:=Tryz.sizeOf170
 v183:=Tryz.zeroValue170
 t218:=Tryz.underlying198
 a218:=Tryz.isAgg198
 z218:=Tryz.sizeOf198
 v218:=Tryz.zeroValue198
 t222:=Tryz.underlying202
 a222:=Tryz.isAgg202
 z222:=Tryz.sizeOf202
 v222:=Tryz.zeroValue202
 t228:=Tryz.underlying215
 a228:=Tryz.isAgg215
 z228:=Tryz.sizeOf215
 v228:=Tryz.zeroValue215
 t229:=Tryz.underlying107
 a229:=Tryz.isAgg107
 z229:=Tryz.sizeOf107
 v229:=Tryz.zeroValue107 }
open Go.Sort Go.RowKit in
theorem Tryz.slices_Sort_int (blk off cap:Nat) (zs:List Int) (w:World) (hH:Holds (Value.int .i64) w blk off zs.toArray) (hblk:blk<w.heap.size) (hsz:zs.length<4611686018427387904) :
  Calls Tryz.prog 63 #[.slice (some ⟨blk,off,none⟩) zs.length cap] w fun e w' =>
   e=.returned (.tuple #[])∧∃ n os,w'=grow (putRow (Value.int .i64) (Sort.ahead w n) blk off (zs.mergeSort fun x y=>decide (x≤y)).toArray) os:=Any.slices_Sort_int Tryz.lays189 blk off cap zs w hH hblk hsz
open Go.RowKit Go.Sort in
theorem Tryz.slices_Sort_int_none (p:Option Addr) (cap:Nat) (w:World) :
  Calls Tryz.prog 63 #[.slice p 0 cap] w fun e w'=>e=.returned (.tuple #[])∧w'=w:=Any.slices_Sort_int_none Tryz.lays189 p cap w
end Go.Proofs
namespace Go.Fx.E
open Go Go.Fx Go.Proofs Go.RowKit
set_option maxRecDepth 20000
def srt (l:List Int):List Int:=l.mergeSort fun x y=>decide (x≤y)
theorem Lw {l:List Int}:(srt l).length=l.length:=List.length_mergeSort ..
theorem aaE {l:List Int}:(srt l).Pairwise (·≤·):=by
 have:=List.pairwise_mergeSort (le:=fun x y:Int=>decide (x≤y)) (fun a b c h1 h2=>by simp at *;omega) (fun a b=>by simp;omega) l
 exact this.imp fun h=>by simpa using h
theorem Wi {l:List Int} {x:Int}:x∈srt l↔x∈l:=List.mem_mergeSort
theorem yW {S:Nat→Prop} {w:World} {b:Nat}:∀ {l:List Int} {off:Nat},dD S w 1 b off (l.map P.encI)→∀ j (h:j<l.length),w.cell? ⟨b,off+j,none⟩=some (.int .i64 l[j])
 | [],_,_,j,h=>by simp at h
 | x::r,off,hr,j,h=>by
  obtain ⟨⟨_,⟨val,h1,h2⟩,_⟩,h3⟩:=hr
  cases j with
  | zero =>
   have:val=.int .i64 x:=h2.1
   subst this;exact h1
  | succ j =>
   have:=yW h3 j (by simpa using h)
   rw [show off+(j+1)=off+1+j by omega]
   exact this
theorem Cs {S:Nat→Prop} {w:World} {b:Nat}:∀ {l:List Int} {off:Nat},(∀ j (h:j<l.length),w.cell? ⟨b,off+j,none⟩=some (.int .i64 l[j]))→dD S w 1 b off (l.map P.encI)
 | [],_,_=>trivial
 | x::r,off,h=>⟨⟨rfl,⟨_,h 0 (by simp),rfl,rfl⟩,trivial⟩,Cs fun j hj=>by
   have:=h (j+1) (by simpa using hj)
   rw [show off+1+j=off+(j+1) by omega]
   exact this⟩
theorem akA (l:List Int) (hl:l.length<4611686018427387904):OkN Tryz.prog 63 [.sl 0 0 l.length] [.arr 1 (l.map P.encI)] [] (IsA (.tup []) [.arr 1 ((srt l).map P.encI)]):=by
 refine ⟨cal Tryz.func63 (by kernel_rfl) (by kernel_rfl),?_⟩
 intro ρ X w vals hr ha
 match vals,ha with
 | [val],⟨hv,_⟩ =>
 obtain ⟨cap,h1,h2,h3⟩:=hv
 rcases h3 with ⟨h4,a,rfl⟩|⟨hre,rfl,hroom⟩
 ·have hl0:l=[]:=List.length_eq_zero_iff.1 (by omega)
  subst hl0
  refine (Tryz.slices_Sort_int_none a 0 w).mono ?_
  rintro e w' ⟨rfl,rfl⟩
  exact ⟨_,.tup [],[.arr 1 []],ρ,rfl,⟨⟨rfl,by simp [srt]⟩,yat _⟩,Fr.refl _ _,hr,⟨#[],rfl,trivial⟩,fun _ _ _=>rfl⟩
 ·have hb:=hr.blk 0 _ rfl
  obtain ⟨⟨hsz,_⟩,hb|⟨_,c,T,hc,hcs,hlen,hels⟩⟩:=hb
  ·rw [hb.1] at hre;cases hre
  have hoff:(ρ 0).off+0*(ρ 0).sz=(ρ 0).off:=by omega
  rw [hoff]
  rw [yam] at hlen
  have hg:=fun j hj=>yW hels j hj
  have hH:Sort.Holds (Value.int .i64) w (ρ 0).blk (ρ 0).off l.toArray:=by
   intro j hj
   have hj':j<l.length:=by simpa using hj
   refine ⟨?_,by simp [World.frozen?,hc]⟩
   rw [hg j hj']
   simp [hj']
  refine (Tryz.slices_Sort_int (ρ 0).blk (ρ 0).off cap l w hH (hr.lt 0 hre) hl).mono ?_
  rintro e w' ⟨rfl,n,os,rfl⟩
  have hbl:=hr.lt 0 hre
  have hsl:(srt l).length=l.length:=Lw
  have hw1:(Sort.grow (Sort.putRow (Value.int .i64) (Sort.ahead w n) (ρ 0).blk (ρ 0).off (srt l).toArray) os).heap[(ρ 0).blk]?=some (.cells (Sort.putCells (Value.int .i64) (ρ 0).off (srt l).toArray c) T (0,0)):=by
   simp only [Sort.grow,Sort.putRow,Sort.mapBlock,Sort.ahead]
   rw [yaZ (by simpa using hbl),yba,if_pos rfl,hc]
   rfl
  have hw2:∀ b,b<w.heap.size→b≠(ρ 0).blk→(Sort.grow (Sort.putRow (Value.int .i64) (Sort.ahead w n) (ρ 0).blk (ρ 0).off (srt l).toArray) os).heap[b]?=w.heap[b]?:=by
   intro b hb hne
   simp only [Sort.grow,Sort.putRow,Sort.mapBlock,Sort.ahead]
   rw [yaZ (by simpa using hb),yba,if_neg (fun h=>hne h.symm)]
  have hsize:w.heap.size≤(Sort.grow (Sort.putRow (Value.int .i64) (Sort.ahead w n) (ρ 0).blk (ρ 0).off (srt l).toArray) os).heap.size:=by
   simp [Sort.grow,Sort.putRow,Sort.mapBlock,Sort.ahead]
  have hfr:Fr ρ w ρ (Sort.grow (Sort.putRow (Value.int .i64) (Sort.ahead w n) (ρ 0).blk (ρ 0).off (srt l).toArray) os):=⟨rfl,rfl,rfl,hsize,fun b hb ho=>⟨hw2 b hb fun h=>ho ⟨0,hre,h.symm⟩,ho⟩⟩
  have hcell:∀ j (hj:j<l.length),(Sort.grow (Sort.putRow (Value.int .i64) (Sort.ahead w n) (ρ 0).blk (ρ 0).off (srt l).toArray) os).cell? ⟨(ρ 0).blk,(ρ 0).off+j,none⟩=some (.int .i64 ((srt l)[j]'(by rw [hsl];exact hj))):=by
   intro j hj
   have hjc:(ρ 0).off+j<c.size:=by rw [hcs];rw [hsz] at hroom;omega
   simp only [World.cell?,hw1]
   simp [Sort.putCells,hjc,hsl,hj]
  refine ⟨_,.tup [],[.arr 1 ((srt l).map P.encI)],ρ,rfl,⟨⟨rfl,rfl⟩,yat _⟩,hfr,⟨hr.inj,hr.out,fun k b hk=>?_,hr.disj,fun k hk=>Nat.lt_of_lt_of_le (hr.lt k hk) hsize,hr.xfr hfr⟩,⟨#[],rfl,trivial⟩,fun _ _ _=>rfl⟩
  cases k with
  | succ k=>simp at hk
  | zero =>
   simp only [List.getElem?_cons_zero,yaI] at hk
   subst hk
   refine ⟨⟨hsz,by omega⟩,.inr ⟨hre,_,T,hw1,by simp [Sort.putCells,hcs],by rw [yam,hsl];exact hlen,Cs fun j hj=>?_⟩⟩
   rw [hsl] at hj
   exact hcell j hj
theorem ajZ (l:List Int) (hl:l.length≤1000000) (ho:l.Pairwise (·<·)):OkN Tryz.prog 64 [.sl 0 0 l.length] [.arr 1 (l.map P.encI)] [] (IsA (.sl 0 0 l.length) [.arr 1 (l.map P.encI)]):=by
 refine eV pol [0] lw64 (by simp) ⟨trivial,trivial⟩ (by simp) ?_
 unfold c64
 simp -implicitDefEqProofs only [rX,↓rY,aA,↓reduceIte,reduceCtorEq,aG,aN]
 cases h0:decide ((l.length:Int)<2) with
 | true =>
  have h0':=of_decide_eq_true h0
  simp -implicitDefEqProofs only [rX,↓rY,↓reduceIte,aQ,aT,leH,leB,aE,aB,wfB,wfV,cA]
  exact fun _=>trivial
 | false =>
  have h0':=of_decide_eq_false h0
  simp -implicitDefEqProofs only [↓rY]
  intro _
  refine bN (fun k:Nat=>(⟨[(3,.i ((k:Int)+1)),(0,.sl 0 0 l.length)],[.arr 1 (l.map P.encI)],0⟩:St)) (fun k=>k+1≤l.length) (fun k=>l.length-k) 0 (by omega) ?_ ?_
  ·exact ⟨by simp -implicitDefEqProofs only [rX,↓reduceIte,reduceCtorEq,leE];simp,⟨aH _,trivial⟩,⟨trivial,trivial⟩,by simp -implicitDefEqProofs only [rX,aB,wfE,wfV],by simp -implicitDefEqProofs only [wfB]⟩
  intro k hk N hN
  simp only [c64l0]
  simp -implicitDefEqProofs only [rX,↓rY,aA,↓reduceIte,Nat.reduceEqDiff,cS,reduceCtorEq,dR,yac,yab,aG]
  cases h1:decide ((k:Int)+1<(l.length:Int)) with
  | true =>
   have h1':=of_decide_eq_true h1
   have hk1:k+1<l.length:=by omega
   have hlt:=yaX.1 ho k (k+1) (by omega) hk1 (by omega)
   have e1:((k:Int)+1).toNat=k+1:=by omega
   have e2:(k:Int)+1-1=(k:Int):=by omega
   have hne:(l[k+1]==l[k])=false:=by simp;omega
   simp -implicitDefEqProofs only [rX,↓rY,yab,e1,e2,P.cM,hne]
   refine fun _=>⟨⟨by omega,by omega⟩,hk1,⟨by simp only [lo];omega,by simp only [Fx.hi];omega⟩,⟨by omega,by omega⟩,by omega,⟨by simp only [lo];omega,by simp only [Fx.hi];omega⟩,hN _ (k+1) (by omega) (by omega) ?_⟩
   exact ⟨by simp -implicitDefEqProofs only [rX,↓reduceIte,reduceCtorEq,leE];rfl,⟨aH _,trivial⟩,⟨trivial,trivial⟩,by simp -implicitDefEqProofs only [rX,aB,wfE,wfV],by simp -implicitDefEqProofs only [wfB]⟩
  | false =>
   have h1':=of_decide_eq_false h1
   simp -implicitDefEqProofs only [rX,↓rY,↓reduceIte,aQ,aT,leH,leB,aE,aB,wfB,wfV,cA]
   exact fun _=>trivial
def rO (ps:List P.aJ) (rs:List P.Road):List (Int × Int):=(yag ps.length).map (fun i:Nat=>((i:Int),(0:Int)))++(P.ofN ps 1 ps.length).map (fun i:Nat=>((i:Int),(0:Int)))++(P.ofN ps 3 ps.length).map (fun i:Nat=>((i:Int),(0:Int)))++(yag rs.length).map (fun j:Nat=>((-1:Int),(j:Int)))
def gone (ps:List P.aJ) (q j:Nat):List Nat:=if q=0 then P.ofN ps 1 j else if q=1 then P.ofN ps 1 ps.length++P.ofN ps 3 j else P.ofN ps 1 ps.length++P.ofN ps 3 ps.length
theorem Oq {ps:List P.aJ} {rs:List P.Road} {k:Nat} (h:k<ps.length):(rO ps rs)[k]?=some ((k:Int),0):=by
 unfold rO
 rw [yan,yan,ybb (by simpa using h)]
 simp [h]
theorem Rq {ps:List P.aJ} {rs:List P.Road} {a:Nat} (h:a<rs.length):(rO ps rs)[ps.length+(gone ps 2 0).length+a]?=some (-1,(a:Int)):=by
 unfold rO gone
 rw [yaQ (by simp<;>omega)]
 simp only [yao,yam,yaJ]
 rw [show (if 2=0 then P.ofN ps 1 0 else if 2=1 then P.ofN ps 1 ps.length++P.ofN ps 3 0 else P.ofN ps 1 ps.length++P.ofN ps 3 ps.length)=P.ofN ps 1 ps.length++P.ofN ps 3 ps.length from rfl,yao]
 rw [show ps.length+((P.ofN ps 1 ps.length).length+(P.ofN ps 3 ps.length).length)+a-(ps.length+(P.ofN ps 1 ps.length).length+(P.ofN ps 3 ps.length).length)=a by omega]
 simp [h]
theorem Rs {ps:List P.aJ} {rs:List P.Road} {k a:Nat} (h:(gone ps 2 0)[k]?=some a):(rO ps rs)[ps.length+k]?=some ((a:Int),0):=by
 unfold gone at h
 have h2:(P.ofN ps 1 ps.length++P.ofN ps 3 ps.length)[k]?=some a:=h
 have hk:k<(P.ofN ps 1 ps.length++P.ofN ps 3 ps.length).length:=by
  rcases Nat.lt_or_ge k (P.ofN ps 1 ps.length++P.ofN ps 3 ps.length).length with c|c
  ·exact c
  ·rw [yaN c] at h2;cases h2
 unfold rO
 rw [yan,yan,yaQ (by simp),←yan]
 simp only [yam,yaJ]
 rw [show ps.length+k-ps.length=k by omega,←yak,ybb (by rw [yam];exact hk),yaD,h2]
 rfl
theorem abH {ps:List P.aJ} {q j:Nat} (hq:q<2) (hj:j<ps.length):gone ps q (j+1)=gone ps q j++(if ps[j].kind=(if q=0 then 1 else 3) then [j] else []):=by
 have hk:∀ kind:Int,P.ofN ps kind (j+1)=P.ofN ps kind j++(if ps[j].kind=kind then [j] else []):=by
  intro kind
  rw [P.mP]
  congr 1
  have:P.isK ps kind j=(ps[j].kind==kind):=by rw [P.isK,yaa hj]
  rw [this]
  simp
 unfold gone
 rcases (by omega:q=0∨q=1) with rfl|rfl
 ·simp only [if_pos];exact hk 1
 ·simp only [Nat.one_ne_zero,if_false,if_pos]
  rw [hk 3,yan]
theorem abI {ps:List P.aJ} {q:Nat} (hq:q<2):gone ps q ps.length=gone ps (q+1) 0:=by
 unfold gone
 rcases (by omega:q=0∨q=1) with rfl|rfl
 ·simp [P.ofN]
 ·simp
theorem Wq {ps:List P.aJ} {q j:Nat} (hq:q<2) (hj:j≤ps.length):∃ r,gone ps 2 0=gone ps q j++r:=by
 have key:∀ kind:Int,∀ d j,j+d=ps.length→∃ r,P.ofN ps kind ps.length=P.ofN ps kind j++r:=by
  intro kind d
  induction d with
  | zero=>intro j h;exact ⟨[],by rw [show j=ps.length by omega];simp⟩
  | succ d ih =>
   intro j h
   obtain ⟨r,hr⟩:=ih (j+1) (by omega)
   rw [hr,P.mP,yan]
   exact ⟨_,rfl⟩
 rcases (by omega:q=0∨q=1) with rfl|rfl
 ·obtain ⟨r,hr⟩:=key 1 (ps.length-j) j (by omega)
  refine ⟨r++P.ofN ps 3 ps.length,?_⟩
  show P.ofN ps 1 ps.length++P.ofN ps 3 ps.length=P.ofN ps 1 j++_
  rw [hr,yan]
 ·obtain ⟨r,hr⟩:=key 3 (ps.length-j) j (by omega)
  refine ⟨r,?_⟩
  show P.ofN ps 1 ps.length++P.ofN ps 3 ps.length=(P.ofN ps 1 ps.length++P.ofN ps 3 j)++_
  rw [hr,yan]
set_option maxRecDepth 20000
open Go.Fx.P (Arc aJ)
def kd (q:Nat):Int:=if q=0 then 1 else 3
abbrev h62 (ps:List aJ) (rs:List P.Road):List Blk:=[.var [.ro 3 (ps.map aJ.enc),P.rds rs],.arr 1 [[.i 1],[.i 3]]]
set_option maxHeartbeats 1000000 in
theorem akB (ps:List aJ) (rs:List P.Road) (k:Nat) (hF:eQ ps rs) (o:Int × Int) (ho:(rO ps rs)[k]?=some o):Ok 62 [P.bC ps rs,.i k] (Is (.tup [.i o.1,.i o.2])):=by
 have hpl:=hF.pl
 have hrl:=hF.rl
 have hko:k<(rO ps rs).length:=by
  rcases Nat.lt_or_ge k (rO ps rs).length with c|c
  ·exact c
  ·rw [yaN c] at ho;cases ho
 have hlen:(rO ps rs).length=ps.length+(gone ps 2 0).length+rs.length:=by
  show (rO ps rs).length=ps.length+(P.ofN ps 1 ps.length++P.ofN ps 3 ps.length).length+rs.length
  unfold rO;simp;omega
 have hgl:(gone ps 2 0).length≤12:=by
  show (P.ofN ps 1 ps.length++P.ofN ps 3 ps.length).length≤12
  have h1:=P.fI (ps:=ps) (kind:=1) (n:=ps.length)
  have h2:=P.fI (ps:=ps) (kind:=3) (n:=ps.length)
  rw [yao];omega
 have hkb:k≤100:=by omega
 refine ok_of lw62 (by simp) ?_
 unfold c62 P.bC P.sps
 simp -implicitDefEqProofs only [rX,↓rY,aA,cells?,↓reduceIte,Nat.reduceEqDiff,Nat.reduceAdd,reduceCtorEq,aC,bZ,aQ,aT,wfV,wfL,isD,Nat.reduceLT,aG,aN]
 intro _
 cases h0:decide ((k:Int)<(ps.length:Int)) with
 | true =>
  have h0':=of_decide_eq_true h0
  rw [Oq (by omega)] at ho
  cases ho
  simp -implicitDefEqProofs only [↓rY]
 | false =>
  have h0':=of_decide_eq_false h0
  simp -implicitDefEqProofs only [↓rY]
  refine fun _=>⟨⟨by simp only [lo];omega,by simp only [Fx.hi];omega⟩,fun _=>?_⟩
  refine bN (fun q:Nat=>(⟨[(23,.i q),(22,.i 2),(21,.sl 1 0 2),(2,.ptr 0 0 0),(1,.i ((k:Int)-ps.length-(gone ps q 0).length))],h62 ps rs,2⟩:St)) (fun q=>q≤2∧ps.length+(gone ps q 0).length≤k) (fun q=>2-q) 0 ⟨by omega,by simp [gone,P.ofN];omega⟩ ?_ ?_
  ·exact ⟨by simp -implicitDefEqProofs only [rX,↓reduceIte,Nat.reduceEqDiff,leE];exact ⟨rfl,rfl,by simp [gone,P.ofN]⟩,aV _,trivial,by simp -implicitDefEqProofs only [rX,aB,wfE,wfV,h62],by simp -implicitDefEqProofs only [rX,wfB,wfV,wfL,h62,P.rds]⟩
  rintro q ⟨hq,hqk⟩ N hN
  simp only [c62l0,h62]
  simp -implicitDefEqProofs only [rX,↓rY,aA,↓reduceIte,Nat.reduceEqDiff,cS,Nat.reduceAdd,aQ,aT,wfV,wfL,yab,aG]
  cases h1:decide ((q:Int)<2) with
  | false =>
   have h1':=of_decide_eq_false h1
   obtain rfl:q=2:=by omega
   obtain ⟨a,ha⟩:∃ a,k=ps.length+(gone ps 2 0).length+a:=⟨k-(ps.length+(gone ps 2 0).length),by omega⟩
   rw [ha,Rq (by omega)] at ho
   cases ho
   simp -implicitDefEqProofs only [↓rY]
   have:(k:Int)-ps.length-(gone ps 2 0).length=(a:Int):=by omega
   rw [this]
  | true =>
   have h1':=of_decide_eq_true h1
   have hq2:q<2:=by omega
   simp -implicitDefEqProofs only [↓rY]
   refine ⟨⟨by omega,by omega⟩,by simpa using hq2,?_⟩
   have hkd:∀ h:q<[[V.i 1],[V.i 3]].length,([[V.i 1],[V.i 3]][q]'h)[0]?=some (.i (kd q)):=by
    rcases (by omega:q=0∨q=1) with rfl|rfl<;>intro h<;>rfl
   rw [hkd]
   simp -implicitDefEqProofs only [↓rY]
   intro hml
   refine bN (fun j:Nat=>(⟨[(30,.i j),(29,.i ps.length),(28,.ro 3 (ps.map aJ.enc)),(7,.i (kd q)),(23,.i q),(22,.i 2),(21,.sl 1 0 2),(2,.ptr 0 0 0),(1,.i ((k:Int)-ps.length-(gone ps q j).length))],h62 ps rs,2⟩:St)) (fun j=>j≤ps.length∧ps.length+(gone ps q j).length≤k) (fun j=>ps.length-j) 0 ⟨by omega,hqk⟩ ?_ ?_
   ·exact ⟨by simp -implicitDefEqProofs only [rX,↓reduceIte,Nat.reduceEqDiff,leE];rfl,aV _,trivial,by simp -implicitDefEqProofs only [rX,aB,wfE,wfV,h62],by simp -implicitDefEqProofs only [rX,wfB,wfV,wfL,h62,P.rds]⟩
   rintro j ⟨hj,hjk⟩ N1 hN1
   simp only [c62l1,h62]
   simp -implicitDefEqProofs only [rX,↓rY,aA,cells?,splice,↓reduceIte,Nat.reduceEqDiff,Nat.reduceAdd,aC,aQ,aT,wfV,wfL,yac,yab,aM]
   cases h2:decide ((j:Int)<(ps.length:Int)) with
   | false =>
    have h2':=of_decide_eq_false h2
    obtain rfl:j=ps.length:=by omega
    rw [abI hq2] at hjk ⊢
    simp -implicitDefEqProofs only [↓rY]
    refine ⟨⟨by simp only [lo];omega,by simp only [Fx.hi];omega⟩,hN _ (q+1) ⟨by omega,hjk⟩ (by omega) ?_⟩
    exact ⟨by simp -implicitDefEqProofs only [rX,↓reduceIte,Nat.reduceEqDiff,leE];simp,aV _,trivial,by simp -implicitDefEqProofs only [rX,aB,wfE,wfV,h62],by simp -implicitDefEqProofs only [rX,wfB,wfV,wfL,h62,P.rds]⟩
   | true =>
    have h2':=of_decide_eq_true h2
    have hj':j<ps.length:=by omega
    have hs:gone ps q (j+1)=gone ps q j++(if ps[j].kind=kd q then [j] else []):=abH hq2 hj'
    have b0:lo IntKind.i64≤(j:Int)+1∧(j:Int)+1≤Fx.hi IntKind.i64:=⟨by simp only [lo];omega,by simp only [Fx.hi];omega⟩
    simp -implicitDefEqProofs only [rX,↓rY,yaa hj',P.nL,P.iY,P.sO,P.oS]
    refine ⟨⟨by omega,by omega⟩,hj',?_⟩
    cases h3:(ps[j].kind != kd q) with
    | true =>
     have h3':=bne_iff_ne.1 h3
     rw [if_neg h3',yaK] at hs
     simp -implicitDefEqProofs only [↓rY]
     refine ⟨b0,hN1 _ (j+1) ⟨by omega,by rw [hs];exact hjk⟩ (by omega) ?_⟩
     rw [hs]
     exact ⟨by simp -implicitDefEqProofs only [rX,↓reduceIte,Nat.reduceEqDiff,leE];rfl,⟨aH _,aH _,trivial⟩,trivial,by simp -implicitDefEqProofs only [rX,aB,wfE,wfV,h62],by simp -implicitDefEqProofs only [rX,wfB,wfV,wfL,h62,P.rds]⟩
    | false =>
     have h3':ps[j].kind=kd q:=by simpa using h3
     rw [if_pos h3'] at hs
     simp -implicitDefEqProofs only [↓rY]
     cases h4:((k:Int)-ps.length-(gone ps q j).length==0) with
     | true =>
      have h4':=eq_of_beq h4
      obtain ⟨r,hr⟩:=Wq (ps:=ps) hq2 (show j+1≤ps.length by omega)
      have hg:(gone ps 2 0)[(gone ps q j).length]?=some j:=by
       rw [hr,hs,yan,yaQ (yat _),Nat.sub_self];rfl
      have:=Rs (rs:=rs) hg
      rw [show ps.length+(gone ps q j).length=k by omega,ho] at this
      cases this
      simp -implicitDefEqProofs only [↓rY]
     | false =>
      have h4':=ne_of_beq_false h4
      simp -implicitDefEqProofs only [↓rY]
      have hl:(gone ps q (j+1)).length=(gone ps q j).length+1:=by rw [hs];simp
      refine ⟨⟨by simp only [lo];omega,by simp only [Fx.hi];omega⟩,b0,hN1 _ (j+1) ⟨by omega,by omega⟩ (by omega) ?_⟩
      exact ⟨by simp -implicitDefEqProofs only [rX,↓reduceIte,Nat.reduceEqDiff,leE];exact ⟨by simp,by omega⟩,⟨aH _,aH _,trivial⟩,trivial,by simp -implicitDefEqProofs only [rX,aB,wfE,wfV,h62],by simp -implicitDefEqProofs only [rX,wfB,wfV,wfL,h62,P.rds]⟩
set_option maxRecDepth 20000
open Go.Fx.P (Arc aJ)
theorem rH {α:Type} {r:α→α→Prop} (hi:∀ a,¬r a a) (ht:∀ a b c,r a b→r b c→r a c):∀ {l m:List α},l.Pairwise r→m.Pairwise r→(∀ x,x∈l↔x∈m)→l=m
 | [],[],_,_,_=>rfl
 | [],b::m,_,_,h=>by have:=(h b).2 (by simp);cases this
 | a::l,[],_,_,h=>by have:=(h a).1 (by simp);cases this
 | a::l,b::m,h1,h2,h=>by
  obtain ⟨h3,h4⟩:=yaP.1 h1
  obtain ⟨h5,h6⟩:=yaP.1 h2
  have hab:a=b:=by
   rcases yae.1 ((h a).1 (by simp)) with e|e
   ·exact e
   ·rcases yae.1 ((h b).2 (by simp)) with f|f
    ·exact f.symm
    ·exact absurd (ht _ _ _ (h3 b f) (h5 a e)) (hi a)
  subst hab
  congr 1
  refine rH hi ht h4 h6 fun x=>⟨fun hx=>?_,fun hx=>?_⟩
  ·rcases yae.1 ((h x).1 (yay _ hx)) with e|e
   ·subst e;exact absurd (h3 _ hx) (hi _)
   ·exact e
  ·rcases yae.1 ((h x).2 (yay _ hx)) with e|e
   ·subst e;exact absurd (h5 _ hx) (hi _)
   ·exact e
def rAt (rs:List P.Road) (j:Nat):P.Road:=rs.getD j default
def ZL (ps:List aJ) (rs:List P.Road):List (Arc × Int × Int) :=
 (yag ps.length).map (fun i:Nat=>(P.aP ps i,((i:Int),(0:Int))))++(P.ofN ps 1 ps.length).map (fun i:Nat=>(P.aS ps i,((i:Int),(0:Int))))++(P.ofN ps 3 ps.length).map (fun i:Nat=>(P.aO ps i,((i:Int),(0:Int))))++(yag rs.length).map (fun j:Nat=>(P.aR (rAt rs j),((-1:Int),(j:Int))))
theorem Wd {rs:List P.Road}:(yag rs.length).map (fun j=>P.aR (rAt rs j))=rs.map P.aR:=by
 apply List.ext_getElem
 ·simp
 ·intro i h1 h2
  have:i<rs.length:=by simpa using h2
  simp [rAt,this]
theorem agY {ps:List aJ} {rs:List P.Road}:(ZL ps rs).map (·.1)=P.cE ps rs:=by
 unfold ZL P.cE P.nA4 P.nA3 P.nA2 P.nA1
 rw [←Wd]
 simp [yak,Function.comp_def]
theorem agX {ps:List aJ} {rs:List P.Road}:(ZL ps rs).map (·.2)=rO ps rs:=by
 unfold ZL rO
 simp [yak,Function.comp_def]
def pl1 (z:Arc × Int × Int):Option Int:=if 0≤z.2.1 then some z.2.1 else none
def rd1 (z:Arc × Int × Int):Option Int:=if 0≤z.2.1 then none else some z.2.2
def fPl (Z:List (Arc × Int × Int)) (cut:List Int) (i:Nat):List Int:=((Z.take i).filter fun z=>iG cut z.1).filterMap pl1
def fRd (Z:List (Arc × Int × Int)) (cut:List Int) (i:Nat):List Int:=((Z.take i).filter fun z=>iG cut z.1).filterMap rd1
theorem f_n {Z:List (Arc × Int × Int)} {cut:List Int} {i:Nat} (h:i<Z.length) (ho:iG cut Z[i].1=false):fPl Z cut (i+1)=fPl Z cut i∧fRd Z cut (i+1)=fRd Z cut i:=by
 unfold fPl fRd
 rw [←yaR h,yaz,List.filter_cons_of_neg (by simp [ho])]
 simp
theorem f_p {Z:List (Arc × Int × Int)} {cut:List Int} {i:Nat} (h:i<Z.length) (ho:iG cut Z[i].1=true) (hp:0≤Z[i].2.1):fPl Z cut (i+1)=fPl Z cut i++[Z[i].2.1]∧fRd Z cut (i+1)=fRd Z cut i:=by
 unfold fPl fRd
 rw [←yaR h,yaz,show [Z[i]].filter (fun z=>iG cut z.1)=[Z[i]] by simp [ho]]
 simp [pl1,rd1,hp]
theorem f_r {Z:List (Arc × Int × Int)} {cut:List Int} {i:Nat} (h:i<Z.length) (ho:iG cut Z[i].1=true) (hp:Z[i].2.1<0):fPl Z cut (i+1)=fPl Z cut i∧fRd Z cut (i+1)=fRd Z cut i++[Z[i].2.2]:=by
 unfold fPl fRd
 rw [←yaR h,yaz,show [Z[i]].filter (fun z=>iG cut z.1)=[Z[i]] by simp [ho]]
 have:¬0≤Z[i].2.1:=by omega
 simp [pl1,rd1,this]
theorem Zd {Z:List (Arc × Int × Int)} {cut:List Int} {i:Nat}:(fPl Z cut i).length≤Z.length∧(fRd Z cut i).length≤Z.length:=by
 unfold fPl fRd
 have h1:=ybc pl1 ((Z.take i).filter fun z=>iG cut z.1)
 have h3:=ybc rd1 ((Z.take i).filter fun z=>iG cut z.1)
 have h2:=yaS (fun z:Arc × Int × Int=>iG cut z.1) (Z.take i)
 rw [yaE] at h2
 omega
def Cc (ps:List aJ) (cut:List Int) (i:Nat):Bool:=hasB cut (2+2*i)&&!hasB cut (3+2*i)||P.isK ps 1 i&&!hasB cut (2+2*i)||P.isK ps 3 i&&hasB cut (3+2*i)
def Ij (rs:List P.Road) (cut:List Int) (j:Nat):Bool:=hasB cut (3+2*(rAt rs j).from_)&&!hasB cut (2+2*(rAt rs j).to)
def spP (ps:List aJ) (cut:List Int) (n:Nat):List Int:=((yag n).filter (Cc ps cut)).map fun i:Nat=>(i:Int)
def spR (rs:List P.Road) (cut:List Int) (n:Nat):List Int:=((yag n).filter (Ij rs cut)).map fun i:Nat=>(i:Int)
theorem gF {l:List Nat} {f:Nat→Arc × Int × Int} {q:Nat→Bool} {cut:List Int} (g:Arc × Int × Int→Option Int) (h:∀ i∈l,iG cut (f i).1=q i) (hg:∀ i∈l,g (f i)=some (i:Int)):((l.map f).filter fun z=>iG cut z.1).filterMap g=(l.filter q).map fun i:Nat=>(i:Int):=by
 induction l with
 | nil=>rfl
 | cons x l ih =>
  have ih':=ih (fun i hi=>h i (yay _ hi)) (fun i hi=>hg i (yay _ hi))
  have hx:=h x yaB
  have hgx:=hg x yaB
  rw [yar,List.filter_cons,List.filter_cons,hx]
  cases q x with
  | true=>simp only [if_pos];rw [List.filterMap_cons,hgx,yar,ih']
  | false=>simpa using ih'
theorem gG {l:List Nat} {f:Nat→Arc × Int × Int} {cut:List Int} (g:Arc × Int × Int→Option Int) (hg:∀ i∈l,g (f i)=none):((l.map f).filter fun z=>iG cut z.1).filterMap g=[]:=by
 rw [List.filterMap_eq_nil_iff]
 intro z hz
 obtain ⟨hz,_⟩:=yau.1 hz
 obtain ⟨i,hi,rfl⟩:=yaT.1 hz
 exact hg i hi
theorem Te {ps:List aJ} {rs:List P.Road} {cut:List Int} {n:Int} (hc:xB n cut) :
  (fPl (ZL ps rs) cut (ZL ps rs).length=(((yag ps.length).filter fun i:Nat=>hasB cut (2+2*i)&&!hasB cut (3+2*i))++((P.ofN ps 1 ps.length).filter fun i:Nat=>!hasB cut (2+2*i))++((P.ofN ps 3 ps.length).filter fun i:Nat=>hasB cut (3+2*i))).map fun i:Nat=>(i:Int))∧fRd (ZL ps rs) cut (ZL ps rs).length=spR rs cut rs.length:=by
 have h0:decide ((0:Int)∈cut)=true:=decide_eq_true (yaY hc.2.2)
 have h1:decide ((1:Int)∈cut)=false:=decide_eq_false fun h=>(hc.1 1 h).2.2 rfl
 unfold fPl fRd
 rw [List.take_length]
 unfold ZL
 simp only [yaz,List.filterMap_append,yak]
 constructor
 ·rw [gF (q:=fun i:Nat=>hasB cut (2+2*i)&&!hasB cut (3+2*i)) pl1 (fun i _=>rfl) (fun i _=>by simp [pl1]),
   gF (q:=fun i:Nat=>!hasB cut (2+2*i)) pl1 (fun i _=>by unfold iG P.aS;simp only [h0,yaq];rfl) (fun i _=>by simp [pl1]),
   gF (q:=fun i:Nat=>hasB cut (3+2*i)) pl1 (fun i _=>by unfold iG P.aO;simp only [h1,Bool.not_false,Bool.and_true];rfl) (fun i _=>by simp [pl1]),
   gG pl1 (fun i _=>by simp [pl1]),yaK]
 ·rw [gG rd1 (fun i _=>by simp [rd1]),gG rd1 (fun i _=>by simp [rd1]),gG rd1 (fun i _=>by simp [rd1]),
   gF (q:=Ij rs cut) rd1 (fun i _=>rfl) (fun i _=>by simp [rd1])]
  rfl
theorem Ku {l:List Nat} (h:l.Nodup):(l.map fun i:Nat=>(i:Int)).Nodup:=by
 rw [List.Nodup,List.pairwise_map]
 exact h.imp fun hab he=>hab (by omega)
theorem Gu {n:Nat} {q:Nat→Bool}:(((yag n).filter q).map fun i:Nat=>(i:Int)).Pairwise (·<·):=by
 rw [List.pairwise_map]
 refine (List.Pairwise.filter q (List.pairwise_lt_range (n:=n))).imp fun h=>by omega
theorem Eo {ps:List aJ} {kind:Int} {n i:Nat}:i∈P.ofN ps kind n↔i<n∧P.isK ps kind i=true:=by unfold P.ofN;simp
theorem Nc {ps:List aJ} {rs:List P.Road} {cut:List Int} {n:Int} (hc:xB n cut):(fPl (ZL ps rs) cut (ZL ps rs).length).Nodup:=by
 rw [(Te (rs:=rs) hc).1]
 refine Ku ?_
 have hr:(yag ps.length).Nodup:=List.nodup_range
 have hk:∀ i,P.isK ps 1 i=true→P.isK ps 3 i=true→False:=by
  intro i h1 h3
  unfold P.isK at h1 h3
  split at h1
  ·rename_i x hx;rw [hx] at h3;simp at h1 h3;omega
  ·cases h1
 rw [List.nodup_append,List.nodup_append]
 refine ⟨⟨hr.filter _,(hr.filter _).filter _,fun a ha b hb e=>?_⟩,(hr.filter _).filter _,fun a ha b hb e=>?_⟩
 ·subst e
  have h1:=(yau.1 ha).2
  have h2:=(yau.1 hb).2
  simp only [yaA,yaO] at h1 h2
  rw [h1.1] at h2;cases h2
 ·subst e
  have h2:=yau.1 hb
  rcases List.mem_append.1 ha with h|h
  ·have h1:=(yau.1 h).2
   simp only [yaA,yaO] at h1
   rw [h2.2] at h1;cases h1.2
  ·have h1:=(yau.1 h).1
   exact hk a (Eo.1 h1).2 (Eo.1 h2.1).2
theorem aaF {l:List Int} (h:l.Nodup):(srt l).Pairwise (·<·):=by
 have h1:(srt l).Nodup:=(List.mergeSort_perm l _).nodup_iff.2 h
 have h2:=aaE (l:=l)
 refine (h2.and h1).imp fun ⟨a,b⟩=>by omega
theorem agI {ps:List aJ} {rs:List P.Road} {cut:List Int} {n:Int} (hc:xB n cut):srt (fPl (ZL ps rs) cut (ZL ps rs).length)=spP ps cut ps.length:=by
 refine rH (r:=fun a b:Int=>a<b) (fun a h=>by omega) (fun a b c h1 h2=>by omega) (aaF (Nc hc)) Gu fun x=>?_
 rw [Wi,(Te (rs:=rs) hc).1]
 unfold spP
 rw [yaT,yaT]
 have key:∀ i:Nat,(i∈((yag ps.length).filter fun i:Nat=>hasB cut (2+2*i)&&!hasB cut (3+2*i))++((P.ofN ps 1 ps.length).filter fun i:Nat=>!hasB cut (2+2*i))++((P.ofN ps 3 ps.length).filter fun i:Nat=>hasB cut (3+2*i)))↔i∈(yag ps.length).filter (Cc ps cut):=by
  intro i
  simp only [List.mem_append,yau,Eo,List.mem_range,Cc,Bool.or_eq_true,yaA]
  constructor
  ·rintro ((⟨a,b⟩|⟨⟨a,b⟩,c⟩)|⟨⟨a,b⟩,c⟩)
   ·exact ⟨a,.inl (.inl b)⟩
   ·exact ⟨a,.inl (.inr ⟨b,c⟩)⟩
   ·exact ⟨a,.inr ⟨b,c⟩⟩
  ·rintro ⟨a,(b|b)|b⟩
   ·exact .inl (.inl ⟨a,b⟩)
   ·exact .inl (.inr ⟨⟨a,b.1⟩,b.2⟩)
   ·exact .inr ⟨⟨a,b.1⟩,b.2⟩
 constructor
 ·rintro ⟨i,hi,rfl⟩;exact ⟨i,(key i).1 hi,rfl⟩
 ·rintro ⟨i,hi,rfl⟩;exact ⟨i,(key i).2 hi,rfl⟩
theorem f_0 {Z:List (Arc × Int × Int)} {cut:List Int}:fPl Z cut 0=[]∧fRd Z cut 0=[]:=⟨by simp [fPl],by simp [fRd]⟩
theorem agW {ps:List aJ} {rs:List P.Road} {arcs:List Arc} (ha:P.cE ps rs=arcs) {i:Nat} (h:i<arcs.length):∃ hz:i<(ZL ps rs).length,(ZL ps rs)[i].1=arcs[i]∧(rO ps rs)[i]?=some (ZL ps rs)[i].2:=by
 have hZ1:=agY (ps:=ps) (rs:=rs)
 rw [ha] at hZ1
 have hZ2:=agX (ps:=ps) (rs:=rs)
 have hz:i<(ZL ps rs).length:=by rw [←hZ1,yam] at h;exact h
 refine ⟨hz,?_,?_⟩
 ·have:(yad (fun x:Arc × Int × Int=>x.1) (ZL ps rs))[i]?=some arcs[i]:=by rw [hZ1];exact yaa h
  rw [yaD,yaa hz] at this
  exact Option.some.inj this
 ·rw [←hZ2,yaD,yaa hz];rfl
attribute [irreducible] fPl fRd ZL
set_option maxRecDepth 20000
open Go.Fx.P (Arc aJ)
abbrev Wn (ps:List aJ) (rs:List P.Road) (N:Nat) (arcs:List Arc) (cut:List Int) (g:List Int × List Int):List Blk:=[.var [.ro 3 (ps.map aJ.enc),(.ro 4 (rs.map P.Road.enc))],.var [.i N,.ro 4 (arcs.map Arc.enc)],.var [.sl 7 0 g.1.length],.var [.sl 8 0 g.2.length],.var [.i N,.ro 4 (arcs.map Arc.enc)],.var [.ro 1 (cut.map P.encI)],.rcd .ready [(2,.ptr 0 0 0),(7,.ptr 2 0 0),(8,.ptr 3 0 0)],.arr 1 (g.1.map P.encI),.arr 1 (g.2.map P.encI)]
theorem alB (ps:List aJ) (rs:List P.Road) (N:Nat) (arcs:List Arc) (cut:List Int):acM (Wn ps rs N arcs cut) 9 N arcs cut 6 4 5 [6]:=by
 refine ⟨fun g=>rfl,fun g tl=>rfl,fun g tl=>rfl,fun g=>⟨trivial,trivial⟩,fun g tl=>?_,fun g tl=>⟨_,_,rfl⟩⟩
 simp -implicitDefEqProofs only [rX,aB,wfE,wfB,wfV,wfL]
def uW (ps:List aJ) (cut:List Int):List Int:=if iR (P.nN ps) cut then spP ps cut ps.length else []
def uV (ps:List aJ) (rs:List P.Road) (cut:List Int):List Int:=if iR (P.nN ps) cut then spR rs cut rs.length else []
theorem E83.kill {N:Nat} {arcs:List Arc} {L k i:Nat} {e:Env} (he:E83 N arcs L k i e) {m:Nat} (hm:m≠L∧m≠k):E83 N arcs L k i (bP [m] e):=by
 obtain ⟨h0,h4,h23,h24,h25,h43⟩:=he
 have a:¬L=m:=fun h=>hm.1 h.symm
 have b:¬k=m:=fun h=>hm.2 h.symm
 exact ⟨by rw [eS,h0];simp [Fx.kill,b],by rw [eS,h4];simp [Fx.kill,a],by rw [eS,h23];rfl,by rw [eS,h24];rfl,by rw [eS,h25];rfl,by rw [eS,h43];rfl⟩
set_option maxHeartbeats 2000000 in
theorem aeI (ps:List aJ) (rs:List P.Road) (cut:List Int) (hF:eQ ps rs) (hcl:cut.length≤1000000):Ok 20 [P.bC ps rs,P.li cut] (Is (.tup [P.li (uW ps cut),P.li (uV ps rs cut)])):=by
 have hV:=hF.net
 have hN:=hV.hn
 have hal:=hV.hl
 refine oY (ok_of lw20 (by simp) ?_)
 unfold c20 P.bC P.sps P.rds
 simp -implicitDefEqProofs only [rX,↓rY,aA,cells?,↓reduceIte,Nat.reduceEqDiff,Nat.reduceAdd,aC,aN]
 refine aD hF.e51 ⟨⟨aL.1,trivial⟩,aL.2,trivial⟩ rfl trivial ?_
 unfold P.net
 simp -implicitDefEqProofs only [rX,↓rY,aA,cells?,splice,↓reduceIte,Nat.reduceEqDiff,Nat.reduceAdd,reduceCtorEq,aC,isC,aM]
 refine aD (aaS (P.nN ps) cut hcl) (by simp [aF,aK,aU,bG,wkL,wk,wkR,wkB,P.li]) rfl trivial ?_
 unfold uW uV
 cases hc:iR (P.nN ps) cut with
 | false =>
  simp -implicitDefEqProofs only [rX,↓rY,aA,↓reduceIte,Nat.reduceAdd]
  exact oW ⟨by simp [aT,wfV,wfL,get],by simp [Gv,aT,gvV,gvL,wk,wkL,wkR,P.li,get]⟩
 | true =>
  have hcP:xB (P.nN ps) cut:=of_decide_eq_true hc
  have hs:=agI (ps:=ps) (rs:=rs) hcP
  have hr:=(Te (ps:=ps) (rs:=rs) hcP).2
  simp -implicitDefEqProofs only [rX,↓rY,aA,cells?,↓reduceIte,Nat.reduceEqDiff,Nat.reduceAdd,reduceCtorEq,aC]
  have hnd:=Nc (ps:=ps) (rs:=rs) hcP
  generalize hNe:P.nN ps=N at *
  generalize hAe:P.cE ps rs=arcs at *
  have hZ1:=agY (ps:=ps) (rs:=rs)
  rw [hAe] at hZ1
  have hZ2:=agX (ps:=ps) (rs:=rs)
  have hZl:(ZL ps rs).length=arcs.length:=by rw [←hZ1,yam]
  refine dG [P.net N arcs,P.li cut] (.clo 83 [.ptr 0 0 0,.ptr 1 0 0]) (.clo 83 [.ptr 4 0 0,.ptr 5 0 0]) [.var [.i N,.ro 4 (arcs.map Arc.enc)],.var [P.li cut]] [.var [.i N,.ro 4 (arcs.map Arc.enc)],.var [P.li cut]] (adZ N arcs cut) (by simp [aF,aK,aU,bG,wkL,wk,wkR,P.net,P.li]) rfl rfl trivial ?_
  simp -implicitDefEqProofs only [rX]
  refine Ee 6 rfl rfl trivial ?_
  refine Uv (as':=[.itr 6,.ptr 4 0 0,.ptr 5 0 0]) (h':=Wn ps rs N arcs cut ([],[])) rfl ⟨_,.virt 2 1 (by decide) (.nilB 2 [.nil] [.sl 7 0 0] rfl ⟨rfl,fun i a b h1 h2=>?_⟩ (.nilB 3 [.nil] [.sl 8 0 0] rfl ⟨rfl,fun i a b h1 h2=>?_⟩ (.refl _))),?_⟩
   (agA (Inv:=fun i g=>g=(fPl (ZL ps rs) cut i,fRd (ZL ps rs) cut i)) (alB ps rs N arcs cut) (by omega) (by omega) hcl (fun x hx=>⟨(hcP.1 x hx).1,(hcP.1 x hx).2.1⟩) (fun x hx=>⟨(hV.ha x hx).1,(hV.ha x hx).2.1⟩) ?_ ?_ ?_ _ ?_)
  ·match i with
   | 0=>simp at h1 h2;subst h1 h2;exact .inr ⟨rfl,_,rfl⟩
   | i+1=>simp at h1
  ·match i with
   | 0=>simp at h1 h2;subst h1 h2;exact .inr ⟨rfl,_,rfl⟩
   | i+1=>simp at h1
  ·simp -implicitDefEqProofs only [rX,↓reduceIte,Nat.reduceEqDiff,Nat.reduceAdd,reduceCtorEq,leE,leH,leB,leV,bD,aE,aB,wfE,wfB,wfV,wfL,aG,aN,P.li,ybd]
   exact .inr trivial
  ·rintro i g hi rfl ho
   obtain ⟨hz,z1,z2⟩:=agW hAe hi
   rw [←z1] at ho
   rw [(f_n hz ho).1,(f_n hz ho).2]
  ·rintro i g hi rfl ho e bb Z he hZ
   obtain ⟨hz,z1,z2⟩:=agW hAe hi
   rw [←z1] at ho
   obtain ⟨l1,l2⟩:=Zd (Z:=ZL ps rs) (cut:=cut) (i:=i)
   have e1:=he.e0;have e2:=he.e4;have e3:=he.e23;have e4:=he.e24;have e5:=he.e25;have e6:=he.e43
   generalize hP:fPl (ZL ps rs) cut i=PL at *
   generalize hR:fRd (ZL ps rs) cut i=RL at *
   have tkP:yaf PL.length (yad P.encI PL)=yad P.encI PL:=yaj (by simp)
   have tkR:yaf RL.length (yad P.encI RL)=yad P.encI RL:=yaj (by simp)
   refine Lj 11 rfl rfl rfl ?_
   unfold c20a0
   simp -implicitDefEqProofs only [rX,rZ,↓rW,↓reduceIte,Nat.reduceEqDiff,Nat.reduceAdd,aM,aG,mE]
   unfold c20r0
   simp -implicitDefEqProofs only [rX,↓rY,↓reduceIte,Nat.reduceEqDiff,Nat.reduceAdd]
   refine aD (akB ps rs i hF _ z2) ⟨⟨aL.1,trivial,trivial⟩,aL.2,rfl,trivial⟩ rfl (by simp [aE,aB]) ?_
   cases hp:decide (0≤(ZL ps rs)[i].2.1) with
   | true =>
    have hp':=of_decide_eq_true hp
    obtain ⟨q1,q2⟩:=f_p hz ho hp'
    simp -implicitDefEqProofs only [rX,↓rY,rZ,↓rW,aA,cells?,splice,↓reduceIte,Nat.reduceEqDiff,Nat.reduceAdd,reduceCtorEq,aC,bZ,bP,bF,kill,bU,St.kill,isD,isC,Nat.reduceLT,tkP,tkR,hp]
    refine ⟨by omega,?_⟩
    have hz':=hZ (bP [7] e) (PL++[(ZL ps rs)[i].2.1],RL) [.var (bU [7] arcs[i].enc),.dead,.arr 1 [[.i (ZL ps rs)[i].2.1]],.dead] (E83.kill he (by decide)) (by rw [q1,q2,hP,hR])
    simp only [Wn,yak,yao,yas,yax,yar,yaC] at hz'
    exact hz'
   | false =>
    have hp':=of_decide_eq_false hp
    obtain ⟨q1,q2⟩:=f_r hz ho (by omega)
    simp -implicitDefEqProofs only [rX,↓rY,rZ,↓rW,aA,cells?,splice,↓reduceIte,Nat.reduceEqDiff,Nat.reduceAdd,reduceCtorEq,aC,bZ,bP,bF,kill,bU,St.kill,isD,isC,Nat.reduceLT,tkP,tkR,hp]
    refine ⟨by omega,?_⟩
    have hz':=hZ (bP [8] e) (PL,RL++[(ZL ps rs)[i].2.2]) [.var (bU [8] arcs[i].enc),.dead,.arr 1 [[.i (ZL ps rs)[i].2.2]],.dead] (E83.kill he (by decide)) (by rw [q1,q2,hP,hR])
    simp only [Wn,yak,yao,yas,yax,yar,yaC] at hz'
    exact hz'
  ·rintro g rfl
   obtain ⟨l1,l2⟩:=Zd (Z:=ZL ps rs) (cut:=cut) (i:=arcs.length)
   rw [←hZl] at l1 l2 ⊢
   rw [hr] at l2 ⊢
   generalize hP:fPl (ZL ps rs) cut (ZL ps rs).length=PL at *
   simp -implicitDefEqProofs only [rX,↓rY,rZ,↓rW,↓reduceIte,Nat.reduceEqDiff,Nat.reduceAdd,aB,wfE,wfB,wfV,wfL]
   have hpl:PL.length=(spP ps cut ps.length).length:=by rw [←hs,Lw]
   have hpb:(spP ps cut ps.length).length≤1000000:=by omega
   have o63:=akA PL (by omega)
   rw [hs,hpl] at o63
   have o64:=ajZ (spP ps cut ps.length) hpb Gu
   have w1:∀ f:Nat→Option Nat,bX f (.arr 1 (PL.map P.encI))=.arr 1 (PL.map P.encI):=fun f=>rfl
   rw [hpl]
   refine dA [7] [.sl 0 0 (spP ps cut ps.length).length] (.tup []) (.tup []) [.arr 1 (PL.map P.encI)] [.arr 1 ((spP ps cut ps.length).map P.encI)] _ o63 (by simp [aM]) rfl (by simp [aF,aK,aU,bG,wkL,wk,pos]) (by simp) rfl rfl trivial ?_
   simp -implicitDefEqProofs only [rX,↓rY,rdK,↓reduceIte,Nat.reduceEqDiff,Nat.reduceAdd,aG,bO,bX,List.set_cons_succ]
   refine dA [7] [.sl 0 0 (spP ps cut ps.length).length] (.sl 0 0 (spP ps cut ps.length).length) (.sl 7 0 (spP ps cut ps.length).length) [.arr 1 ((spP ps cut ps.length).map P.encI)] [.arr 1 ((spP ps cut ps.length).map P.encI)] _ o64 (by simp) rfl (by simp [aF,aK,aU,bG,wkL,wk,pos]) (by simp) rfl rfl trivial ?_
   simp -implicitDefEqProofs only [rX,↓reduceIte,Nat.reduceEqDiff,Nat.reduceAdd,bO,bX,List.set_cons_succ]
   rw [fH]
   simp -implicitDefEqProofs only [rX,↓reduceIte,Nat.reduceEqDiff,aQ,aT,aE,aB,wfV,wfL]
   have tkP:yaf (spP ps cut ps.length).length (yad P.encI (spP ps cut ps.length))=yad P.encI (spP ps cut ps.length):=yaj (by simp)
   have tkR:yaf (spR rs cut rs.length).length (yad P.encI (spR rs cut rs.length))=yad P.encI (spR rs cut rs.length):=yaj (by simp)
   refine ⟨[.dead,.dead,.dead,.dead,.dead,.dead,.dead,.arr 1 ((spP ps cut ps.length).map P.encI),.arr 1 ((spR rs cut rs.length).map P.encI)],⟨by simp [leH,leB],by simp [wfV,wfL,aB],by simp [wfB]⟩,?_⟩
   simp [Gv,gvV,gvL,wk,wkL,wkR,blk,P.li,tkP,tkR]
  ·rw [f_0.1,f_0.2]
set_option maxRecDepth 20000
open Go.Fx.P (Arc aJ)
theorem Yg {ps:List aJ} {cut:List Int} {k:Nat}:spP ps cut (k+1)=spP ps cut k++(if Cc ps cut k then [(k:Int)] else []):=by
 unfold spP
 rw [List.range_succ,yaz,yak]
 cases h:Cc ps cut k<;>simp [h]
theorem Yf {rs:List P.Road} {cut:List Int} {k:Nat}:spR rs cut (k+1)=spR rs cut k++(if Ij rs cut k then [(k:Int)] else []):=by
 unfold spR
 rw [List.range_succ,yaz,yak]
 cases h:Ij rs cut k<;>simp [h]
theorem Ly {ps:List aJ} {cut:List Int} {k:Nat}:(spP ps cut k).length≤k:=by
 unfold spP
 have:=yaS (Cc ps cut) (yag k)
 rw [yaJ] at this
 rw [yam];exact this
theorem Lx {rs:List P.Road} {cut:List Int} {k:Nat}:(spR rs cut k).length≤k:=by
 unfold spR
 have:=yaS (Ij rs cut) (yag k)
 rw [yaJ] at this
 rw [yam];exact this
abbrev h21 (ps:List aJ) (rs:List P.Road) (A B:List Int):List Blk:=[.var [.ro 3 (ps.map aJ.enc),.ro 4 (rs.map P.Road.enc)],.var [.any,.any],.var [.sl 3 0 A.length,.sl 4 0 B.length],.arr 1 (A.map P.encI),.arr 1 (B.map P.encI)]
set_option maxHeartbeats 2000000 in
theorem akV (ps:List aJ) (rs:List P.Road) (cut:List Int) (hF:eQ ps rs) (hcl:cut.length≤1000000):Ok 21 [P.bC ps rs,P.li cut] (Is (.agg [P.li (uW ps cut),P.li (uV ps rs cut)])):=by
 have hpl:=hF.pl
 have hrl:=hF.rl
 refine oY (ok_of lw21 (by simp) ?_)
 unfold c21 P.bC P.sps P.rds P.li
 simp -implicitDefEqProofs only [rX,↓rY,aA,cells?,splice,↓reduceIte,Nat.reduceEqDiff,Nat.reduceAdd,reduceCtorEq,aC,bJ,isC,aM,aN]
 refine aD (aeA ps rs cut hF hcl) ⟨⟨aL.1,trivial,trivial⟩,aL.2,⟨rfl,rfl⟩,trivial⟩ rfl trivial ?_
 unfold uW uV
 cases hc:iR (P.nN ps) cut with
 | false =>
  simp -implicitDefEqProofs only [rX,↓rY,cells?,splice,↓reduceIte,Nat.reduceEqDiff,Nat.reduceAdd,isC,aM]
  refine oW ?_
  simp -implicitDefEqProofs only [rX,↓rY,↓reduceIte,Nat.reduceEqDiff,Nat.reduceAdd,aQ,aT,wfV,wfL]
  simp [Gv,gvV,gvL,wk,wkL,wkR]
 | true =>
  simp -implicitDefEqProofs only [rX,↓rY,aA,↓reduceIte,Nat.reduceAdd,aG]
  refine tC (.virt 2 1 (by decide) (.nilB 2 [.nil,.nil] [.sl 3 0 0,.sl 4 0 0] rfl ⟨rfl,fun i a b h1 h2=>?_⟩ (.refl _))) (fun k:Nat=>(⟨[(7,.i k),(5,.ptr 2 0 0),(4,.ptr 1 0 0),(2,.ptr 0 0 0),(1,.ro 1 (cut.map P.encI))],h21 ps rs (spP ps cut k) [],0⟩:St)) (fun k=>k≤ps.length) (fun k=>ps.length-k) 0 (yai _) ?_ ?_
  ·match i with
   | 0=>simp at h1 h2;subst h1 h2;exact .inr ⟨rfl,_,rfl⟩
   | 1=>simp at h1 h2;subst h1 h2;exact .inr ⟨rfl,_,rfl⟩
   | i+2=>simp at h1
  ·exact ⟨by simp -implicitDefEqProofs only [rX,↓reduceIte,Nat.reduceEqDiff,reduceCtorEq,leE];rfl,⟨aH _,⟨trivial,trivial,trivial⟩,aH _,aH _,aH _,trivial⟩,trivial,by simp -implicitDefEqProofs only [rX,aB,wfE,wfV,h21],by simp -implicitDefEqProofs only [rX,aB,wfB,wfV,wfL,h21]⟩
  intro k hk N hN
  have hlk:=Ly (ps:=ps) (cut:=cut) (k:=k)
  have tkP:yaf (spP ps cut k).length (yad P.encI (spP ps cut k))=yad P.encI (spP ps cut k):=yaj (by simp)
  have b0:lo IntKind.i64≤(k:Int)+1∧(k:Int)+1≤Fx.hi IntKind.i64:=⟨by simp only [lo];omega,by simp only [Fx.hi];omega⟩
  have b1:lo IntKind.i64≤2*(k:Int)∧2*(k:Int)≤Fx.hi IntKind.i64:=⟨by simp only [lo];omega,by simp only [Fx.hi];omega⟩
  have b2:lo IntKind.i64≤2+2*(k:Int)∧2+2*(k:Int)≤Fx.hi IntKind.i64:=⟨by simp only [lo];omega,by simp only [Fx.hi];omega⟩
  have b3:lo IntKind.i64≤3+2*(k:Int)∧3+2*(k:Int)≤Fx.hi IntKind.i64:=⟨by simp only [lo];omega,by simp only [Fx.hi];omega⟩
  simp only [c21l0,h21]
  simp -implicitDefEqProofs only [rX,↓rY,aA,↓reduceIte,Nat.reduceEqDiff,Nat.reduceAdd,aG]
  intro hml
  cases h1:decide ((k:Int)<(ps.length:Int)) with
  | true =>
   have h1':=of_decide_eq_true h1
   have hk':k<ps.length:=by omega
   simp -implicitDefEqProofs only [↓rY]
   refine ⟨b1,b2,?_⟩
   refine aD (Ei cut (2+2*(k:Int))) (by simp [aF,aK,aU,bG,wkL,wk,wkR,wkB]) rfl trivial ?_
   simp -implicitDefEqProofs only [rX,↓rY,aA,↓reduceIte,Nat.reduceEqDiff,Nat.reduceAdd]
   refine ⟨b1,b3,?_⟩
   refine aD (Ei cut (3+2*(k:Int))) (by simp [aF,aK,aU,bG,wkL,wk,wkR,wkB]) rfl trivial ?_
   have hK1:P.isK ps 1 k=(ps[k].kind==1):=by rw [P.isK,yaa hk']
   have hK3:P.isK ps 3 k=(ps[k].kind==3):=by rw [P.isK,yaa hk']
   have finF:∀ (e:Env) (b:Nat),Cc ps cut k=false→get e 7=.v (.int .i64 ((k:Int)+1))→get e 5=.ptr 2 0 0→get e 4=.ptr 1 0 0→get e 2=.ptr 0 0 0→get e 1=.ro 1 (cut.map P.encI) →
     N ⟨e,h21 ps rs (spP ps cut k) [],b⟩:=by
    intro e b ht q7 q5 q4 q2 q1
    refine hN _ (k+1) (by omega) (by omega) ?_
    rw [Yg,ht]
    simp only [yaF,if_false,yaK]
    exact ⟨by simp -implicitDefEqProofs only [rX,leE,q7,q5,q4,q2,q1];rfl,aV _,trivial,by simp -implicitDefEqProofs only [rX,aB,wfE,wfV,h21],by simp -implicitDefEqProofs only [rX,aB,wfB,wfV,wfL,h21]⟩
   have finT:∀ (e:Env) (b:Nat) (tl:List Blk),Cc ps cut k=true→get e 7=.v (.int .i64 ((k:Int)+1))→get e 5=.ptr 2 0 0→get e 4=.ptr 1 0 0→get e 2=.ptr 0 0 0→get e 1=.ro 1 (cut.map P.encI) →
     N ⟨e,.var [.ro 3 (ps.map aJ.enc),.ro 4 (rs.map P.Road.enc)]::.var [.any,.any]::.var [.sl 3 0 ((spP ps cut k).length+1),.sl 4 0 0]::.arr 1 ((spP ps cut k).map P.encI++[[.i k]])::.arr 1 []::tl,b⟩:=by
    intro e b tl ht q7 q5 q4 q2 q1
    refine hN _ (k+1) (by omega) (by omega) ?_
    rw [Yg,ht]
    simp only [if_true]
    refine ⟨by simp -implicitDefEqProofs only [rX,leE,q7,q5,q4,q2,q1];rfl,?_,trivial,by simp -implicitDefEqProofs only [rX,aB,wfE,wfV,h21],by simp -implicitDefEqProofs only [rX,aB,wfB,wfV,wfL,h21]⟩
    simp only [h21,yao,yak,yas,yax,yar,yaC]
    exact ⟨aH _,aH _,aH _,aH _,aH _,by unfold leH;trivial⟩
   have hcn:Cc ps cut k=(hasB cut (2+2*(k:Int))&&!hasB cut (3+2*(k:Int))||ps[k].kind==1&&!hasB cut (2+2*(k:Int))||ps[k].kind==3&&hasB cut (3+2*(k:Int))):=by unfold Cc;rw [hK1,hK3]
   simp -implicitDefEqProofs only [rX,↓rY,aA,cells?,splice,↓reduceIte,Nat.reduceEqDiff,Nat.reduceAdd,reduceCtorEq,aC,bZ,bP,bF,kill,bU,St.kill,isD,isC,Nat.reduceLT,Nat.reduceLeDiff,yac,yab,aM,aG,yaa hk',P.sO]
   refine ⟨⟨by omega,by omega⟩,hk',?_⟩
   cases d1:hasB cut (2+2*(k:Int))<;>cases d2:hasB cut (3+2*(k:Int))<;>cases d3:(ps[k].kind==1)<;>cases d4:(ps[k].kind==3)<;>(
    rw [d1,d2,d3,d4] at hcn
    simp -implicitDefEqProofs only [rX,↓rY,tkP])
   all_goals first
    | exact ⟨b0,finF _ _ hcn rfl rfl rfl rfl rfl⟩
    | exact ⟨by omega,b0,finT _ _ _ hcn rfl rfl rfl rfl rfl⟩
  | false =>
   have h1':=of_decide_eq_false h1
   obtain rfl:k=ps.length:=by omega
   simp -implicitDefEqProofs only [↓rY]
   clear hN N
   generalize spP ps cut ps.length=A at *
   refine bN (fun k:Nat=>(⟨[(11,.i k),(5,.ptr 2 0 0),(4,.ptr 1 0 0),(2,.ptr 0 0 0),(1,.ro 1 (cut.map P.encI))],h21 ps rs A (spR rs cut k),0⟩:St)) (fun k=>k≤rs.length) (fun k=>rs.length-k) 0 (yai _) ?_ ?_
   ·exact ⟨by simp -implicitDefEqProofs only [rX,↓reduceIte,Nat.reduceEqDiff,leE];rfl,aV _,trivial,by simp -implicitDefEqProofs only [rX,aB,wfE,wfV,h21],by simp -implicitDefEqProofs only [rX,aB,wfB,wfV,wfL,h21]⟩
   intro j hj N hN
   have hlj:=Lx (rs:=rs) (cut:=cut) (k:=j)
   have tkR:yaf (spR rs cut j).length (yad P.encI (spR rs cut j))=yad P.encI (spR rs cut j):=yaj (by simp)
   have c0:lo IntKind.i64≤(j:Int)+1∧(j:Int)+1≤Fx.hi IntKind.i64:=⟨by simp only [lo];omega,by simp only [Fx.hi];omega⟩
   simp only [c21l1,h21]
   simp -implicitDefEqProofs only [rX,↓rY,aA,cells?,splice,↓reduceIte,Nat.reduceEqDiff,Nat.reduceAdd,isC,yac,yab,aM]
   intro hml2
   cases h2:decide ((j:Int)<(rs.length:Int)) with
   | false =>
    have h2':=of_decide_eq_false h2
    obtain rfl:j=rs.length:=by omega
    simp -implicitDefEqProofs only [↓rY]
    rw [fH]
    simp -implicitDefEqProofs only [rX,↓rY,↓reduceIte,Nat.reduceEqDiff,Nat.reduceAdd,aQ,aT,aE,aB,wfV,wfL]
    have tkA:yaf A.length (yad P.encI A)=yad P.encI A:=yaj (by simp)
    refine ⟨[.dead,.dead,.dead,.arr 1 (A.map P.encI),.arr 1 ((spR rs cut rs.length).map P.encI)],⟨by simp [leH,leB],by simp [wfV,wfL,aB],by simp [wfB]⟩,?_⟩
    simp [Gv,gvV,gvL,wk,wkL,wkR,blk,P.li,tkA,tkR]
   | true =>
    have h2':=of_decide_eq_true h2
    have hj':j<rs.length:=by omega
    simp -implicitDefEqProofs only [rX,↓rY,yaa hj',P.Jy]
    obtain ⟨s1,s2,_⟩:=(P.gJ hF.ok).2.2.h j hj' hj'
    have eR:rAt rs j=rs[j]:=by unfold rAt;rw [yaH,yaa hj'];rfl
    have cj:0≤(j:Int)∧(j:Int)<(rs.length:Int):=by omega
    have hcn:Ij rs cut j=(hasB cut (3+2*rs[j].from_)&&!hasB cut (2+2*rs[j].to)):=by unfold Ij;rw [eR]
    have finF:∀ (e:Env) (b:Nat),Ij rs cut j=false→get e 11=.v (.int .i64 ((j:Int)+1))→get e 5=.ptr 2 0 0→get e 4=.ptr 1 0 0→get e 2=.ptr 0 0 0→get e 1=.ro 1 (cut.map P.encI) →
      N ⟨e,h21 ps rs A (spR rs cut j),b⟩:=by
     intro e b ht q7 q5 q4 q2 q1
     refine hN _ (j+1) (by omega) (by omega) ?_
     rw [Yf,ht]
     simp only [yaF,if_false,yaK]
     exact ⟨by simp -implicitDefEqProofs only [rX,leE,q7,q5,q4,q2,q1];rfl,aV _,trivial,by simp -implicitDefEqProofs only [rX,aB,wfE,wfV,h21],by simp -implicitDefEqProofs only [rX,aB,wfB,wfV,wfL,h21]⟩
    refine ⟨cj,hj',⟨by simp only [lo];omega,by simp only [Fx.hi];omega⟩,⟨by simp only [lo];omega,by simp only [Fx.hi];omega⟩,?_⟩
    refine aD (Ei cut (3+2*rs[j].from_)) (by simp [aF,aK,aU,bG,wkL,wk,wkR,wkB]) rfl trivial ?_
    cases d1:hasB cut (3+2*rs[j].from_) with
    | false =>
     rw [d1,yap] at hcn
     simp -implicitDefEqProofs only [rX,↓rY,aA,↓reduceIte,Nat.reduceEqDiff,Nat.reduceAdd]
     exact ⟨c0,finF _ _ hcn rfl rfl rfl rfl rfl⟩
    | true =>
     simp -implicitDefEqProofs only [rX,↓rY,aA,↓reduceIte,Nat.reduceEqDiff,yac,yab,yaa hj',P.Jx]
     refine ⟨cj,hj',⟨by simp only [lo];omega,by simp only [Fx.hi];omega⟩,⟨by simp only [lo];omega,by simp only [Fx.hi];omega⟩,?_⟩
     refine aD (Ei cut (2+2*rs[j].to)) (by simp [aF,aK,aU,bG,wkL,wk,wkR,wkB]) rfl trivial ?_
     cases d2:hasB cut (2+2*rs[j].to) with
     | true =>
      rw [d1,d2] at hcn
      simp -implicitDefEqProofs only [rX,↓rY,aA,↓reduceIte,Nat.reduceEqDiff,Nat.reduceAdd]
      exact ⟨c0,finF _ _ hcn rfl rfl rfl rfl rfl⟩
     | false =>
      rw [d1,d2] at hcn
      simp -implicitDefEqProofs only [rX,↓rY,aA,cells?,splice,↓reduceIte,Nat.reduceEqDiff,Nat.reduceAdd,reduceCtorEq,aC,bZ,bP,bF,kill,bU,St.kill,isD,isC,Nat.reduceLT,aM,aG,tkR]
      refine ⟨by omega,c0,hN _ (j+1) (by omega) (by omega) ?_⟩
      rw [Yf,hcn]
      simp only [Bool.not_false,Bool.and_self,if_true]
      refine ⟨by simp -implicitDefEqProofs only [rX,↓reduceIte,Nat.reduceEqDiff,leE];rfl,?_,trivial,by simp -implicitDefEqProofs only [rX,aB,wfE,wfV,h21],by simp -implicitDefEqProofs only [rX,aB,wfB,wfV,wfL,h21]⟩
      simp only [h21,yao,yak,yas,yax,yar,yaC]
      exact ⟨aH _,aH _,aH _,aH _,aH _,by unfold leH;trivial⟩
set_option maxRecDepth 20000
open Go.Fx.P (Arc aJ)
theorem e9 {r:Rf} (h:r.sg.length=16):r.enc.length=24:=by unfold Rf.enc;simp [fN,h]
theorem sV {r:Rf} (h:r.sg.length=16):yaf 24 r.enc=r.enc:=yaj (by rw [e9 h];exact yat _)
theorem adO {r:Rf}:r.enc[0]?=some (.i r.place):=rfl
theorem adN {r:Rf}:r.enc[1]?=some (.i r.n):=rfl
theorem adM {r:Rf}:r.enc[2]?=some (.i r.win):=rfl
theorem adL {r:Rf}:r.enc[3]?=some (.i r.sent):=rfl
theorem Ra {q:List Blk} {r:Rf}:wfL q r.enc:=⟨trivial,trivial,trivial,trivial,trivial,trivial,trivial,trivial,cY⟩
abbrev bR (l:List Rf):V:=.bro 24 (l.map Rf.enc)
def mG (x y:Rf):Bool:=x.place==y.place&&x.n==y.n
def twR (l:List Rf) (x:Rf):Bool:=l.any (mG x)
def Bz (ps:List aJ) (rs:List P.Road) (l:List Rf) (k:Nat):Int :=
 match l[k]? with
 | none=>0
 | some r=>if r7 ps rs r≠0 then r7 ps rs r else if some r.win≠l.head?.map (·.win) then 1 else if twR (l.take k) r then 6 else if (k:Int)≥P.dem ps-r.sent then 4 else 0
def Fs (ps:List aJ) (rs:List P.Road) (l:List Rf):Int × Int :=
 match (yag l.length).find? (fun k=>Bz ps rs l k != 0) with
 | none=>(-1,0)
 | some k=>(k,Bz ps rs l k)
structure AlI (ps:List aJ) (rs:List P.Road) (l:List Rf) (k:Nat):Prop where
 le:k≤l.length
 h:∀ j,j<k→Bz ps rs l j=0
theorem AlI.at {ps:List aJ} {rs:List P.Road} {l:List Rf} {k:Nat} (h:AlI ps rs l k) (hk:k<l.length) (he:Bz ps rs l k≠0):Fs ps rs l=((k:Int),Bz ps rs l k):=by
 unfold Fs
 have:(yag l.length).find? (fun k=>Bz ps rs l k != 0)=some k:=by
  rw [List.find?_eq_some_iff_getElem]
  refine ⟨by simpa using he,k,by simpa using hk,by simp,fun j hj=>?_⟩
  simp [h.h j hj]
 rw [this]
theorem AlI.all {ps:List aJ} {rs:List P.Road} {l:List Rf} (h:AlI ps rs l l.length):Fs ps rs l=(-1,0):=by
 unfold Fs
 have:(yag l.length).find? (fun k=>Bz ps rs l k != 0)=none:=by
  rw [List.find?_eq_none]
  intro k hk
  have:=h.h k (by simpa using hk)
  simp [this]
 rw [this]
theorem AlI.next {ps:List aJ} {rs:List P.Road} {l:List Rf} {k:Nat} (h:AlI ps rs l k) (hk:k<l.length) (he:Bz ps rs l k=0):AlI ps rs l (k+1):=⟨by omega,fun j hj=>by
 by_cases e:j=k
 ·subst e;exact he
 ·exact h.h j (by omega)⟩
theorem Tk {ps:List aJ} {rs:List P.Road} {l:List Rf} {k:Nat} (hk:k<l.length) (h0:0<l.length):Bz ps rs l k=if r7 ps rs l[k]≠0 then r7 ps rs l[k] else if l[k].win≠l[0].win then 1 else if twR (l.take k) l[k] then 6 else if (k:Int)≥P.dem ps-l[k].sent then 4 else 0:=by
 unfold Bz
 rw [yaa hk]
 have:l.head?.map (·.win)=some l[0].win:=by
  cases l with
  | nil=>simp at h0
  | cons x r=>rfl
 simp only [this,ne_eq,yaI]
def Wk (x:Rf):Value:=.agg #[.int .i64 x.place,.int .i64 x.n]
def u0:List Rf→Nat→List (Value × V × Nat)
 | [],_=>[]
 | x::l,i=>(Wk x,.b true,i)::u0 l (i+1)
theorem Ic:∀ {l:List Rf} {i:Nat} {x:Rf},u0 (l++[x]) i=u0 l i++[(Wk x,.b true,i+l.length)]
 | [],i,x=>rfl
 | y::l,i,x=>by
  simp only [List.cons_append,u0,Ic,yas]
  rw [show i+1+l.length=i+(l.length+1) by omega]
abbrev rfK:List (Nat × TypeDesc):=[(0,.int .i64),(1,.int .i64)]
theorem uZ:∀ {l:List Rf} {i:Nat},pZ rfK (u0 l i)
 | [],_=>fun e he=>by cases he
 | x::l,i=>fun e he=>by
  rcases yae.1 he with rfl|he
  ·exact ⟨_,rfl,rfl,rfl⟩
  ·exact uZ e he
theorem Mv:∀ {l:List Rf} {x:Rf} {i j:Nat},fL [.int .i64 x.place,.int .i64 x.n] (u0 l i) j=if twR l x then some (j+l.findIdx (mG x),.b true) else none
 | [],x,i,j=>rfl
 | y::l,x,i,j=>by
  simp only [u0,fL,Wk,Mv]
  have key:(List.zip [Value.int .i64 x.place,.int .i64 x.n] (#[Value.int .i64 y.place,.int .i64 y.n]:Array Value).toList).all (fun p=>eqK p.1 p.2)=mG x y:=by
   simp [eqK,mG]
  rw [key]
  cases h:mG x y with
  | true=>simp [twR,h,List.findIdx_cons]
  | false =>
   simp only [twR,List.any_cons,h,Bool.false_or,List.findIdx_cons,yaF,if_false,cond_false]
   by_cases h2:l.any (mG x)=true
   ·simp only [h2,if_true];congr 2;omega
   ·simp only [h2,yaF,if_false]
theorem Fg {h:List Blk}:∀ {l:List Rf} {i:Nat},wfL h ((u0 l i).map fun x=>x.2.1)
 | [],_=>by simp [u0,wfL]
 | x::l,i=>by
  simp only [u0,yar,wfL]
  exact ⟨by simp [wfV],Fg⟩
theorem Ue {ps:List aJ} {rs:List P.Road} {r:Rf} (h:r7 ps rs r=0):lE ps rs r=true∧∃ x,fO ps r.place=some x∧0≤r.n∧r.n<x.cap:=by
 unfold r7 at h
 split at h
 ·cases h
 ·rename_i x hx
  by_cases h1:r.n<0∨x.cap≤r.n∨Ap r.win=false
  ·rw [if_pos h1] at h;cases h
  ·rw [if_neg h1] at h
   by_cases h2:lE ps rs r=true
   ·exact ⟨h2,x,hx,by omega,by omega⟩
   ·rw [if_neg h2] at h;cases h
theorem Mb {ps:List aJ} {rs:List P.Road} {r:Rf} (hF:eQ ps rs) (h:lE ps rs r=true):0≤r.sent∧r.sent<P.dem ps:=by
 unfold lE at h
 simp only [yaA,decide_eq_true_eq,beq_iff_eq] at h
 have:=Nr (cut:=r.cut) (fun a ha=>(hF.net.ha a ha).2.2.2.1) (yat (P.cE ps rs).length)
 have e:bnd (P.cE ps rs) r.cut=sA (P.cE ps rs) r.cut (P.cE ps rs).length:=rfl
 omega
theorem Ze {ps:List aJ} {rs:List P.Road} (hF:eQ ps rs):0≤P.dem ps∧P.dem ps≤10737418240:=by
 have hcap:=(P.gJ hF.ok).2.1
 have h1:=P.yE hcap (P.ofN ps 1 ps.length)
 have h2:=P.fI (ps:=ps) (kind:=1) (n:=ps.length)
 have:=hF.pl
 unfold P.dem
 omega
set_option maxHeartbeats 2000000 in
theorem aeH (ps:List aJ) (rs:List P.Road) (l:List Rf) (hF:eQ ps rs) (hll:l.length≤1000000) (hsg:∀ r∈l,r.sg.length=16) (hcl:∀ r∈l,r.cut.length≤1000000):Ok 23 [P.bC ps rs,bR l] (Is (.tup [.i (Fs ps rs l).1,.i (Fs ps rs l).2])):=by
 have hdb:=Ze hF
 refine ok_of lw23 (by simp) ?_
 unfold c23 P.bC
 simp -implicitDefEqProofs only [rX,↓rY,aA,cells?,↓reduceIte,Nat.reduceEqDiff,Nat.reduceAdd,aC,aN]
 refine aD hF.e55 ⟨⟨aL.1,trivial⟩,aL.2,trivial⟩ rfl trivial ?_
 simp -implicitDefEqProofs only [rX,↓rY,aA,↓reduceIte,Nat.reduceEqDiff,Nat.reduceAdd,reduceCtorEq,aC,aG]
 intro hml
 refine bN (fun k:Nat=>(⟨[(17,.i k),(16,.i l.length),(15,bR l),(7,.mp 1),(6,.i (P.dem ps)),(2,.ptr 0 0 0),(1,bR l)],[.var [P.sps ps,P.rds rs],.map (u0 (l.take k) 0) k],0⟩:St)) (AlI ps rs l) (fun k=>l.length-k) 0 ⟨yai _,fun j h=>by omega⟩ ?_ ?_
 ·refine ⟨by simp -implicitDefEqProofs only [rX,↓reduceIte,Nat.reduceEqDiff,reduceCtorEq,leE];rfl,⟨aH _,by rw [List.take_zero];exact aH _,trivial⟩,trivial,by simp -implicitDefEqProofs only [rX,aB,wfE,wfV],by simp -implicitDefEqProofs only [rX,wfB,wfV,wfL,P.sps,P.rds];exact Fg⟩
 intro k hI N hN
 have hle:=hI.le
 have b0:lo IntKind.i64≤(k:Int)+1∧(k:Int)+1≤Fx.hi IntKind.i64:=⟨by simp only [lo];omega,by simp only [Fx.hi];omega⟩
 simp only [c23l0]
 simp -implicitDefEqProofs only [rX,↓rY,aA,cells?,splice,↓reduceIte,Nat.reduceEqDiff,Nat.reduceAdd,aC,aQ,aT,wfV,wfL,yac,yab,aM]
 cases h1:decide ((k:Int)<(l.length:Int)) with
 | false =>
  have h1':=of_decide_eq_false h1
  obtain rfl:k=l.length:=by omega
  rw [hI.all]
  simp -implicitDefEqProofs only [↓rY]
 | true =>
  have h1':=of_decide_eq_true h1
  have hk:k<l.length:=by omega
  have hs:=hsg _ (yah hk)
  have he:=Tk (ps:=ps) (rs:=rs) hk (by omega)
  simp -implicitDefEqProofs only [rX,↓rY,yaa hk,e9 hs,sV hs,Ef,Be]
  refine ⟨⟨by omega,by omega⟩,hk,?_⟩
  refine aD (aaW ps rs l[k] hF (hcl _ (yah hk))) ⟨⟨aL.1,(cZ rfl).1,trivial⟩,aL.2,(cZ rfl).2,trivial⟩ rfl trivial ?_
  cases d1:(r7 ps rs l[k] != 0) with
  | true =>
   have d1':=bne_iff_ne.1 d1
   rw [if_pos d1'] at he
   rw [hI.at hk (by rw [he];exact d1'),he]
   simp -implicitDefEqProofs only [rX,↓rY,aA,cells?,splice,↓reduceIte,Nat.reduceEqDiff,Nat.reduceAdd,aC,bJ,aQ,aT,wfV,wfL,Nat.reduceLeDiff,yac,aM,d1]
  | false =>
   have d1':r7 ps rs l[k]=0:=by simpa using d1
   obtain ⟨hsh,x,hx,hn1,hn2⟩:=Ue d1'
   have hsb:=Mb hF hsh
   rw [if_neg (by simp [d1'])] at he
   have h0:0<l.length:=by omega
   have hs0:=hsg _ (yah h0)
   have e0:(l.map Rf.enc)[0]?=some l[0].enc:=by rw [yaD,yaa h0];rfl
   simp -implicitDefEqProofs only [rX,↓rY,aA,cells?,splice,↓reduceIte,Nat.reduceEqDiff,Nat.reduceAdd,aC,bJ,aQ,aT,wfV,wfL,isC,Nat.reduceLeDiff,yac,aM,d1,yaa hk,yaa h0,e9 hs,e9 hs0,adO,adN,adM,adL]
   refine ⟨⟨by omega,by omega⟩,h0,?_⟩
   have t0:Int.toNat 0=0:=rfl
   simp only [t0]
   cases d2:(l[k].win != l[0].win) with
   | true =>
    have d2':=bne_iff_ne.1 d2
    rw [if_pos d2'] at he
    rw [hI.at hk (by rw [he];decide),he]
    simp only [wc]
   | false =>
    have d2':l[k].win=l[0].win:=by simpa using d2
    rw [if_neg (by simp [d2'])] at he
    simp only [wd,Mv]
    refine ⟨rfl,uZ,?_⟩
    cases d3:twR (l.take k) l[k] with
    | true =>
     rw [if_pos d3] at he
     rw [hI.at hk (by rw [he];decide),he]
     simp [eB,brV,br]
    | false =>
     rw [if_neg (by simp [d3])] at he
     simp only [yaF,if_false,eB,aA,brV,wd]
     refine ⟨⟨by simp only [lo];omega,by simp only [Fx.hi];omega⟩,?_⟩
     cases d4:decide (P.dem ps-l[k].sent≤(k:Int)) with
     | true =>
      have d4':=of_decide_eq_true d4
      rw [if_pos (by omega)] at he
      rw [hI.at hk (by rw [he];decide),he]
      simp only [wc]
     | false =>
      have d4':=of_decide_eq_false d4
      rw [if_neg (by omega)] at he
      simp only [wd,gM]
      refine ⟨rfl,uZ,b0,hN _ (k+1) (hI.next hk he) (by omega) ?_⟩
      have ent:u0 (l.take (k+1)) 0=u0 (l.take k) 0++[(Wk l[k],.b true,k)]:=by
       rw [List.take_succ_eq_append_getElem hk,Ic,yaE,show 0+min k l.length=k by omega]
      refine ⟨by simp -implicitDefEqProofs only [rX,↓reduceIte,Nat.reduceEqDiff,leE];rfl,⟨aH _,by rw [ent];exact aH _,by unfold leH;trivial⟩,trivial,by simp -implicitDefEqProofs only [rX,aB,wfE,wfV],by simp -implicitDefEqProofs only [rX,wfB,wfV,wfL,P.sps,P.rds];exact Fg⟩
theorem aaC {l:List Rf} {k:Nat} {x:Rf} (hk:k≤l.length) (h:∀ j (hj:j<l.length),j<k→mG x l[j]=false):twR (l.take k) x=false:=by
 unfold twR
 rw [List.any_eq_false]
 intro y hy
 obtain ⟨j,hj,rfl⟩:=yaG hy
 rw [yaE] at hj
 rw [List.getElem_take]
 simp [h j (by omega) (by omega)]
theorem Vq {l:List Rf} {k j:Nat} {x:Rf} (hj:j<l.length) (hjk:j<k) (h:mG x l[j]=true):twR (l.take k) x=true:=by
 unfold twR
 rw [List.any_eq_true]
 exact ⟨l[j],List.mem_iff_getElem.2 ⟨j,by rw [yaE];omega,by rw [List.getElem_take]⟩,h⟩
set_option maxHeartbeats 2000000 in
theorem akU (ps:List aJ) (rs:List P.Road) (l:List Rf) (hF:eQ ps rs) (hll:l.length≤1000000) (hsg:∀ r∈l,r.sg.length=16) (hcl:∀ r∈l,r.cut.length≤1000000):Ok 24 [P.bC ps rs,bR l] (Is (.agg [.i (Fs ps rs l).1,.i (Fs ps rs l).2])):=by
 have hdb:=Ze hF
 refine ok_of lw24 (by simp) ?_
 unfold c24 P.bC
 simp -implicitDefEqProofs only [rX,↓rY,aA,cells?,↓reduceIte,Nat.reduceAdd,aC,aG,aN]
 refine bN (fun k:Nat=>(⟨[(5,.i k),(4,.ptr 1 0 0),(2,.ptr 0 0 0),(1,bR l)],[.var [P.sps ps,P.rds rs],.var [.i 0,.i 0]],2⟩:St)) (AlI ps rs l) (fun k=>l.length-k) 0 ⟨yai _,fun j h=>by omega⟩ ?_ ?_
 ·exact ⟨by simp -implicitDefEqProofs only [rX,↓reduceIte,Nat.reduceEqDiff,reduceCtorEq,leE];rfl,aV _,trivial,by simp -implicitDefEqProofs only [rX,aB,wfE,wfV],by simp -implicitDefEqProofs only [rX,wfB,wfV,wfL,P.sps,P.rds]⟩
 intro k hI N hN
 have hle:=hI.le
 have b0:lo IntKind.i64≤(k:Int)+1∧(k:Int)+1≤Fx.hi IntKind.i64:=⟨by simp only [lo];omega,by simp only [Fx.hi];omega⟩
 simp only [c24l0]
 simp -implicitDefEqProofs only [rX,↓rY,aA,cells?,splice,↓reduceIte,Nat.reduceEqDiff,Nat.reduceAdd,aC,bJ,aQ,aT,wfV,wfL,isC,Nat.reduceLeDiff,yac,yab,aM]
 intro hml
 cases h1:decide ((k:Int)<(l.length:Int)) with
 | false =>
  have h1':=of_decide_eq_false h1
  obtain rfl:k=l.length:=by omega
  rw [hI.all]
  simp -implicitDefEqProofs only [↓rY]
 | true =>
  have h1':=of_decide_eq_true h1
  have hk:k<l.length:=by omega
  have hs:=hsg _ (yah hk)
  have he:=Tk (ps:=ps) (rs:=rs) hk (by omega)
  simp -implicitDefEqProofs only [rX,↓rY,yaa hk,e9 hs,sV hs,Ef,Be]
  refine ⟨⟨by omega,by omega⟩,hk,?_⟩
  refine aD (aeP ps rs l[k] hF (hcl _ (yah hk))) ⟨⟨aL.1,(cZ rfl).1,trivial⟩,aL.2,(cZ rfl).2,trivial⟩ rfl trivial ?_
  cases d1:(r7 ps rs l[k] != 0) with
  | true =>
   have d1':=bne_iff_ne.1 d1
   rw [if_pos d1'] at he
   rw [hI.at hk (by rw [he];exact d1'),he]
   simp -implicitDefEqProofs only [rX,↓rY,aA,cells?,splice,↓reduceIte,Nat.reduceEqDiff,Nat.reduceAdd,bJ,aQ,aT,wfV,wfL,isC,Nat.reduceLeDiff,yac,aM,aG,d1]
  | false =>
   have d1':r7 ps rs l[k]=0:=by simpa using d1
   obtain ⟨hsh,x,hx,hn1,hn2⟩:=Ue d1'
   have hsb:=Mb hF hsh
   rw [if_neg (by simp [d1'])] at he
   have h0:0<l.length:=by omega
   have hs0:=hsg _ (yah h0)
   have e0:(l.map Rf.enc)[0]?=some l[0].enc:=by rw [yaD,yaa h0];rfl
   have t0:Int.toNat 0=0:=rfl
   simp -implicitDefEqProofs only [rX,↓rY,aA,cells?,splice,↓reduceIte,Nat.reduceEqDiff,Nat.reduceAdd,bJ,aQ,aT,wfV,wfL,isC,Nat.reduceLeDiff,yac,aM,aG,d1,yaa hk,yaa h0,e9 hs,e9 hs0,adM]
   refine ⟨⟨by omega,by omega⟩,h0,?_⟩
   simp only [t0]
   cases d2:(l[k].win != l[0].win) with
   | true =>
    have d2':=bne_iff_ne.1 d2
    rw [if_pos d2'] at he
    rw [hI.at hk (by rw [he];decide),he]
    simp only [wc]
   | false =>
    have d2':l[k].win=l[0].win:=by simpa using d2
    rw [if_neg (by simp [d2'])] at he
    simp only [wd]
    refine bN (fun j:Nat=>(⟨[(8,.i j),(6,.ptr 2 0 0),(5,.i k),(4,.ptr 1 0 0),(2,.ptr 0 0 0),(1,bR l)],[.var [P.sps ps,P.rds rs],.var [.i 0,.i 0],.var l[k].enc],3⟩:St)) (fun j=>j≤k∧∀ i (hi:i<l.length),i<j→mG l[k] l[i]=false) (fun j=>k-j) 0 ⟨yai _,fun i _ h=>by omega⟩ ?_ ?_
    ·exact ⟨by simp -implicitDefEqProofs only [rX,↓reduceIte,Nat.reduceEqDiff,leE];rfl,aV _,trivial,by simp -implicitDefEqProofs only [rX,aB,wfE,wfV],by simp -implicitDefEqProofs only [rX,wfB,wfV,wfL,P.sps,P.rds];exact Ra⟩
    rintro j ⟨hj,hjn⟩ N1 hN1
    simp only [c24l1]
    simp -implicitDefEqProofs only [rX,↓rY,rdK,aA,cells?,splice,↓reduceIte,Nat.reduceEqDiff,Nat.reduceAdd,bJ,aQ,aT,wfV,wfL,isC,Nat.reduceLeDiff,yac,yab,aM,aG]
    cases h3:decide ((j:Int)<(k:Int)) with
    | true =>
     have h3':=of_decide_eq_true h3
     have hjl:j<l.length:=by omega
     have hsj:=hsg _ (yah hjl)
     simp -implicitDefEqProofs only [rX,↓rY,yaa hjl,e9 hsj,adO,adN]
     have bj:0≤(j:Int)∧(j:Int)<(l.length:Int):=by omega
     have c0:lo IntKind.i64≤(j:Int)+1∧(j:Int)+1≤Fx.hi IntKind.i64:=⟨by simp only [lo];omega,by simp only [Fx.hi];omega⟩
     have nxt:∀ (e:Env) (b:Nat),mG l[k] l[j]=false→get e 8=.v (.int .i64 ((j:Int)+1))→get e 6=.ptr 2 0 0→get e 5=.i k→get e 4=.ptr 1 0 0→get e 2=.ptr 0 0 0→get e 1=bR l→N1 ⟨e,[.var [P.sps ps,P.rds rs],.var [.i 0,.i 0],.var l[k].enc],b⟩:=by
      intro e b hn q8 q6 q5 q4 q2 q1
      refine hN1 _ (j+1) ⟨by omega,fun i hi hlt=>?_⟩ (by omega) ?_
      ·by_cases e:i=j
       ·subst e;exact hn
       ·exact hjn i hi (by omega)
      ·exact ⟨by simp -implicitDefEqProofs only [rX,leE,q8,q6,q5,q4,q2,q1];rfl,aV _,trivial,by simp -implicitDefEqProofs only [rX,aB,wfE,wfV],by simp -implicitDefEqProofs only [rX,wfB,wfV,wfL,P.sps,P.rds];exact Ra⟩
     refine ⟨bj,hjl,?_⟩
     cases h4:(l[j].place==l[k].place) with
     | false =>
      simp only [wd]
      have:=ne_of_beq_false h4
      exact ⟨c0,nxt _ _ (by unfold mG;rw [beq_eq_false_iff_ne.2 (fun h=>this h.symm)];rfl) rfl rfl rfl rfl rfl rfl⟩
     | true =>
      have h4':=eq_of_beq h4
      simp only [wc]
      refine ⟨bj,hjl,?_⟩
      cases h5:(l[j].n==l[k].n) with
      | false =>
       simp only [wd]
       have:=ne_of_beq_false h5
       exact ⟨c0,nxt _ _ (by unfold mG;rw [beq_eq_false_iff_ne.2 (fun h=>this h.symm),Bool.and_false]) rfl rfl rfl rfl rfl rfl⟩
      | true =>
       have h5':=eq_of_beq h5
       simp only [wc]
       have htw:=Vq (x:=l[k]) hjl (show j<k by omega) (by unfold mG;rw [h4',h5'];simp)
       rw [if_pos htw] at he
       rw [hI.at hk (by rw [he];decide),he]
    | false =>
     have h3':=of_decide_eq_false h3
     obtain rfl:j=k:=by omega
     have htw:=aaC (x:=l[j]) hle hjn
     rw [if_neg (by simp [htw])] at he
     simp -implicitDefEqProofs only [↓rY,adL]
     refine aD hF.e28 ⟨⟨aL.1,trivial⟩,aL.2,trivial⟩ rfl trivial ?_
     simp -implicitDefEqProofs only [rX,↓rY,aA,cells?,splice,↓reduceIte,Nat.reduceEqDiff,Nat.reduceAdd,bJ,aQ,aT,wfV,wfL,isC,Nat.reduceLeDiff,aM]
     refine ⟨⟨by simp only [lo];omega,by simp only [Fx.hi];omega⟩,?_⟩
     cases d4:decide (P.dem ps-l[j].sent≤(j:Int)) with
     | true =>
      have d4':=of_decide_eq_true d4
      rw [if_pos (by omega)] at he
      rw [hI.at hk (by rw [he];decide),he]
      simp only [wc]
     | false =>
      have d4':=of_decide_eq_false d4
      rw [if_neg (by omega)] at he
      simp only [wd]
      refine ⟨b0,hN _ (j+1) (hI.next hk he) (by omega) ?_⟩
      exact ⟨by simp -implicitDefEqProofs only [rX,↓reduceIte,Nat.reduceEqDiff,leE];rfl,⟨aH _,aH _,by unfold leH;trivial⟩,trivial,by simp -implicitDefEqProofs only [rX,aB,wfE,wfV],by simp -implicitDefEqProofs only [rX,wfB,wfV,wfL,P.sps,P.rds]⟩
set_option maxRecDepth 20000
open Go.Fx.P (Arc aJ)
theorem aaV (l:List Int) (hl:l.length≤1000000000):Ok 22 [bI' l,bI' l] (Is (.b true)):=by
 refine ok_of lw22 (by simp) ?_
 unfold c22
 simp -implicitDefEqProofs only [rX,↓rY,aA,↓reduceIte,Nat.reduceEqDiff,reduceCtorEq,aG,aN,bne_self_eq_false]
 intros
 refine bN (fun j:Nat=>(⟨[(5,.i j),(1,bI' l),(0,bI' l)],[],0⟩:St)) (fun j=>j≤l.length) (fun j=>l.length-j) 0 (yai _) ?_ ?_
 ·exact ⟨by simp -implicitDefEqProofs only [rX,↓reduceIte,Nat.reduceEqDiff,reduceCtorEq,leE];rfl,aV _,trivial,by simp -implicitDefEqProofs only [rX,wfE,wfV],by simp -implicitDefEqProofs only [wfB]⟩
 intro j hj N hN
 simp only [c22l0]
 simp -implicitDefEqProofs only [rX,↓rY,aA,↓reduceIte,Nat.reduceEqDiff,reduceCtorEq,aQ,aT,wfV,yac,yab]
 intro hml
 cases h1:decide ((j:Int)<(l.length:Int)) with
 | true =>
  have h1':=of_decide_eq_true h1
  have hj':j<l.length:=by omega
  have bj:0≤(j:Int)∧(j:Int)<(l.length:Int):=by omega
  simp -implicitDefEqProofs only [rX,↓rY,yaa hj',P.cM,bne_self_eq_false]
  refine ⟨bj,hj',bj,hj',⟨by simp only [lo];omega,by simp only [Fx.hi];omega⟩,hN _ (j+1) (by omega) (by omega) ?_⟩
  exact ⟨by simp -implicitDefEqProofs only [rX,↓reduceIte,Nat.reduceEqDiff,reduceCtorEq,leE];rfl,aV _,trivial,by simp -implicitDefEqProofs only [rX,wfE,wfV],by simp -implicitDefEqProofs only [wfB]⟩
 | false =>
  have h1':=of_decide_eq_false h1
  simp -implicitDefEqProofs only [↓rY]
open Classical in
noncomputable def Td (ps:List aJ) (rs:List P.Road):Bool:=decide (eQ ps rs)
open Classical in
theorem ok8 (ps:List aJ) (rs:List P.Road):Ok 8 [P.bC ps rs] (Is (.b (Td ps rs))):=by
 refine ok_of lw8 (by simp) ?_
 unfold c8 P.bC P.sps P.rds Td
 simp -implicitDefEqProofs only [rX,↓rY,aA,cells?,↓reduceIte,Nat.reduceEqDiff,Nat.reduceAdd,aC,aQ,aT,wfV,aN]
 intro _
 cases h1:decide ((ps.length:Int)≤6) with
 | false =>
  have h1':=of_decide_eq_false h1
  simp -implicitDefEqProofs only [↓rY]
  rw [decide_eq_false fun q:eQ ps rs=>h1' (by have:=q.pl;omega)]
 | true =>
  have h1':=of_decide_eq_true h1
  simp -implicitDefEqProofs only [↓rY]
  intro _
  cases h2:decide ((rs.length:Int)≤20) with
  | false =>
   have h2':=of_decide_eq_false h2
   simp -implicitDefEqProofs only [↓rY]
   rw [decide_eq_false fun q:eQ ps rs=>h2' (by have:=q.rl;omega)]
  | true =>
   have h2':=of_decide_eq_true h2
   simp -implicitDefEqProofs only [↓rY]
   refine aD (P.akP ps rs) ⟨⟨⟨trivial,trivial,trivial⟩,trivial⟩,⟨⟨rfl,rfl⟩,⟨rfl,rfl⟩,trivial⟩,trivial⟩ rfl trivial ?_
   simp -implicitDefEqProofs only [rX,↓rY,aA,↓reduceIte,Nat.reduceEqDiff,aQ,aT,wfV]
   by_cases h3:P.fU ps rs=0
   ·rw [h3,decide_eq_true (⟨h3,by omega,by omega⟩:eQ ps rs)];rfl
   ·rw [decide_eq_false fun q:eQ ps rs=>h3 q.ok,beq_eq_false_iff_ne.2 h3]
def keyK (n:Int):Ky:=⟨1000+n,1,[115],0,1099511627776⟩
theorem Kc (n:Int) (hn:-1000000≤n∧n≤1000000):Ok 30 [.i n] (Is (.agg (keyK n).enc)):=by
 refine ok_of lw30 (by simp) ?_
 unfold c30
 simp -implicitDefEqProofs only [rX,↓rY,aA,cells?,splice,↓reduceIte,Nat.reduceEqDiff,Nat.reduceAdd,reduceCtorEq,aC,bJ,aQ,aT,wfV,wfL,isC,Nat.reduceLeDiff,aM,aN]
 exact ⟨⟨by simp only [lo];omega,by simp only [Fx.hi];omega⟩,rfl⟩
set_option maxRecDepth 20000
open Go.Fx.P (Arc aJ)
def Uk (e:Env):List V→List (Nat × Nat × Operand)→Option V
 | acc,[]=>some (.agg acc)
 | acc,(off,sz,x)::r=>match cells? (ev e x) with
  | some cs=>if cs.length=sz∧off+sz≤acc.length then Uk e (splice acc off cs) r else none
  | none=>none
theorem Ns {e:Env} {K:V→Prop} {y:V}:∀ (ps:List (Nat × Nat × Operand)) (acc:List V),Uk e acc ps=some y→K y→bJ e acc ps K
 | [],acc,h,hK=>by
  simp only [Uk,yaI] at h
  subst h;exact hK
 | (off,sz,x)::r,acc,h,hK=>by
  simp only [Uk] at h
  simp only [bJ]
  cases hc:cells? (ev e x) with
  | none=>rw [hc] at h;exact absurd h (by simp)
  | some cs =>
   rw [hc] at h
   simp only at h
   split at h
   ·next q=>exact ⟨q,Ns r _ h hK⟩
   ·exact absurd h (by simp)
def Sj (e:Env) (sz:Nat):List (List V)→List (Nat × Operand)→Option (List (List V))
 | acc,[]=>some acc
 | acc,(i,x)::r=>match cells? (ev e x) with
  | some cs=>if (cs.length=sz∧i<acc.length)∧cs.all isD=true then Sj e sz (acc.set i cs) r else none
  | none=>none
theorem Mx {e:Env} {sz:Nat} {K:List (List V)→Prop} {y:List (List V)}:∀ (ps:List (Nat × Operand)) (acc:List (List V)),Sj e sz acc ps=some y→K y→bZ e sz acc ps K
 | [],acc,h,hK=>by
  simp only [Sj,yaI] at h
  subst h;exact hK
 | (i,x)::r,acc,h,hK=>by
  simp only [Sj] at h
  simp only [bZ]
  cases hc:cells? (ev e x) with
  | none=>rw [hc] at h;exact absurd h (by simp)
  | some cs =>
   rw [hc] at h
   simp only at h
   split at h
   ·next q=>exact ⟨q,Mx r _ h hK⟩
   ·exact absurd h (by simp)
theorem Kx {cx:Cx} {d:Option Nat} {z:List Value} {ps:List (Nat × Nat × Operand)} {r:List bT} {s:St} {Ks:St→Prop} (y:V)
  (hy:Uk s.e (z.map .v) ps=some y) (hK:eW cx r (s.put d y) Ks):eW cx (⟨d,.build z ps,none⟩::r) s Ks :=
 Ns (K:=fun y=>eW cx r (s.put d y) Ks) ps _ hy hK
theorem Si {cx:Cx} {d:Option Nat} {z:List Value} {j sz n:Nat} {ps:List (Nat × Operand)} {r:List bT} {s:St} {Ks:St→Prop} (els:List (List V))
  (hy:Sj s.e sz (yaU n (z.map .v)) ps=some els) (hf:aC s.h (s.b+j))
  (hK:eW cx r (St.put { s with h:=s.h.set (s.b+j) (.arr sz els) } d (.sl (s.b+j) 0 n)) Ks):eW cx (⟨d,.lits j sz n z ps,none⟩::r) s Ks :=
 Mx (K:=fun els=>aC s.h (s.b+j)∧eW cx r (St.put { s with h:=s.h.set (s.b+j) (.arr sz els) } d (.sl (s.b+j) 0 n)) Ks) ps _ hy ⟨hf,hK⟩
def eA:List aJ:=[⟨1,1,5⟩,⟨1,2,3⟩,⟨2,10,6⟩,⟨3,7,4⟩]
def eP:List P.Road:=[⟨0,2,9,1⟩,⟨1,2,9,2⟩,⟨2,3,9,1⟩,⟨1,3,1,5⟩]
theorem akO:Ok 33 [] (Is (P.bC eA eP)):=by
 refine oY (ok_of lw33 (by simp) ?_)
 unfold c33
 simp -implicitDefEqProofs only [zc,qY,aN]
 rw [zj,zp]
 refine ⟨trivial,?_⟩
 simp -implicitDefEqProofs only [zi,zc,qY,kQ]
 iterate 4 refine Kx _ (by rfl) ?_
 refine Si _ (by rfl) (by exact trivial) ?_
 iterate 4 refine Kx _ (by rfl) ?_
 refine Si _ (by rfl) (by exact trivial) ?_
 refine Kx _ (by rfl) ?_
 simp -implicitDefEqProofs only [rX,↓rY,cells?,splice,↓reduceIte,Nat.reduceEqDiff,Nat.reduceAdd,reduceCtorEq,isC,aM,St.put]
 rw [fH]
 refine And.intro (by decide) ?_
 refine ⟨[.dead,.arr 3 (eA.map aJ.enc),.arr 4 (eP.map P.Road.enc)],⟨⟨trivial,aH _,aH _,trivial⟩,trivial,yai _,⟨trivial,trivial,trivial⟩,trivial⟩,?_⟩
 simp [Gv,aT,gvV,gvL,blk,wk,wkR,wkL,eA,eP,P.bC,P.sps,P.rds]
set_option maxRecDepth 20000
open Go.Fx.P (Arc aJ)
theorem Xc {n:Int} {cut:List Int} (h:P.K.OkS n cut cut.length∧P.K.hasB cut 0=true∧P.K.hasB cut 1=false):xB n cut:=by
 obtain ⟨⟨hs⟩,c0,c1⟩:=h
 have:=CuS.all (n:=n) (cut:=cut) ⟨yat _,fun i hi _=>(hs i hi hi).1,fun i hi _=>by
  have:=(hs (i+1) hi hi).2 (by omega)
  rwa [Nat.add_sub_cancel,yaH,yaa (by omega)] at this⟩
 rw [show hasB cut 0=true from c0,show hasB cut 1=false from c1] at this
 exact of_decide_eq_true this
def iJ:List Arc:=[⟨2,3,5,0⟩,⟨4,5,3,0⟩,⟨6,7,6,0⟩,⟨8,9,4,0⟩,⟨0,2,5,0⟩,⟨0,4,3,0⟩,⟨9,1,4,0⟩,⟨3,6,9,1⟩,⟨5,6,9,2⟩,⟨7,8,9,1⟩,⟨5,8,1,5⟩]
theorem Ti:P.fU eA eP=0:=by
 rw [P.fU,if_neg (by decide),if_neg (by decide),if_pos]
 intro r hr
 rcases yae.1 hr with rfl|hr
 ·exact ⟨by decide,by decide,by decide⟩
 rcases yae.1 hr with rfl|hr
 ·exact ⟨by decide,by decide,by decide⟩
 rcases yae.1 hr with rfl|hr
 ·exact ⟨by decide,by decide,by decide⟩
 rcases yae.1 hr with rfl|hr
 ·exact ⟨by decide,by decide,by decide⟩
 ·cases hr
theorem pC:eQ eA eP:=⟨Ti,by decide,by decide⟩
def iK:List Int:=[0,2,3,4,5,6,7,8]
theorem Fd {fr:P.Fr} (h:P.K.OkAc 10 iJ 0 1 8 fr):fr.sent=4∧fr.flow=[4,0,4,4,4,0,4,4,0,4,0]:=by
 obtain ⟨sent,cost,flow,price,cut⟩:=fr
 obtain ⟨⟨hl,hp,hz⟩,hs,hv,_,⟨pl,p0,_,pa⟩,hc⟩:=h
 simp only at hl hp hz hs hv pl p0 pa hc ⊢
 match flow,hl with
 | [x0,x1,x2,x3,x4,x5,x6,x7,x8,x9,x10],_ =>
 match price,pl with
 | [q0,q1,q2,q3,q4,q5,q6,q7,q8,q9],_ =>
 have b0:=hp 0 (by simp) (by decide)
 have b1:=hp 1 (by simp) (by decide)
 have b2:=hp 2 (by simp) (by decide)
 have b3:=hp 3 (by simp) (by decide)
 have b4:=hp 4 (by simp) (by decide)
 have b5:=hp 5 (by simp) (by decide)
 have b6:=hp 6 (by simp) (by decide)
 have b7:=hp 7 (by simp) (by decide)
 have b8:=hp 8 (by simp) (by decide)
 have b9:=hp 9 (by simp) (by decide)
 have b10:=hp 10 (by simp) (by decide)
 have z2:=hz 2 (by decide) (by decide) (by decide) (by decide)
 have z3:=hz 3 (by decide) (by decide) (by decide) (by decide)
 have z4:=hz 4 (by decide) (by decide) (by decide) (by decide)
 have z5:=hz 5 (by decide) (by decide) (by decide) (by decide)
 have z6:=hz 6 (by decide) (by decide) (by decide) (by decide)
 have z7:=hz 7 (by decide) (by decide) (by decide) (by decide)
 have z8:=hz 8 (by decide) (by decide) (by decide) (by decide)
 have z9:=hz 9 (by decide) (by decide) (by decide) (by decide)
 simp [P.K.valTo,iJ] at z2 z3 z4 z5 z6 z7 z8 z9 hv
 simp only [iJ,yaL,yaM] at b0 b1 b2 b3 b4 b5 b6 b7 b8 b9 b10
 rw [if_neg (by omega)] at hc
 obtain ⟨_,c0,c1,⟨ca⟩⟩:=hc
 have a0:=ca 0 (by decide) (by decide)
 have a1:=ca 1 (by decide) (by decide)
 have a2:=ca 2 (by decide) (by decide)
 have a3:=ca 3 (by decide) (by decide)
 have a4:=ca 4 (by decide) (by decide)
 have a5:=ca 5 (by decide) (by decide)
 have a6:=ca 6 (by decide) (by decide)
 have a7:=ca 7 (by decide) (by decide)
 have a8:=ca 8 (by decide) (by decide)
 have a9:=ca 9 (by decide) (by decide)
 have a10:=ca 10 (by decide) (by decide)
 simp only [iJ,yaL,yaM,yaV,yaW] at a0 a1 a2 a3 a4 a5 a6 a7 a8 a9 a10
 have e4:x6=4:=by
  apply Classical.byContradiction
  intro hne
  have n1:=c1
  have n9:P.K.hasB cut 9=false:=by
   cases e:P.K.hasB cut 9 with
   | false=>rfl
   | true=>exact absurd (a6.1 e n1) (by omega)
  have n8:P.K.hasB cut 8=false:=by
   cases e:P.K.hasB cut 8 with
   | false=>rfl
   | true=>exact absurd (a3.1 e n9) (by omega)
  have n7:P.K.hasB cut 7=false:=by
   cases e:P.K.hasB cut 7 with
   | false=>rfl
   | true=>exact absurd (a9.1 e n8) (by omega)
  have n6:P.K.hasB cut 6=false:=by
   cases e:P.K.hasB cut 6 with
   | false=>rfl
   | true=>exact absurd (a2.1 e n7) (by omega)
  have n3:P.K.hasB cut 3=false:=by
   cases e:P.K.hasB cut 3 with
   | false=>rfl
   | true=>exact absurd (a7.1 e n6) (by omega)
  have n2:P.K.hasB cut 2=false:=by
   cases e:P.K.hasB cut 2 with
   | false=>rfl
   | true=>exact absurd (a0.1 e n3) (by omega)
  exact absurd (a4.1 c0 n2) (by omega)
 have p10:=pa 0 (by decide)
 have p11:=pa 1 (by decide)
 have p12:=pa 2 (by decide)
 have p13:=pa 3 (by decide)
 have p14:=pa 4 (by decide)
 have p15:=pa 5 (by decide)
 have p16:=pa 6 (by decide)
 have p17:=pa 7 (by decide)
 have p18:=pa 8 (by decide)
 have p19:=pa 9 (by decide)
 have p20:=pa 10 (by decide)
 simp only [iJ,yaL,yaM,yaV,yaW,Int.reduceToNat] at p10 p11 p12 p13 p14 p15 p16 p17 p18 p19 p20
 have e1:x1=0:=by
  apply Classical.byContradiction
  intro hne
  have k4:¬(0+q0-q2<0):=fun hk=>by have:=p14.1 hk;omega
  have k0:¬(0+q2-q3<0):=fun hk=>by have:=p10.1 hk;omega
  have k7:¬(1+q3-q6<0):=fun hk=>by have:=p17.1 hk;omega
  have k5:¬(0<0+q0-q4):=fun hk=>by have:=p15.2 hk;omega
  have k1:¬(0<0+q4-q5):=fun hk=>by have:=p11.2 hk;omega
  have k9:¬(1+q7-q8<0):=fun hk=>by have:=p19.1 hk;omega
  have k2:¬(0+q6-q7<0):=fun hk=>by have:=p12.1 hk;omega
  rcases (by omega:0<x8∨0<x10) with h8|h10
  ·have k8:¬(0<2+q5-q6):=fun hk=>by have:=p18.2 hk;omega
   omega
  ·have k10:¬(0<5+q5-q8):=fun hk=>by have:=p20.2 hk;omega
   omega
 refine ⟨by omega,?_⟩
 rw [show x0=4 by omega,show x2=4 by omega,show x3=4 by omega,show x4=4 by omega,show x5=0 by omega,show x7=4 by omega,show x8=0 by omega,show x9=4 by omega,show x10=0 by omega,e1,e4]
theorem abQ {fr:P.Fr} (h:P.K.OkAc 10 iJ 0 1 8 fr) (ht:P.K.Tight iJ 0 8 fr):fr.cut=iK:=by
 obtain ⟨g1,g2⟩:=Fd h
 have hc:=h.hc
 rw [if_neg (by omega)] at hc
 obtain ⟨⟨hs⟩,c0,c1,⟨ca⟩⟩:=hc
 rw [g2] at ca
 have ht:=ht (by omega)
 rw [g2] at ht
 obtain ⟨sent,cost,flow,price,cut⟩:=fr
 simp only at hs c0 c1 ca ht ⊢
 have m0:=c0
 have a0:=ca 0 (by decide) (by decide)
 have a1:=ca 1 (by decide) (by decide)
 have a2:=ca 2 (by decide) (by decide)
 have a4:=ca 4 (by decide) (by decide)
 have a5:=ca 5 (by decide) (by decide)
 have a7:=ca 7 (by decide) (by decide)
 have a9:=ca 9 (by decide) (by decide)
 simp only [iJ,yaL,yaM,yaV,yaW] at a0 a1 a2 a4 a5 a7 a9
 have m2:P.K.hasB cut 2=true:=by
  cases e:P.K.hasB cut 2 with
  | true=>rfl
  | false=>exact absurd (a4.1 m0 e) (by decide)
 have m3:P.K.hasB cut 3=true:=by
  cases e:P.K.hasB cut 3 with
  | true=>rfl
  | false=>exact absurd (a0.1 m2 e) (by decide)
 have m6:P.K.hasB cut 6=true:=by
  cases e:P.K.hasB cut 6 with
  | true=>rfl
  | false=>exact absurd (a7.1 m3 e) (by decide)
 have m7:P.K.hasB cut 7=true:=by
  cases e:P.K.hasB cut 7 with
  | true=>rfl
  | false=>exact absurd (a2.1 m6 e) (by decide)
 have m8:P.K.hasB cut 8=true:=by
  cases e:P.K.hasB cut 8 with
  | true=>rfl
  | false=>exact absurd (a9.1 m7 e) (by decide)
 have m4:P.K.hasB cut 4=true:=by
  cases e:P.K.hasB cut 4 with
  | true=>rfl
  | false=>exact absurd (a5.1 m0 e) (by decide)
 have m5:P.K.hasB cut 5=true:=by
  cases e:P.K.hasB cut 5 with
  | true=>rfl
  | false=>exact absurd (a1.1 m4 e) (by decide)
 have m9:(9:Int)∉cut:=by
  intro hm
  obtain ⟨i,⟨hi,hr⟩,hd,hsr⟩:=ht 9 hm (by decide)
  have hk:∀ i,i<22→0<P.K.wrm iJ [4,0,4,4,4,0,4,4,0,4,0] i→(P.K.wdst iJ i:Int)=9→(P.K.wsrc iJ i:Int)=1:=by decide
  rw [hk i (by have:iJ.length=11:=rfl;omega) hr hd] at hsr
  exact of_decide_eq_false c1 hsr
 have hP:=Xc (n:=10) ⟨⟨hs⟩,c0,c1⟩
 refine rH (r:=(·<·)) (fun a=>Int.lt_irrefl a) (fun a b c=>Int.lt_trans) hP.2.1 (by decide) fun x=>⟨fun hx=>?_,fun hx=>?_⟩
 ·have hb:=hP.1 x hx
  have h9:x≠9:=fun e=>m9 (e▸hx)
  have:x=0∨x=2∨x=3∨x=4∨x=5∨x=6∨x=7∨x=8:=by omega
  simpa [iK] using this
 ·simp only [iK,yae,yav,or_false] at hx
  rcases hx with rfl|rfl|rfl|rfl|rfl|rfl|rfl|rfl
  ·exact of_decide_eq_true m0
  ·exact of_decide_eq_true m2
  ·exact of_decide_eq_true m3
  ·exact of_decide_eq_true m4
  ·exact of_decide_eq_true m5
  ·exact of_decide_eq_true m6
  ·exact of_decide_eq_true m7
  ·exact of_decide_eq_true m8
theorem Wv:Ok 29 [P.bC eA eP] (IsQ (fun fr=>P.oE eA eP fr∧P.K.Tight iJ 0 8 fr) (fun fr=>.tup [fr.enc,.i 0]) (fun _=>[])):=P.akR eA eP ⟨Ti,by decide,by decide⟩
set_option maxRecDepth 20000
open Go.Fx.P (Arc aJ)
structure ExP (fr:P.Fr):Prop where
 acc:P.tU eA eP fr=0
 sent:fr.sent=4
 flow:fr.flow=[4,0,4,4,4,0,4,4,0,4,0]
 cut:fr.cut=iK
theorem ExP.of {fr:P.Fr} (h:P.oE eA eP fr∧P.K.Tight iJ 0 8 fr):ExP fr:=by
 have ha:P.K.OkAc 10 iJ 0 1 8 fr:=h.1.acc
 exact ⟨h.1.acc0,(Fd ha).1,(Fd ha).2,abQ ha h.2⟩
def exR (place n:Int) (s:Bs):Rf:=⟨place,n,9,4,iK,5,6,1,s⟩
def exS (k:Int) (place n:Int):Bs:=iO (keyK k) 410 (partsOf (exR place n z16))
theorem Ay {fr:P.Fr} (h:ExP fr) (k place n:Int):rf0 (keyK k) fr place n 9 5 6=exR place n z16∧rf1 (keyK k) fr place n 9 5 6=exR place n (exS k place n):=by
 have e:rf0 (keyK k) fr place n 9 5 6=exR place n z16:=by
  unfold rf0 exR keyK
  rw [h.sent,h.cut]
 refine ⟨e,?_⟩
 unfold rf1
 rw [e];rfl
theorem Kn (k place n:Int) (hk:k=place+1) (hp:place=0∧0≤n∧n<5∨place=1∧0≤n∧n<3):xC (keyK k) eA place n 9 5 6:=by
 subst hk
 rcases hp with ⟨rfl,h1,h2⟩|⟨rfl,h1,h2⟩
 ·exact ⟨⟨1,1,5⟩,by decide,by decide,by decide,by decide,by decide,h1,h2⟩
 ·exact ⟨⟨1,2,3⟩,by decide,by decide,by decide,by decide,by decide,h1,h2⟩
theorem Th {fr:P.Fr} (h:ExP fr):mkE (keyK 1) eA eP fr 0 4 9 5 6=0∧mkR (keyK 1) eA eP fr 0 4 9 5 6=exR 0 4 (exS 1 0 4):=by
 have:=abA (Kn 1 0 4 rfl (by decide)) h.acc (by rw [h.flow];decide)
 rw [(Ay h 1 0 4).2] at this
 exact this
theorem Tf {fr:P.Fr} (h:ExP fr):mkE (keyK 1) eA eP fr 0 3 9 5 6=4∧mkR (keyK 1) eA eP fr 0 3 9 5 6=zRf:=afR (Kn 1 0 3 rfl (by decide)) h.acc (by rw [h.flow];decide)
theorem Tg {fr:P.Fr} (h:ExP fr) {n:Int} (hn:0≤n∧n<3):mkE (keyK 2) eA eP fr 1 n 9 5 6=0∧mkR (keyK 2) eA eP fr 1 n 9 5 6=exR 1 n (exS 2 1 n):=by
 have:=abA (Kn 2 1 n rfl (.inr ⟨rfl,hn⟩)) h.acc (by rw [h.flow];simp;omega)
 rw [(Ay h 2 1 n).2] at this
 exact this
theorem Fe {place n:Int} {s:Bs} (hp:0≤place∧place≤5∧0≤n∧n≤5):(exR place n s).Ok:=by
 have hc:In64 iK∧iK.length≤1000000:=by unfold In64;decide
 refine ⟨?_,hc.1,hc.2⟩
 intro x hx
 simp only [exR,yae,yav,or_false] at hx
 omega
def exL:List Rf:=[exR 0 4 (exS 1 0 4),exR 1 0 (exS 2 1 0),exR 1 1 (exS 2 1 1),exR 1 2 (exS 2 1 2)]
theorem abS:Fs eA eP exL=(-1,0):=by kernel_rfl
theorem Wx:uW eA iK=[3]:=by decide
theorem Ww:uV eA eP iK=[]:=by decide
theorem Wy:iR 10 iK=true:=by decide
theorem abR:bnd iJ iK=4:=by kernel_rfl
def Az (s:Bs):Rf:=⟨0,4,9,4,[0,2,3,4,5,6,7],5,6,1,s⟩
theorem abP (s:Bs):r7 eA eP (Az s)=110:=by kernel_rfl
theorem Wu:pM [keyK 1]:=⟨fun k hk=>by rw [List.mem_singleton.1 hk];decide,List.pairwise_singleton _ _⟩
theorem Wt:Ph [keyK 1] eA (exR 0 4 (exS 1 0 4))=0:=by
 have h1:fO eA (exR 0 4 (exS 1 0 4)).place=some ⟨1,1,5⟩:=by decide
 have h2:iW [keyK 1] (1000+1) 1=some (keyK 1):=by rfl
 have h3:Ii (keyK 1) 5 6=true:=by decide
 unfold Ph
 rw [h1]
 show Kr [keyK 1] (1000+1) 1 410 (partsOf (exR 0 4 (exS 1 0 4))) (exS 1 0 4) 5 6=0
 unfold Kr
 rw [h2]
 simp only [h3]
 rw [if_neg (by simp)]
 exact if_pos rfl
set_option maxRecDepth 20000
open Go.Fx.P (Arc aJ)
def pt:Nat→LCode→LCode
 | 0,.seq a _=>a
 | n+1,.seq _ b=>pt n b
 | _,c=>c
theorem c9_parts:c9=.seq (pt 0 c9) (.seq (pt 1 c9) (.seq (pt 2 c9) (.seq (pt 3 c9) (.seq (pt 4 c9) (.seq (pt 5 c9) (.seq (pt 6 c9) (.seq (pt 7 c9) (.seq (pt 8 c9) (.seq (pt 9 c9) (.seq (pt 10 c9) (.seq (pt 11 c9) (.seq (pt 12 c9) (.seq (pt 13 c9) (.seq (pt 14 c9) (pt 15 c9))))))))))))))):=by rfl
abbrev cT:Cx:=cxN Tryz.prog []
structure E1 (e:Env):Prop where
 g1:get e 1=.ptr 0 0 0
 g2:get e 2=.ptr 1 0 0
 g3:get e 3=.ptr 2 0 0
abbrev exH (fr:P.Fr):List Blk:=[.var [P.sps eA,P.rds eP],.var [.i 5,.i 6],.var [.i fr.sent,.i fr.cost,P.li fr.flow,P.li fr.price,P.li fr.cut]]
section
variable {N R:St→Prop} {X:Nat→St→Prop} {e:Env} {b:Nat} {fr:P.Fr}
theorem aiS (hN:N ⟨[(0,.b false)],[],0⟩):aw cT (pt 0 c9) N X R ⟨[],[],0⟩:=by
 conv=>arg 2;whnf
 simp -implicitDefEqProofs only [rX,aA]
 exact hN
theorem aiR (hN:∀ e,get e 1=.ptr 0 0 0→N ⟨e,[.var [P.sps eA,P.rds eP]],0⟩):aw cT (pt 1 c9) N X R ⟨e,[],0⟩:=by
 conv=>arg 2;whnf
 simp -implicitDefEqProofs only [rX]
 refine aD akO ⟨trivial,trivial⟩ rfl trivial ?_
 unfold P.bC
 simp -implicitDefEqProofs only [rX,↓rY,aA,cells?,splice,↓reduceIte,Nat.reduceEqDiff,Nat.reduceAdd,aC,isC,aM]
 refine ⟨rfl,hN _ ?_⟩
 rfl
theorem aiQ (h1:get e 1=.ptr 0 0 0) (hN:∀ e,get e 1=.ptr 0 0 0→get e 2=.ptr 1 0 0→N ⟨e,[.var [P.sps eA,P.rds eP],.var [.i 5,.i 6]],1⟩):aw cT (pt 2 c9) N X R ⟨e,[.var [P.sps eA,P.rds eP]],0⟩:=by
 conv=>arg 2;whnf
 simp -implicitDefEqProofs only [rX,↓rY,aA,cells?,splice,↓reduceIte,Nat.reduceEqDiff,Nat.reduceAdd,aC,bJ,isC,Nat.reduceLeDiff,aM]
 refine hN _ ?_ ?_
 ·exact h1
 ·rfl
theorem aiP (h1:get e 1=.ptr 0 0 0) (h2:get e 2=.ptr 1 0 0) (hN:∀ e fr,ExP fr→E1 e→get e 4=.i 0→N ⟨e,exH fr,2⟩):aw cT (pt 3 c9) N X R ⟨e,[.var [P.sps eA,P.rds eP],.var [.i 5,.i 6]],1⟩:=by
 conv=>arg 2;whnf
 simp -implicitDefEqProofs only [rX,↓rY,↓reduceIte,Nat.reduceAdd,h1]
 refine fD (fun fr=>P.oE eA eP fr∧P.K.Tight iJ 0 8 fr) [] [] [] [P.bC eA eP] (fun fr=>.tup [fr.enc,.i 0]) [] (fun _=>[]) Wv ⟨by simp,by simp⟩ ⟨rfl,by simp⟩ rfl ⟨⟨aL.1,trivial⟩,aL.2,trivial⟩ fun fr hfr=>⟨trivial,?_⟩
 simp -implicitDefEqProofs only [rX,↓rY,aA,cells?,splice,↓reduceIte,Nat.reduceEqDiff,Nat.reduceAdd,aC,bP,bF,kill,bU,St.kill,isC,aM,P.Fr.enc,P.li,bO,ren,cO,mU,tD]
 refine hN _ fr (ExP.of hfr) ?_ ?_
 ·exact ⟨h1,h2,rfl⟩
 ·rfl
theorem Wa {r:Rf} {f:Nat→Option Nat}:cO f r.enc=r.enc:=by unfold Rf.enc P.li;simp [cO,ren,gB]
theorem uK {r:Rf} {f:Nat→Option Nat} {E:Int}:ren f (.tup [.agg r.enc,.i E])=.tup [.agg r.enc,.i E]:=by simp [ren,cO,Wa]
theorem Ys (hX:ExP fr):Ok 10 [.agg (keyK 1).enc,P.bC eA eP,fr.enc,.i 0,.i 4,.i 9,.agg [.i 5,.i 6]] (Is (.tup [.agg (exR 0 4 (exS 1 0 4)).enc,.i 0])):=by
 have:=aaY (keyK 1) eA eP fr 0 4 9 5 6 pC (by rw [(Ay hX 1 0 4).1];exact Fe (by decide)) (by decide)
 rw [(Th hX).1,(Th hX).2] at this
 exact this
theorem Yq (hX:ExP fr):Ok 10 [.agg (keyK 1).enc,P.bC eA eP,fr.enc,.i 0,.i 3,.i 9,.agg [.i 5,.i 6]] (Is (.tup [.agg zRf.enc,.i 4])):=by
 have:=aaY (keyK 1) eA eP fr 0 3 9 5 6 pC (by rw [(Ay hX 1 0 3).1];exact Fe (by decide)) (by decide)
 rw [(Tf hX).1,(Tf hX).2] at this
 exact this
theorem Yr (hX:ExP fr) {n:Int} (hn:0≤n∧n<3):Ok 10 [.agg (keyK 2).enc,P.bC eA eP,fr.enc,.i 1,.i n,.i 9,.agg [.i 5,.i 6]] (Is (.tup [.agg (exR 1 n (exS 2 1 n)).enc,.i 0])):=by
 have:=aaY (keyK 2) eA eP fr 1 n 9 5 6 pC (by rw [(Ay hX 2 1 n).1];exact Fe (by omega)) (by decide)
 rw [(Tg hX hn).1,(Tg hX hn).2] at this
 exact this
theorem uR {h:List Blk} {g:Nat→Option Nat} {k:Ky} {ps:List aJ} {rs:List P.Road} {place n w a b:Int}:aF h g [.agg k.enc,.agg [P.sps ps,P.rds rs],.agg [.i fr.sent,.i fr.cost,P.li fr.flow,P.li fr.price,P.li fr.cut],.i place,.i n,.i w,.agg [.i a,.i b]] ∧
  wkL [.agg k.enc,P.bC ps rs,fr.enc,.i place,.i n,.i w,.agg [.i a,.i b]] (aU h g [.agg k.enc,.agg [P.sps ps,P.rds rs],.agg [.i fr.sent,.i fr.cost,P.li fr.flow,P.li fr.price,P.li fr.cut],.i place,.i n,.i w,.agg [.i a,.i b]]) :=
 ⟨⟨dJ.1,aL.1,lV.1,trivial,trivial,trivial,⟨trivial,trivial,trivial⟩,trivial⟩,dJ.2,aL.2,lV.2,rfl,rfl,rfl,⟨rfl,rfl,trivial⟩,trivial⟩
theorem aiO (hX:ExP fr) (hE:E1 e) (h4:get e 4=.i 0) (hN:∀ e,E1 e→get e 4=.i 0→get e 5=.ptr 3 0 0→get e 6=.i 0→N ⟨e,exH fr++[.var (exR 0 4 (exS 1 0 4)).enc],3⟩):aw cT (pt 4 c9) N X R ⟨e,exH fr,b⟩:=by
 obtain ⟨h1,h2,h3⟩:=hE
 have hl:(exR 0 4 (exS 1 0 4)).enc.length=24:=e9 dK
 conv=>arg 2;whnf
 simp -implicitDefEqProofs only [rX,↓rY,rdK,aA,cells?,↓reduceIte,Nat.reduceEqDiff,Nat.reduceAdd,aC,aG,h1,h2,h3]
 refine ⟨?_,?_⟩
 ·refine aD (Kc 1 (by decide)) ⟨⟨trivial,trivial⟩,rfl,trivial⟩ rfl (by simp [aE,aB]) ?_
  simp -implicitDefEqProofs only [rX,↓rY,aA,cells?,↓reduceIte,Nat.reduceEqDiff,aC,aG]
  refine ⟨?_,?_⟩ <;>
  ·refine aD (Ys hX) uR uK (by simp [aE,aB]) ?_
   simp -implicitDefEqProofs only [rX,↓rY,aA,cells?,splice,↓reduceIte,Nat.reduceEqDiff,Nat.reduceAdd,aC,aG,hl,Ef,Be]
   refine hN _ ⟨h1,h2,h3⟩ ?_ ?_ ?_
   ·exact h4
   ·rfl
   ·rfl
 ·refine aD (Kc 1 (by decide)) ⟨⟨trivial,trivial⟩,rfl,trivial⟩ rfl (by simp [aE,aB]) ?_
  simp -implicitDefEqProofs only [rX,aA,↓reduceIte,Nat.reduceEqDiff,aG]
  refine aD (Ys hX) uR uK (by simp [aE,aB]) ?_
  simp -implicitDefEqProofs only [rX,↓rY,cells?,splice,↓reduceIte,Nat.reduceEqDiff,Nat.reduceAdd,aG,hl,Ef,Be]
  refine hN _ ⟨h1,h2,h3⟩ ?_ ?_ ?_
  ·exact h4
  ·rfl
  ·rfl
abbrev exA:Rf:=exR 0 4 (exS 1 0 4)
theorem aiN (hX:ExP fr) (hE:E1 e) (h4:get e 4=.i 0) (h5:get e 5=.ptr 3 0 0) (h6:get e 6=.i 0)
  (hN:∀ e,E1 e→get e 4=.i 0→get e 5=.ptr 3 0 0→get e 6=.i 0→get e 8=.i 4→N ⟨e,exH fr++[.var exA.enc,.var zRf.enc],4⟩):aw cT (pt 5 c9) N X R ⟨e,exH fr++[.var exA.enc],b⟩:=by
 obtain ⟨h1,h2,h3⟩:=hE
 have hl:zRf.enc.length=24:=e9 (by simp [zRf,z16])
 conv=>arg 2;whnf
 generalize hA:exA.enc=AE at *
 simp -implicitDefEqProofs only [rX,↓rY,rdK,aA,cells?,↓reduceIte,Nat.reduceEqDiff,Nat.reduceAdd,aC,aG,h1,h2,h3]
 refine ⟨?_,?_⟩
 ·refine aD (Kc 1 (by decide)) ⟨⟨trivial,trivial⟩,rfl,trivial⟩ rfl (by simp [aE,aB]) ?_
  simp -implicitDefEqProofs only [rX,↓rY,aA,cells?,↓reduceIte,Nat.reduceEqDiff,aC,aG]
  refine ⟨?_,?_⟩ <;>
  ·refine aD (Yq hX) uR uK (by simp [aE,aB]) ?_
   simp -implicitDefEqProofs only [rX,↓rY,aA,cells?,splice,↓reduceIte,Nat.reduceEqDiff,Nat.reduceAdd,aC,aG,hl,Ef,Be]
   refine hN _ ⟨h1,h2,h3⟩ ?_ ?_ ?_ ?_
   ·exact h4
   ·exact h5
   ·exact h6
   ·rfl
 ·refine aD (Kc 1 (by decide)) ⟨⟨trivial,trivial⟩,rfl,trivial⟩ rfl (by simp [aE,aB]) ?_
  simp -implicitDefEqProofs only [rX,aA,↓reduceIte,Nat.reduceEqDiff,aG]
  refine aD (Yq hX) uR uK (by simp [aE,aB]) ?_
  simp -implicitDefEqProofs only [rX,↓rY,cells?,splice,↓reduceIte,Nat.reduceEqDiff,Nat.reduceAdd,aG,hl,Ef,Be]
  refine hN _ ⟨h1,h2,h3⟩ ?_ ?_ ?_ ?_
  ·exact h4
  ·exact h5
  ·exact h6
  ·rfl
theorem aiM (h4:get e 4=.i 0) (h5:get e 5=.ptr 3 0 0) (h6:get e 6=.i 0) (h8:get e 8=.i 4) {h:List Blk} (hE:E1 e)
  (hN:∀ e b,E1 e→get e 5=.ptr 3 0 0→N ⟨e,h,b⟩):aw cT (pt 6 c9) N X R ⟨e,h,b⟩:=by
 obtain ⟨h1,h2,h3⟩:=hE
 conv=>arg 2;whnf
 simp -implicitDefEqProofs only [rX,↓rY,aA,↓reduceIte,Nat.reduceEqDiff,h4,h6,h8,bne_self_eq_false]
 refine hN _ _ ⟨h1,h2,h3⟩ ?_
 exact h5
theorem aaL {r:Rf}:r.enc.all isD=true:=by unfold Rf.enc P.li;simp [isD,aiD]
theorem Pb {place n k a c:Int}:(exR place n (exS k a c)).enc.length=24:=e9 dK
theorem Hz {place n k a c:Int}:yaf 24 (exR place n (exS k a c)).enc=(exR place n (exS k a c)).enc:=sV dK
theorem aiL (hE:E1 e) (h5:get e 5=.ptr 3 0 0)
  (hN:∀ e,E1 e→get e 5=.ptr 3 0 0→get e 9=.sl 5 0 1→N ⟨e,exH fr++[.var exA.enc,.var zRf.enc,.arr 24 [exA.enc]],5⟩):aw cT (pt 7 c9) N X R ⟨e,exH fr++[.var exA.enc,.var zRf.enc],b⟩:=by
 obtain ⟨h1,h2,h3⟩:=hE
 conv=>arg 2;whnf
 simp -implicitDefEqProofs only [rX,↓rY,cells?,↓reduceIte,Nat.reduceAdd,aC,bZ,Nat.reduceLT,aM,aG,h5,s7,Ey,Ez,Kl,Hz,Pb,aaL]
 refine hN _ ⟨h1,h2,h3⟩ ?_ ?_
 ·exact h5
 ·rfl
theorem Gn {r:Rf} {l:List Nat}:bU l r.enc=r.enc:=by unfold Rf.enc P.li;simp [bU,kill,sK]
theorem Rb {r:Rf}:bD r.enc r.enc=True:=eq_true (mT _)
theorem Ju {q:List Blk} {r:Rf}:wfL q r.enc=True:=eq_true Ra
abbrev exB (j:Nat):Rf:=exR 1 j (exS 2 1 j)
abbrev h8 (fr:P.Fr) (j:Nat):List Blk:=exH fr++[.var exA.enc,.var zRf.enc,.arr 24 ((exL.take (j+1)).map Rf.enc)]
theorem aiK (hX:ExP fr) (hE:E1 e) (h5:get e 5=.ptr 3 0 0) (h9:get e 9=.sl 5 0 1)
  (hN:∀ e b,E1 e→get e 5=.ptr 3 0 0→get e 9=.sl 5 0 4→N ⟨e,h8 fr 3,b⟩):aw cT (pt 8 c9) N X R ⟨e,h8 fr 0,b⟩:=by
 obtain ⟨h1,h2,h3⟩:=hE
 conv=>arg 2;whnf
 simp -implicitDefEqProofs only [rX,aA,Nat.reduceAdd,aG]
 refine bN (fun j:Nat=>(⟨[(10,.i j),(9,.sl 5 0 (j+1)),(5,.ptr 3 0 0),(3,.ptr 2 0 0),(2,.ptr 1 0 0),(1,.ptr 0 0 0)],h8 fr j,0⟩:St)) (fun j=>j≤3) (fun j=>3-j) 0 (by decide) ?_ ?_
 ·simp -implicitDefEqProofs only [rX,↓reduceIte,Nat.reduceEqDiff,leE,leH,leB,leV,bD,aE,aB,wfE,wfB,wfV,wfL,h1,h2,h3,h5,h9,P.sps,P.rds,P.li,Rb,Ju]
  rfl
 intro j hj N' hN'
 simp only [c9l0]
 simp -implicitDefEqProofs only [rX,↓rY,rdK,aA,cells?,↓reduceIte,Nat.reduceEqDiff,Nat.reduceAdd,aC,aG]
 cases hd:decide ((j:Int)<3) with
 | false =>
  have hd':=of_decide_eq_false hd
  have:j=3:=by omega
  subst this
  simp -implicitDefEqProofs only [↓rY,Nat.reduceAdd]
  refine hN _ _ ⟨?_,?_,?_⟩ ?_ ?_<;>rfl
 | true =>
  have hd':=of_decide_eq_true hd
  have hj3:j<3:=by omega
  have hLl:(yad Rf.enc (yaf (j+1) exL)).length=j+1:=by
   rw [yam,yaE]
   have:exL.length=4:=rfl
   omega
  have hLn:exL.take (j+1)++[exB j]=exL.take (j+1+1):=by
   match j,hj3 with
   | 0,_=>rfl
   | 1,_=>rfl
   | 2,_=>rfl
  have hfin:Blk.arr 24 (yaf (j+1) (yad Rf.enc (yaf (j+1) exL))++[(exR 1 (j:Int) (exS 2 1 j)).enc])=Blk.arr 24 (yad Rf.enc (yaf (j+1+1) exL)):=by
   rw [←hLn,yak,yaj (by omega)]
   rfl
  simp -implicitDefEqProofs only [↓rY]
  refine ⟨?_,?_⟩
  ·refine aD (Kc 2 (by decide)) ⟨⟨trivial,trivial⟩,rfl,trivial⟩ rfl (by simp [aE,aB]) ?_
   simp -implicitDefEqProofs only [rX,↓rY,aA,cells?,↓reduceIte,Nat.reduceEqDiff,aC,aG]
   refine ⟨?_,?_⟩ <;>
   ·refine aD (Yr hX (n:=j) (by omega)) uR uK (by simp [aE,aB]) ?_
    simp -implicitDefEqProofs only [rX,↓rY,aA,cells?,splice,↓reduceIte,Nat.reduceEqDiff,Nat.reduceAdd,reduceCtorEq,aC,bZ,bP,bF,kill,bU,St.kill,Nat.reduceLT,aM,aG,Pb,Ef,aaL,Hz,Be,bne_self_eq_false,s7,Ey,Ez,Kl,hLl,Gn]
    refine ⟨by omega,⟨by simp only [lo];omega,by simp only [Fx.hi];omega⟩,hN' _ (j+1) (by omega) (by omega) ?_⟩
    simp -implicitDefEqProofs only [rX,↓reduceIte,Nat.reduceEqDiff,leE,leH,leB,leV,bD,aE,aB,wfE,wfB,wfV,wfL,kill,St.kill,P.sps,P.rds,P.li,Rb,Ju]
    exact ⟨by omega,hfin⟩
  ·refine aD (Kc 2 (by decide)) ⟨⟨trivial,trivial⟩,rfl,trivial⟩ rfl (by simp [aE,aB]) ?_
   simp -implicitDefEqProofs only [rX,aA,↓reduceIte,Nat.reduceEqDiff,aG]
   refine aD (Yr hX (n:=j) (by omega)) uR uK (by simp [aE,aB]) ?_
   simp -implicitDefEqProofs only [rX,↓rY,aA,cells?,splice,↓reduceIte,Nat.reduceEqDiff,Nat.reduceAdd,reduceCtorEq,aC,bZ,bP,bF,kill,bU,St.kill,Nat.reduceLT,aM,aG,Pb,Ef,aaL,Hz,Be,bne_self_eq_false,s7,Ey,Ez,Kl,hLl,Gn]
   refine ⟨by omega,⟨by simp only [lo];omega,by simp only [Fx.hi];omega⟩,hN' _ (j+1) (by omega) (by omega) ?_⟩
   simp -implicitDefEqProofs only [rX,↓reduceIte,Nat.reduceEqDiff,leE,leH,leB,leV,bD,aE,aB,wfE,wfB,wfV,wfL,kill,St.kill,P.sps,P.rds,P.li,Rb,Ju]
   exact ⟨by omega,hfin⟩
end
set_option maxRecDepth 20000
open Go.Fx.P (Arc aJ)
section
variable {N R:St→Prop} {X:Nat→St→Prop} {e:Env} {b:Nat} {fr:P.Fr}
abbrev hQ (fr:P.Fr):List Blk:=exH fr++[.var exA.enc,.var zRf.enc,.arr 24 (exL.map Rf.enc)]
theorem o8 {h:List Blk} {g:Nat→Option Nat} {ps:List aJ} {rs:List P.Road} {l:List Int}:aF h g [.agg [P.sps ps,P.rds rs],P.li l]∧wkL [P.bC ps rs,P.li l] (aU h g [.agg [P.sps ps,P.rds rs],P.li l]):=⟨⟨aL.1,trivial,trivial⟩,aL.2,⟨rfl,rfl⟩,trivial⟩
theorem Tj:exA.enc[4]?=some (P.li iK):=rfl
theorem aiJ (hE:E1 e) (h5:get e 5=.ptr 3 0 0) (h9:get e 9=.sl 5 0 4)
  (hN:∀ e b,E1 e→get e 5=.ptr 3 0 0→get e 13=.i (-1)→get e 14=.i 0→N ⟨e,hQ fr,b⟩):aw cT (pt 9 c9) N X R ⟨e,hQ fr,b⟩:=by
 obtain ⟨h1,h2,h3⟩:=hE
 conv=>arg 2;whnf
 simp -implicitDefEqProofs only [rX,↓rY,↓reduceIte,Nat.reduceEqDiff,Nat.reduceAdd,h1,h9]
 have o:=aeH eA eP exL pC (by decide) (by intro r hr;simp only [exL,yae,yav,or_false] at hr;rcases hr with rfl|rfl|rfl|rfl<;>exact dK) (by intro r hr;simp only [exL,yae,yav,or_false] at hr;rcases hr with rfl|rfl|rfl|rfl<;>decide)
 rw [abS] at o
 refine aD o ⟨⟨aL.1,?_,trivial⟩,aL.2,?_,trivial⟩ rfl trivial ?_
 ·simp [aK,blk]
  decide
 ·simp [bG,wk,blk,wkB,aU]
  rfl
 simp -implicitDefEqProofs only [rX,↓rY,↓reduceIte,Nat.reduceEqDiff]
 refine hN _ _ ⟨h1,h2,h3⟩ ?_ ?_ ?_
 ·exact h5
 ·rfl
 ·rfl
theorem adD (hE:E1 e) (h5:get e 5=.ptr 3 0 0) (h13:get e 13=.i (-1)) (h14:get e 14=.i 0)
  (hN:∀ e b,E1 e→get e 5=.ptr 3 0 0→get e 13=.i (-1)→get e 14=.i 0→get e 15=P.li [3]→get e 16=P.li []→N ⟨e,hQ fr,b⟩):aw cT (pt 10 c9) N X R ⟨e,hQ fr,b⟩:=by
 obtain ⟨h1,h2,h3⟩:=hE
 conv=>arg 2;whnf
 simp -implicitDefEqProofs only [rX,↓rY,↓reduceIte,Nat.reduceEqDiff,Nat.reduceAdd,h1,h5,Tj]
 have o:=aeI eA eP iK pC (by decide)
 rw [Wx,Ww] at o
 refine aD o o8 rfl trivial ?_
 unfold P.li
 simp -implicitDefEqProofs only [rX,↓rY,↓reduceIte,Nat.reduceEqDiff]
 refine hN _ _ ⟨h1,h2,h3⟩ ?_ ?_ ?_ ?_ ?_
 ·exact h5
 ·exact h13
 ·exact h14
 ·rfl
 ·rfl
theorem adC (hE:E1 e) (h5:get e 5=.ptr 3 0 0) (h13:get e 13=.i (-1)) (h14:get e 14=.i 0) (h15:get e 15=P.li [3]) (h16:get e 16=P.li [])
  (hN:∀ e b,E1 e→get e 5=.ptr 3 0 0→get e 13=.i (-1)→get e 14=.i 0→get e 15=P.li [3]→get e 16=P.li []→get e 17=.i 4→get e 18=.i 0→N ⟨e,hQ fr,b⟩):aw cT (pt 11 c9) N X R ⟨e,hQ fr,b⟩:=by
 obtain ⟨h1,h2,h3⟩:=hE
 conv=>arg 2;whnf
 simp -implicitDefEqProofs only [rX,↓rY,↓reduceIte,Nat.reduceEqDiff,Nat.reduceAdd,h1,h5,Tj]
 have o:=aeK eA eP iK pC (by decide)
 rw [show iR (P.nN eA) iK=true from Wy,if_pos rfl,show bnd (P.cE eA eP) iK=4 from abR] at o
 refine aD o o8 rfl trivial ?_
 simp -implicitDefEqProofs only [rX,↓rY,↓reduceIte,Nat.reduceEqDiff]
 refine hN _ _ ⟨h1,h2,h3⟩ ?_ ?_ ?_ ?_ ?_ ?_ ?_
 ·exact h5
 ·exact h13
 ·exact h14
 ·exact h15
 ·exact h16
 ·rfl
 ·rfl
structure E2 (e:Env):Prop where
 g1:get e 1=.ptr 0 0 0
 g5:get e 5=.ptr 3 0 0
 g13:get e 13=.i (-1)
 g14:get e 14=.i 0
 g15:get e 15=P.li [3]
 g16:get e 16=P.li []
 g17:get e 17=.i 4
 g18:get e 18=.i 0
 g19:get e 19=.ptr 6 0 0
theorem adB (hE:E1 e) (h5:get e 5=.ptr 3 0 0) (h13:get e 13=.i (-1)) (h14:get e 14=.i 0) (h15:get e 15=P.li [3]) (h16:get e 16=P.li []) (h17:get e 17=.i 4) (h18:get e 18=.i 0)
  (hN:∀ e b,E2 e→N ⟨e,hQ fr++[.var exA.enc],b⟩):aw cT (pt 12 c9) N X R ⟨e,hQ fr,b⟩:=by
 obtain ⟨h1,h2,h3⟩:=hE
 conv=>arg 2;whnf
 simp -implicitDefEqProofs only [rX,↓rY,aA,cells?,splice,↓reduceIte,Nat.reduceEqDiff,Nat.reduceAdd,aC,aM,h5,Pb,Hz,Ef,Be]
 refine hN _ _ ⟨?_,?_,?_,?_,?_,?_,?_,?_,?_⟩
 ·exact h1
 ·exact h5
 ·exact h13
 ·exact h14
 ·exact h15
 ·exact h16
 ·exact h17
 ·exact h18
 ·rfl
theorem adA (hE:E2 e) (hN:∀ e b,E2 e→N ⟨e,hQ fr++[.var (Az (exS 1 0 4)).enc],b⟩):aw cT (pt 13 c9) N X R ⟨e,hQ fr++[.var exA.enc],b⟩:=by
 obtain ⟨h1,h5,h13,h14,h15,h16,h17,h18,h19⟩:=hE
 conv=>arg 2;whnf
 have hl:(iK.map P.encI).length=8:=rfl
 simp -implicitDefEqProofs only [rX,↓rY,aA,cells?,splice,↓reduceIte,Nat.reduceEqDiff,Nat.reduceAdd,dR,isC,aM,h19,Tj,P.li,hl]
 intro _
 refine ⟨⟨by decide,by decide⟩,⟨⟨by decide,by decide⟩,by decide,by decide⟩,by rw [Pb];decide,?_⟩
 refine hN _ _ ⟨?_,?_,?_,?_,?_,?_,?_,?_,?_⟩
 ·exact h1
 ·exact h5
 ·exact h13
 ·exact h14
 ·exact h15
 ·exact h16
 ·exact h17
 ·exact h18
 ·exact h19
theorem acZ (hE:E2 e) (hN:∀ e b h,get e 0=.b true→N ⟨e,h,b⟩):aw cT (pt 14 c9) N X R ⟨e,hQ fr++[.var (Az (exS 1 0 4)).enc],b⟩:=by
 obtain ⟨h1,h5,h13,h14,h15,h16,h17,h18,h19⟩:=hE
 conv=>arg 2;whnf
 simp -implicitDefEqProofs only [rX,↓rY,rdK,aA,cells?,↓reduceIte,Nat.reduceEqDiff,Nat.reduceAdd,aC,bZ,isD,Nat.reduceLT,aG,h1,h5,h13,h14,h15,h19,P.li,beq_self_eq_true]
 refine aD (aaV [3] (by decide)) (by simp [aF,aK,aU,bG,wkL,wk,wkR,wkB,blk];rfl) rfl (by simp [aE,aB]) ?_
 have l1:(Az (exS 1 0 4)).enc.length=24:=e9 dK
 have l2:yaf 24 (Az (exS 1 0 4)).enc=(Az (exS 1 0 4)).enc:=sV dK
 simp -implicitDefEqProofs only [rX,↓rY,rdK,aA,↓reduceIte,Nat.reduceEqDiff,Nat.reduceAdd,aG,h1,h5,h16,h17,h18,h19,P.li,Int.natCast_zero,beq_self_eq_true,l1,l2]
 have o14:=aaW eA eP (Az (exS 1 0 4)) pC (by show (7:Nat)≤1000000;decide)
 rw [abP] at o14
 intro _
 refine aD o14 ⟨⟨aL.1,(cZ rfl).1,trivial⟩,aL.2,(cZ rfl).2,trivial⟩ rfl (by simp [aE,aB]) ?_
 simp -implicitDefEqProofs only [rX,↓rY,rdK,aA,↓reduceIte,Nat.reduceEqDiff,Nat.reduceAdd,aG,h1,h5,beq_self_eq_true,Pb,Hz]
 refine aD (Kc 1 (by decide)) ⟨⟨trivial,trivial⟩,rfl,trivial⟩ rfl (by simp [aE,aB]) ?_
 unfold keyK Ky.enc
 simp -implicitDefEqProofs only [rX,↓rY,cells?,↓reduceIte,Nat.reduceEqDiff,Nat.reduceAdd,aC,bZ,isD,Nat.reduceLT,aG]
 have o16:=aeL [keyK 1] eA eP exA pC (Fe (by decide)) Wu (by decide) dK
 rw [Wt] at o16
 refine aD o16 ⟨⟨?_,aL.1,(cZ rfl).1,trivial⟩,?_,aL.2,(cZ rfl).2,trivial⟩ rfl (by simp [aE,aB]) ?_
 ·simp [aK,blk]
 ·simp [bG,wk,blk,wkB,aU,bK,keyK,Ky.enc]
 simp -implicitDefEqProofs only [rX,↓rY,aA,↓reduceIte,Nat.reduceEqDiff,beq_self_eq_true]
 refine hN _ _ _ ?_
 rfl
theorem acY {h:List Blk} (h0:get e 0=.b true):aw cT (pt 15 c9) N X (eU [] 0 [.tmp 0] (Is (.b true))) ⟨e,h,b⟩:=by
 conv=>arg 2;whnf
 simp -implicitDefEqProofs only [rX,aQ,aT,wfV,h0]
end
theorem ok9:Ok 9 [] (Is (.b true)):=by
 refine ok_of lw9 (by simp) ?_
 rw [c9_parts]
 show aw cT _ _ _ _ ⟨[],[],0⟩
 rw [zc]
 refine aiS ?_
 rw [zc]
 refine aiR fun e h1=>?_
 rw [zc]
 refine aiQ h1 fun e h1 h2=>?_
 rw [zc]
 refine aiP h1 h2 fun e fr hX hE h4=>?_
 rw [zc]
 refine aiO hX hE h4 fun e hE h4 h5 h6=>?_
 rw [zc]
 refine aiN hX hE h4 h5 h6 fun e hE h4 h5 h6 h8=>?_
 rw [zc]
 refine aiM h4 h5 h6 h8 hE fun e b hE h5=>?_
 rw [zc]
 refine aiL hE h5 fun e hE h5 h9=>?_
 rw [zc]
 refine aiK hX hE h5 h9 fun e b hE h5 h9=>?_
 rw [zc]
 refine aiJ hE h5 h9 fun e b hE h5 h13 h14=>?_
 rw [zc]
 refine adD hE h5 h13 h14 fun e b hE h5 h13 h14 h15 h16=>?_
 rw [zc]
 refine adC hE h5 h13 h14 h15 h16 fun e b hE h5 h13 h14 h15 h16 h17 h18=>?_
 rw [zc]
 refine adB hE h5 h13 h14 h15 h16 h17 h18 fun e b hE=>?_
 rw [zc]
 refine adA hE fun e b hE=>?_
 rw [zc]
 refine acZ hE fun e b h h0=>?_
 exact acY h0
set_option maxRecDepth 20000
open Go.Fx.P (Arc aJ)
theorem agG {ps:List aJ} {rs:List P.Road} (h:Td ps rs=true):eQ ps rs:=by
 unfold Td at h
 exact @of_decide_eq_true _ (Classical.propDecidable _) h
set_option maxRecDepth 20000
open Go.Fx.P (Arc aJ)
def unb:LCode→LCode
 | .block _ c=>c
 | c=>c
def b4:LCode:=unb (pt 1 c4l0)
theorem c4l0_s:c4l0=.seq (pt 0 c4l0) (.seq (.block 1 (.seq (pt 0 b4) (.seq (pt 1 b4) (.seq (pt 2 b4) (.seq (pt 3 b4) (.seq (pt 4 b4) (.seq (pt 5 b4) (.seq (pt 6 b4) (pt 7 b4))))))))) (pt 2 c4l0)):=by rfl
abbrev roK (l:List Ky):V:=.ro 5 (l.map Ky.enc)
abbrev roR (l:List Rf):V:=.ro 24 (l.map Rf.enc)
structure E4 (ring:List Ky) (l:List Rf) (k:Nat) (e:Env):Prop where
 g0:get e 0=roK ring
 g2:get e 2=roR l
 g4:get e 4=.ptr 0 0 0
 g9:get e 9=.i k
structure H4 (ps:List aJ) (rs:List P.Road) (ring:List Ky) (l:List Rf):Prop where
 F:eQ ps rs
 R:pM ring
 rl:ring.length≤20
 ll:l.length≤20
 sg:∀ r∈l,r.sg.length=16
 ok:∀ r∈l,In64 [r.place,r.n,r.win,r.sent,r.lo,r.hi,r.serial]∧In64 r.cut
abbrev R4:St→Prop:=eU [] 0 [.tmp 6] (Is (.b true))
section
variable {N:St→Prop} {X:Nat→St→Prop} {e:Env} {b k:Nat} {ps:List aJ} {rs:List P.Road} {ring:List Ky} {l:List Rf}
theorem Rc {r:Rf}:r.enc[4]?=some (.ro 1 (r.cut.map P.encI)):=rfl
theorem ajA (hH:H4 ps rs ring l) (hE:E4 ring l k e) (hk:k<l.length) (hN:l[k].cut.length≤40→∀ e b,E4 ring l k e→N ⟨e,[.var [P.sps ps,P.rds rs]],b⟩):aw cT (pt 0 b4) N X R4 ⟨e,[.var [P.sps ps,P.rds rs]],b⟩:=by
 obtain ⟨h0,h2,h4,h9⟩:=hE
 conv=>arg 2;whnf
 simp -implicitDefEqProofs only [rX,↓rY,aA,↓reduceIte,Nat.reduceEqDiff,yac,yab,h2,h9,Rc]
 refine ⟨⟨by omega,by omega⟩,hk,?_⟩
 intro _
 cases hd:decide (40<(l[k].cut.length:Int)) with
 | true =>
  simp -implicitDefEqProofs only [↓rY]
  refine aD ok9 ⟨trivial,trivial⟩ rfl trivial ?_
  simp -implicitDefEqProofs only [rX,↓reduceIte,aQ,aT,wfV]
 | false =>
  have hd':=of_decide_eq_false hd
  simp -implicitDefEqProofs only [↓rY]
  exact hN (by omega) _ _ ⟨h0,h2,h4,h9⟩
theorem aiZ (hH:H4 ps rs ring l) (hE:E4 ring l k e) (hk:k<l.length) (hc:l[k].cut.length≤40) (hN:∀ e b,E4 ring l k e→N ⟨e,[.var [P.sps ps,P.rds rs]],b⟩):aw cT (pt 1 b4) N X R4 ⟨e,[.var [P.sps ps,P.rds rs]],b⟩:=by
 obtain ⟨h0,h2,h4,h9⟩:=hE
 have hm:l[k]∈l:=yah hk
 have hsg:=hH.sg _ hm
 have hro:l[k].Ok:=⟨(hH.ok _ hm).1,(hH.ok _ hm).2,by omega⟩
 conv=>arg 2;whnf
 simp -implicitDefEqProofs only [rX,↓rY,rdK,↓reduceIte,Nat.reduceEqDiff,Nat.reduceAdd,yac,yab,aG,h2,h4,h9,sV hsg,e9 hsg]
 refine ⟨⟨by omega,by omega⟩,hk,⟨by omega,by omega⟩,hk,?_⟩
 refine aD (aaW ps rs l[k] hH.F (by omega)) ⟨⟨aL.1,(cZ rfl).1,trivial⟩,aL.2,(cZ rfl).2,trivial⟩ rfl (by simp [aE,aB]) ?_
 simp -implicitDefEqProofs only [rX,↓reduceIte,Nat.reduceEqDiff,aG,sV hsg,e9 hsg]
 refine aD (aeP ps rs l[k] hH.F (by omega)) ⟨⟨aL.1,(cZ rfl).1,trivial⟩,aL.2,(cZ rfl).2,trivial⟩ rfl (by simp [aE,aB]) ?_
 simp -implicitDefEqProofs only [rX,↓rY,rdK,↓reduceIte,Nat.reduceEqDiff,Nat.reduceAdd,reduceCtorEq,yac,yab,aG,h0,h2,h4,h9,sV hsg,e9 hsg,bne_self_eq_false]
 refine ⟨⟨by omega,by omega⟩,hk,⟨by omega,by omega⟩,hk,?_⟩
 refine aD (aeL ring ps rs l[k] hH.F hro hH.R (by have:=hH.rl;omega) hsg) ⟨⟨trivial,aL.1,(cZ rfl).1,trivial⟩,⟨rfl,rfl⟩,aL.2,(cZ rfl).2,trivial⟩ rfl (by simp [aE,aB]) ?_
 simp -implicitDefEqProofs only [rX,↓rY,↓reduceIte,Nat.reduceEqDiff,aG,sV hsg,e9 hsg]
 refine aD (akW ring ps rs l[k] hH.F hro hH.R (by have:=hH.rl;omega) hsg) ⟨⟨trivial,aL.1,(cZ rfl).1,trivial⟩,⟨rfl,rfl⟩,aL.2,(cZ rfl).2,trivial⟩ rfl (by simp [aE,aB]) ?_
 simp -implicitDefEqProofs only [rX,↓rY,↓reduceIte,Nat.reduceEqDiff,sV hsg,e9 hsg,bne_self_eq_false]
 exact hN _ _ ⟨h0,h2,h4,h9⟩
def bE (ps:List aJ) (rs:List P.Road) (cut:List Int):Int × Int:=if iR (P.nN ps) cut then (bnd (P.cE ps rs) cut,0) else (0,110)
theorem agU {cut:List Int}:(if iR (P.nN ps) cut then [V.i (bnd (P.cE ps rs) cut),V.i 0] else [V.i 0,V.i 110])=[V.i (bE ps rs cut).1,V.i (bE ps rs cut).2]:=by
 unfold bE
 split<;>rfl
theorem aiY (hH:H4 ps rs ring l) (hE:E4 ring l k e) (hk:k<l.length) (hc:l[k].cut.length≤40)
  (hN:∀ e b,E4 ring l k e→get e 10=.i (bE ps rs l[k].cut).1→get e 11=.i (bE ps rs l[k].cut).2→N ⟨e,[.var [P.sps ps,P.rds rs]],b⟩):aw cT (pt 2 b4) N X R4 ⟨e,[.var [P.sps ps,P.rds rs]],b⟩:=by
 obtain ⟨h0,h2,h4,h9⟩:=hE
 have o:=aeK ps rs l[k].cut hH.F (by omega)
 rw [agU] at o
 conv=>arg 2;whnf
 simp -implicitDefEqProofs only [rX,↓rY,rdK,↓reduceIte,Nat.reduceEqDiff,Nat.reduceAdd,yac,yab,aG,h2,h4,h9,Rc]
 refine ⟨⟨by omega,by omega⟩,hk,?_⟩
 refine aD o o8 rfl (by simp [aE,aB]) ?_
 simp -implicitDefEqProofs only [rX,↓rY,↓reduceIte,Nat.reduceEqDiff]
 refine hN _ _ ⟨h0,h2,h4,h9⟩ ?_ ?_<;>rfl
theorem aiX (hH:H4 ps rs ring l) (hE:E4 ring l k e) (hk:k<l.length) (hc:l[k].cut.length≤40) (h10:get e 10=.i (bE ps rs l[k].cut).1) (h11:get e 11=.i (bE ps rs l[k].cut).2)
  (hN:∀ e b,E4 ring l k e→get e 10=.i (bE ps rs l[k].cut).1→get e 11=.i (bE ps rs l[k].cut).2→get e 12=.ptr 1 0 0→N ⟨e,[.var [P.sps ps,P.rds rs],.var [.i (bE ps rs l[k].cut).1,.i (bE ps rs l[k].cut).2]],b⟩):aw cT (pt 3 b4) N X R4 ⟨e,[.var [P.sps ps,P.rds rs]],b⟩:=by
 obtain ⟨h0,h2,h4,h9⟩:=hE
 have o:=aeJ ps rs l[k].cut hH.F (by omega)
 rw [agU] at o
 conv=>arg 2;whnf
 simp -implicitDefEqProofs only [rX,↓rY,rdK,aA,cells?,↓reduceIte,Nat.reduceEqDiff,Nat.reduceAdd,aC,yac,yab,aG,h2,h4,h9,Rc]
 refine ⟨⟨by omega,by omega⟩,hk,?_,?_⟩ <;>
 ·refine aD o ⟨⟨aL.1,trivial,trivial⟩,aL.2,⟨rfl,rfl⟩,trivial⟩ rfl (by simp [aE,aB]) ?_
  simp -implicitDefEqProofs only [rX,↓rY,aA,cells?,splice,↓reduceIte,Nat.reduceEqDiff,Nat.reduceAdd,aC,isC,aG]
  refine hN _ _ ⟨h0,h2,h4,h9⟩ ?_ ?_ ?_
  ·exact h10
  ·exact h11
  ·rfl
theorem aiW (hH:H4 ps rs ring l) (hE:E4 ring l k e) (hk:k<l.length) (hc:l[k].cut.length≤40) (h10:get e 10=.i (bE ps rs l[k].cut).1) (h11:get e 11=.i (bE ps rs l[k].cut).2) (h12:get e 12=.ptr 1 0 0)
  (hN:∀ e b,E4 ring l k e→get e 10=.i (bE ps rs l[k].cut).1→get e 11=.i (bE ps rs l[k].cut).2→get e 12=.ptr 1 0 0→get e 13=P.li (uW ps l[k].cut)→get e 14=P.li (uV ps rs l[k].cut) →
   N ⟨e,[.var [P.sps ps,P.rds rs],.var [.i (bE ps rs l[k].cut).1,.i (bE ps rs l[k].cut).2]],b⟩):aw cT (pt 4 b4) N X R4 ⟨e,[.var [P.sps ps,P.rds rs],.var [.i (bE ps rs l[k].cut).1,.i (bE ps rs l[k].cut).2]],b⟩:=by
 obtain ⟨h0,h2,h4,h9⟩:=hE
 have o:=aeI ps rs l[k].cut hH.F (by omega)
 conv=>arg 2;whnf
 simp -implicitDefEqProofs only [rX,↓rY,rdK,↓reduceIte,Nat.reduceEqDiff,Nat.reduceAdd,yac,yab,aG,h2,h4,h9,Rc]
 refine ⟨⟨by omega,by omega⟩,hk,?_⟩
 refine aD o o8 rfl (by simp [aE,aB]) ?_
 simp -implicitDefEqProofs only [rX,↓rY,↓reduceIte,Nat.reduceEqDiff]
 refine hN _ _ ⟨h0,h2,h4,h9⟩ ?_ ?_ ?_ ?_ ?_
 ·exact h10
 ·exact h11
 ·exact h12
 ·rfl
 ·rfl
structure F4 (ps:List aJ) (rs:List P.Road) (cut:List Int) (e:Env):Prop where
 g10:get e 10=.i (bE ps rs cut).1
 g11:get e 11=.i (bE ps rs cut).2
 g12:get e 12=.ptr 1 0 0
 g13:get e 13=P.li (uW ps cut)
 g14:get e 14=P.li (uV ps rs cut)
 g15:get e 15=.ptr 2 0 0
theorem aiV (hH:H4 ps rs ring l) (hE:E4 ring l k e) (hk:k<l.length) (hc:l[k].cut.length≤40) (h10:get e 10=.i (bE ps rs l[k].cut).1) (h11:get e 11=.i (bE ps rs l[k].cut).2) (h12:get e 12=.ptr 1 0 0) (h13:get e 13=P.li (uW ps l[k].cut)) (h14:get e 14=P.li (uV ps rs l[k].cut))
  (hN:∀ e b,E4 ring l k e→F4 ps rs l[k].cut e→N ⟨e,[.var [P.sps ps,P.rds rs],.var [.i (bE ps rs l[k].cut).1,.i (bE ps rs l[k].cut).2],.var [P.li (uW ps l[k].cut),P.li (uV ps rs l[k].cut)]],b⟩) :
  aw cT (pt 5 b4) N X R4 ⟨e,[.var [P.sps ps,P.rds rs],.var [.i (bE ps rs l[k].cut).1,.i (bE ps rs l[k].cut).2]],b⟩:=by
 obtain ⟨h0,h2,h4,h9⟩:=hE
 have o:=akV ps rs l[k].cut hH.F (by omega)
 conv=>arg 2;whnf
 simp -implicitDefEqProofs only [rX,↓rY,rdK,aA,cells?,↓reduceIte,Nat.reduceEqDiff,Nat.reduceAdd,aC,yac,yab,aG,h2,h4,h9,Rc]
 refine ⟨⟨by omega,by omega⟩,hk,?_,?_⟩ <;>
 ·refine aD o o8 rfl (by simp [aE,aB]) ?_
  unfold P.li
  simp -implicitDefEqProofs only [rX,↓rY,aA,cells?,splice,↓reduceIte,Nat.reduceEqDiff,Nat.reduceAdd,aC,isC,aG]
  refine hN _ _ ⟨h0,h2,h4,h9⟩ ⟨?_,?_,?_,?_,?_,?_⟩
  ·exact h10
  ·exact h11
  ·exact h12
  ·exact h13
  ·exact h14
  ·rfl
theorem Sx {cut:List Int} (hF:eQ ps rs):(uW ps cut).length≤1000:=by
 unfold uW
 split
 ·have:=Ly (ps:=ps) (cut:=cut) (k:=ps.length)
  have:=hF.pl
  omega
 ·simp
theorem Sw {cut:List Int} (hF:eQ ps rs):(uV ps rs cut).length≤1000:=by
 unfold uV
 split
 ·have:=Lx (rs:=rs) (cut:=cut) (k:=rs.length)
  have:=hF.rl
  omega
 ·simp
theorem My {h:List Blk} {g:Nat→Option Nat} {m:List Int}:aF h g [P.li m,P.li m]∧wkL [bI' m,bI' m] (aU h g [P.li m,P.li m]):=⟨⟨trivial,trivial,trivial⟩,⟨rfl,rfl⟩,⟨rfl,rfl⟩,trivial⟩
theorem aiU (hH:H4 ps rs ring l) {hk:k<l.length} (hE:E4 ring l k e) (hF:F4 ps rs l[k].cut e)
  (hN:∀ e b,E4 ring l k e→get e 140=.b false→N ⟨e,[.var [P.sps ps,P.rds rs],.var [.i (bE ps rs l[k].cut).1,.i (bE ps rs l[k].cut).2],.var [P.li (uW ps l[k].cut),P.li (uV ps rs l[k].cut)]],b⟩) :
  aw cT (pt 6 b4) N X R4 ⟨e,[.var [P.sps ps,P.rds rs],.var [.i (bE ps rs l[k].cut).1,.i (bE ps rs l[k].cut).2],.var [P.li (uW ps l[k].cut),P.li (uV ps rs l[k].cut)]],b⟩:=by
 obtain ⟨h0,h2,h4,h9⟩:=hE
 obtain ⟨h10,h11,h12,h13,h14,h15⟩:=hF
 conv=>arg 2;whnf
 simp -implicitDefEqProofs only [rX,↓rY,↓reduceIte,Nat.reduceEqDiff,Nat.reduceAdd,h10,h11,h12,h13,h15,bne_self_eq_false]
 refine aD (aaV _ (by have:=Sx (cut:=l[k].cut) hH.F;omega)) My rfl trivial ?_
 simp -implicitDefEqProofs only [rX,↓rY,↓reduceIte,Nat.reduceEqDiff,h14,h15]
 refine aD (aaV _ (by have:=Sw (rs:=rs) (cut:=l[k].cut) hH.F;omega)) My rfl trivial ?_
 simp -implicitDefEqProofs only [rX,↓rY,↓reduceIte,Nat.reduceEqDiff]
 refine hN _ _ ⟨h0,h2,h4,h9⟩ ?_
 rfl
theorem aiT {h:List Blk} (hE:E4 ring l k e) (h140:get e 140=.b false) (hN:∀ e b,E4 ring l k e→N ⟨e,h,b⟩):aw cT (pt 7 b4) N X R4 ⟨e,h,b⟩:=by
 obtain ⟨h0,h2,h4,h9⟩:=hE
 conv=>arg 2;whnf
 simp -implicitDefEqProofs only [rX,↓rY,h140]
 exact hN _ _ ⟨h0,h2,h4,h9⟩
end
set_option maxRecDepth 20000
open Go.Fx.P (Arc aJ)
structure C4 (l:List Rf) (k:Nat):Prop where
 le:k≤l.length
 c:∀ j (h:j<l.length),j<k→l[j].cut.length≤40
theorem ok4 (ring:List Ky) (ps:List aJ) (rs:List P.Road) (l:List Rf) (hsg:∀ r∈l,r.sg.length=16) (hok:∀ r∈l,In64 [r.place,r.n,r.win,r.sent,r.lo,r.hi,r.serial]∧In64 r.cut) :
  Ok 4 [roK ring,P.bC ps rs,roR l] (Is (.b true)):=by
 refine ok_of lw4 (by simp) ?_
 unfold c4 P.bC
 simp -implicitDefEqProofs only [rX,↓rY,aA,cells?,↓reduceIte,Nat.reduceEqDiff,Nat.reduceAdd,reduceCtorEq,aC,aN]
 refine aD (ok8 ps rs) ⟨⟨aL.1,trivial⟩,aL.2,trivial⟩ rfl trivial ?_
 cases hf:Td ps rs with
 | false =>
  simp -implicitDefEqProofs only [rX,↓rY,aA,↓reduceIte,Nat.reduceEqDiff]
  refine aD ok9 ⟨trivial,trivial⟩ rfl trivial ?_
  simp -implicitDefEqProofs only [rX,↓reduceIte,aQ,aT,wfV]
 | true =>
 have hF:=agG hf
 simp -implicitDefEqProofs only [rX,↓rY,aA,↓reduceIte,Nat.reduceEqDiff,reduceCtorEq]
 intro _
 cases d1:decide (20<(ring.length:Int)) with
 | true =>
  simp -implicitDefEqProofs only [↓rY]
  refine aD ok9 ⟨trivial,trivial⟩ rfl trivial ?_
  simp -implicitDefEqProofs only [rX,↓reduceIte,aQ,aT,wfV]
 | false =>
 have d1':=of_decide_eq_false d1
 simp -implicitDefEqProofs only [↓rY]
 intro _
 cases d2:decide (20<(l.length:Int)) with
 | true =>
  simp -implicitDefEqProofs only [↓rY]
  refine aD ok9 ⟨trivial,trivial⟩ rfl trivial ?_
  simp -implicitDefEqProofs only [rX,↓reduceIte,aQ,aT,wfV]
 | false =>
 have d2':=of_decide_eq_false d2
 simp -implicitDefEqProofs only [↓rY]
 refine aD (akX ring (by omega)) ⟨⟨trivial,trivial⟩,⟨rfl,rfl⟩,trivial⟩ rfl trivial ?_
 cases hr:sU ring with
 | false =>
  simp -implicitDefEqProofs only [rX,↓rY,↓reduceIte]
  refine aD ok9 ⟨trivial,trivial⟩ rfl trivial ?_
  simp -implicitDefEqProofs only [rX,↓reduceIte,aQ,aT,wfV]
 | true =>
 have hH:H4 ps rs ring l:=⟨hF,(Vy hr).1,by omega,by omega,hsg,hok⟩
 simp -implicitDefEqProofs only [rX,↓rY,aA,↓reduceIte,aG]
 refine bN (fun k:Nat=>(⟨[(9,.i k),(4,.ptr 0 0 0),(2,roR l),(0,roK ring)],[.var [P.sps ps,P.rds rs]],0⟩:St)) (C4 l) (fun k=>l.length-k) 0 ⟨yai _,fun _ _ h=>by omega⟩ ?_ ?_
 ·simp -implicitDefEqProofs only [rX,↓reduceIte,Nat.reduceEqDiff,reduceCtorEq,leE,leH,leB,leV,bD,aE,aB,wfE,wfB,wfV,wfL,P.sps,P.rds]
  rfl
 intro k hI N hN
 have hk:=hI.le
 rw [c4l0_s]
 simp only [zc]
 conv=>arg 2;whnf
 simp -implicitDefEqProofs only [rX,↓rY,↓reduceIte,Nat.reduceEqDiff,Nat.reduceAdd]
 intro _
 cases hd:decide ((k:Int)<(l.length:Int)) with
 | true =>
  have hd':=of_decide_eq_true hd
  have hkl:k<l.length:=by omega
  simp only [wc]
  refine ajA hH ⟨rfl,rfl,rfl,rfl⟩ hkl fun hc e b hE=>?_
  rw [zc]
  refine aiZ hH hE hkl hc fun e b hE=>?_
  rw [zc]
  refine aiY hH hE hkl hc fun e b hE h10 h11=>?_
  rw [zc]
  refine aiX hH hE hkl hc h10 h11 fun e b hE h10 h11 h12=>?_
  rw [zc]
  refine aiW hH hE hkl hc h10 h11 h12 fun e b hE h10 h11 h12 h13 h14=>?_
  rw [zc]
  refine aiV hH hE hkl hc h10 h11 h12 h13 h14 fun e b hE hF4=>?_
  rw [zc]
  refine aiU hH hE hF4 fun e b hE h140=>?_
  refine aiT hE h140 fun e b hE=>?_
  obtain ⟨h0,h2,h4,h9⟩:=hE
  conv=>arg 2;whnf
  simp -implicitDefEqProofs only [rX,↓rY,aA,↓reduceIte,Nat.reduceAdd,h9]
  refine ⟨⟨by simp only [lo];omega,by simp only [Fx.hi];omega⟩,hN _ (k+1) ⟨by omega,fun j hj hlt=>?_⟩ (by omega) ?_⟩
  ·by_cases e:j=k
   ·subst e;exact hc
   ·exact hI.c j hj (by omega)
  simp -implicitDefEqProofs only [rX,↓reduceIte,Nat.reduceEqDiff,reduceCtorEq,leE,leH,leB,leV,bD,aE,aB,wfE,wfB,wfV,wfL,h0,h2,h4,P.sps,P.rds]
  omega
 | false =>
  have hd':=of_decide_eq_false hd
  simp -implicitDefEqProofs only [↓rY]
  have hcl:∀ r∈l,r.cut.length≤1000000:=fun r hr=>by
   obtain ⟨j,hj,rfl⟩:=yaG hr
   have:=hI.c j hj (by omega)
   omega
  refine aD (aeH ps rs l hF (by omega) hsg hcl) ⟨⟨aL.1,trivial,trivial⟩,aL.2,⟨rfl,rfl⟩,trivial⟩ rfl trivial ?_
  simp -implicitDefEqProofs only [rX,↓rY,↓reduceIte,Nat.reduceEqDiff,Nat.reduceAdd]
  refine aD (akU ps rs l hF (by omega) hsg hcl) ⟨⟨aL.1,trivial,trivial⟩,aL.2,⟨rfl,rfl⟩,trivial⟩ rfl trivial ?_
  simp -implicitDefEqProofs only [rX,↓rY,aA,cells?,splice,↓reduceIte,Nat.reduceEqDiff,Nat.reduceAdd,aC,isC,aM]
  refine aD ok9 ⟨trivial,trivial⟩ rfl trivial ?_
  simp -implicitDefEqProofs only [rX,↓rY,↓reduceIte,Nat.reduceEqDiff,aQ,aT,wfV,beq_self_eq_true]
set_option maxRecDepth 20000
open Go.Fx.P (Arc aJ)
theorem agF {f:FuncId} {xs:List V} (h:Ok f xs (Is (.b true))):Fn Tryz.prog f xs [] [] (fun r _=>r=.b true):=(Rv h fun r h' hr=>hr.1).2
abbrev tI:Fx.T:=.int .i64
abbrev tLi:Fx.T:=.sl 1 tI
abbrev tPl:Fx.T:=.st [.sl 3 (.st [tI,tI,tI]),.sl 4 (.st [tI,tI,tI,tI])]
abbrev tKy:Fx.T:=.st [tI,tI,.str,tI,tI]
abbrev tPe:Fx.T:=.st [tI,tI]
abbrev tSg:Fx.T:=.st (yaU 16 (.int .u8))
abbrev tRf:Fx.T:=.st [tI,tI,tI,tI,tLi,tPe,tI,tSg]
theorem gN {k:IntKind} {x:List V} (h:WfT (.int k) x):∃ n:Int,x=[.v (.int k n)]∧lo k≤n∧n≤hi k:=by
 simpa only [WfT] using h
theorem dY {t:Fx.T} {ts:List Fx.T} {x:List V} (h:mB (t::ts) x):∃ a b,x=a++b∧WfT t a∧mB ts b:=by
 rwa [mB.eq_2] at h
theorem exM {α β:Type} {g:α→β} {p:α→Prop}:∀ {els:List β},(∀ x∈els,∃ a,x=g a∧p a)→∃ l:List α,els=l.map g∧∀ a∈l,p a
 | [],_=>⟨[],rfl,by simp⟩
 | x::r,h=>by
  obtain ⟨a,rfl,ha⟩:=h x yaB
  obtain ⟨l,rfl,hl⟩:=exM (els:=r) fun y hy=>h y (yay _ hy)
  exact ⟨a::l,rfl,fun b hb=>(yae.1 hb).elim (fun e=>e▸ha) (hl b)⟩
theorem p6 {n:Int} (h:lo .i64≤n∧n≤hi .i64):-9223372036854775808≤n∧n≤9223372036854775807:=h
theorem acP {x:List V} (h:WfT tLi x):∃ l:List Int,x=[P.li l]∧In64 l:=by
 rw [WfT] at h
 obtain ⟨els,rfl,_,he⟩:=h
 obtain ⟨l,rfl,hl⟩:=exM (g:=P.encI) (p:=fun n=>-9223372036854775808≤n∧n≤9223372036854775807) fun x hx=>by
  obtain ⟨n,e,hn⟩:=gN (he x hx)
  exact ⟨n,e,p6 hn⟩
 exact ⟨l,rfl,hl⟩
theorem wf_sp {x:List V} (h:WfT (.st [tI,tI,tI]) x):∃ a:aJ,x=a.enc:=by
 simp only [WfT,mB] at h
 obtain ⟨_,_,rfl,⟨a,rfl,_⟩,_,_,rfl,⟨b,rfl,_⟩,_,_,rfl,⟨c,rfl,_⟩,rfl⟩:=h
 exact ⟨⟨a,b,c⟩,rfl⟩
theorem wf_rd {x:List V} (h:WfT (.st [tI,tI,tI,tI]) x):∃ a:P.Road,x=a.enc:=by
 simp only [WfT,mB] at h
 obtain ⟨_,_,rfl,⟨a,rfl,_⟩,_,_,rfl,⟨b,rfl,_⟩,_,_,rfl,⟨c,rfl,_⟩,_,_,rfl,⟨d,rfl,_⟩,rfl⟩:=h
 exact ⟨⟨a,b,c,d⟩,rfl⟩
theorem wf_plant {x:V} (h:WfV tPl x):∃ ps rs,x=P.bC ps rs:=by
 obtain ⟨cs,h,rfl⟩:=h
 obtain ⟨_,_,rfl,q0,h⟩:=dY h
 obtain ⟨_,_,rfl,q1,h⟩:=dY h
 rw [mB.eq_1] at h
 subst h
 rw [WfT] at q0 q1
 obtain ⟨els,rfl,_,he⟩:=q0
 obtain ⟨els',rfl,_,he'⟩:=q1
 obtain ⟨ps,rfl,_⟩:=exM (g:=aJ.enc) (p:=fun _=>True) fun x hx=>(wf_sp (he x hx)).imp fun a e=>⟨e,trivial⟩
 obtain ⟨rs,rfl,_⟩:=exM (g:=P.Road.enc) (p:=fun _=>True) fun x hx=>(wf_rd (he' x hx)).imp fun a e=>⟨e,trivial⟩
 exact ⟨ps,rs,rfl⟩
theorem Zz {x:List V} (h:WfT tKy x):∃ k:Ky,x=k.enc∧In64 [k.party,k.serial]:=by
 rw [WfT] at h
 obtain ⟨_,_,rfl,q0,h⟩:=dY h
 obtain ⟨_,_,rfl,q1,h⟩:=dY h
 obtain ⟨_,_,rfl,q2,h⟩:=dY h
 obtain ⟨_,_,rfl,q3,h⟩:=dY h
 obtain ⟨_,_,rfl,q4,h⟩:=dY h
 rw [mB.eq_1] at h
 subst h
 obtain ⟨n0,rfl,h0⟩:=gN q0
 obtain ⟨n1,rfl,h1⟩:=gN q1
 rw [WfT] at q2
 obtain ⟨s,rfl,_⟩:=q2
 obtain ⟨l,rfl⟩:=acW (b:=s)
 obtain ⟨n3,rfl,_⟩:=gN q3
 obtain ⟨n4,rfl,_⟩:=gN q4
 refine ⟨⟨n0,n1,l,n3,n4⟩,rfl,fun x hx=>?_⟩
 simp only [yae,yav,or_false] at hx
 rcases hx with rfl|rfl
 ·exact p6 h0
 ·exact p6 h1
theorem acO {x:List V} (h:WfT tPe x):∃ a b:Int,x=[.i a,.i b]∧In64 [a,b]:=by
 rw [WfT] at h
 obtain ⟨_,_,rfl,q0,h⟩:=dY h
 obtain ⟨_,_,rfl,q1,h⟩:=dY h
 rw [mB.eq_1] at h
 subst h
 obtain ⟨n0,rfl,h0⟩:=gN q0
 obtain ⟨n1,rfl,h1⟩:=gN q1
 refine ⟨n0,n1,rfl,fun x hx=>?_⟩
 simp only [yae,yav,or_false] at hx
 rcases hx with rfl|rfl
 ·exact p6 h0
 ·exact p6 h1
theorem Xy:∀ {n:Nat} {x:List V},mB (yaU n (.int .u8)) x→∃ l:Bs,l.length=n∧x=us l
 | 0,x,h=>⟨[],rfl,by simpa [mB,us] using h⟩
 | n+1,x,h=>by
  rw [ybd] at h
  obtain ⟨_,_,e0,q0,hr⟩:=dY h
  obtain ⟨m,rfl,h0⟩:=gN q0
  obtain ⟨l,rfl,rfl⟩:=Xy hr
  subst e0
  obtain ⟨k,rfl⟩:=Int.eq_ofNat_of_zero_le (show 0≤m from h0.1)
  have hk:k<256:=by
   have:(k:Int)≤255:=h0.2
   omega
  refine ⟨UInt8.ofNat k::l,rfl,?_⟩
  have e:(UInt8.ofNat k).toNat=k:=by simp;omega
  simp [us,u8,e]
theorem acN {x:List V} (h:WfT tRf x):∃ r:Rf,x=r.enc∧r.sg.length=16∧In64 [r.place,r.n,r.win,r.sent,r.lo,r.hi,r.serial]∧In64 r.cut:=by
 rw [WfT] at h
 obtain ⟨_,_,rfl,q0,h⟩:=dY h
 obtain ⟨_,_,rfl,q1,h⟩:=dY h
 obtain ⟨_,_,rfl,q2,h⟩:=dY h
 obtain ⟨_,_,rfl,q3,h⟩:=dY h
 obtain ⟨_,_,rfl,q4,h⟩:=dY h
 obtain ⟨_,_,rfl,q5,h⟩:=dY h
 obtain ⟨_,_,rfl,q6,h⟩:=dY h
 obtain ⟨_,_,rfl,q7,h⟩:=dY h
 rw [mB.eq_1] at h
 subst h
 obtain ⟨n0,rfl,h0⟩:=gN q0
 obtain ⟨n1,rfl,h1⟩:=gN q1
 obtain ⟨n2,rfl,h2⟩:=gN q2
 obtain ⟨n3,rfl,h3⟩:=gN q3
 obtain ⟨l,rfl,hl⟩:=acP q4
 obtain ⟨a,b,rfl,hab⟩:=acO q5
 obtain ⟨n6,rfl,h6⟩:=gN q6
 rw [WfT] at q7
 obtain ⟨s,hs,rfl⟩:=Xy q7
 refine ⟨⟨n0,n1,n2,n3,l,a,b,n6,s⟩,by simp [Rf.enc],hs,fun x hx=>?_,hl⟩
 simp only [yae,yav,or_false] at hx
 rcases hx with rfl|rfl|rfl|rfl|rfl|rfl|rfl
 ·exact p6 h0
 ·exact p6 h1
 ·exact p6 h2
 ·exact p6 h3
 ·exact hab _ (by simp)
 ·exact hab _ (by simp)
 ·exact p6 h6
theorem Ve {x:V} (h:WfV (.sl 5 tKy) x):∃ l:List Ky,x=roK l:=by
 have h:WfT (.sl 5 tKy) [x]:=h
 rw [WfT] at h
 obtain ⟨els,e,_,he⟩:=h
 obtain ⟨l,rfl,_⟩:=exM (g:=Ky.enc) (p:=fun _=>True) fun y hy=>(Zz (he y hy)).imp fun a e=>⟨e.1,trivial⟩
 exact ⟨l,by simpa using e⟩
theorem Zx {x:V} (h:WfV (.sl 24 tRf) x):∃ l:List Rf,x=roR l∧(∀ r∈l,r.sg.length=16)∧∀ r∈l,In64 [r.place,r.n,r.win,r.sent,r.lo,r.hi,r.serial]∧In64 r.cut:=by
 have h:WfT (.sl 24 tRf) [x]:=h
 rw [WfT] at h
 obtain ⟨els,e,_,he⟩:=h
 obtain ⟨l,rfl,hl⟩:=exM (g:=Rf.enc) (p:=fun r=>r.sg.length=16∧In64 [r.place,r.n,r.win,r.sent,r.lo,r.hi,r.serial]∧In64 r.cut) fun y hy=>acN (he y hy)
 exact ⟨l,by simpa using e,fun r hr=>(hl r hr).1,fun r hr=>(hl r hr).2⟩
theorem fn4:∀ xs,WfA [.sl 5 tKy,tPl,.sl 24 tRf] xs→Fn Tryz.prog 4 xs [] [] (fun r _=>r=.b true):=by
 intro xs h
 obtain ⟨x1,_,rfl,h1,x2,_,rfl,h2,x3,_,rfl,h3,h⟩:=h
 obtain rfl:_=[]:=h
 obtain ⟨ring,rfl⟩:=Ve h1
 obtain ⟨ps,rs,rfl⟩:=wf_plant h2
 obtain ⟨l,rfl,hs,ho⟩:=Zx h3
 exact agF (ok4 ring ps rs l hs ho)
end Go.Fx.E
