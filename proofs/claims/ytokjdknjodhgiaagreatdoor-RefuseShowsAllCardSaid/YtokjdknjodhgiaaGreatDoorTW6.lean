import Derived.Test.YtokjdknjodhgiaaGreatDoorT30
import Derived.Test.YtokjdknjodhgiaaGreatDoorFxRX
import Derived.Test.YtokjdknjodhgiaaGreatDoorPTC25
set_option linter.unusedVariables false
set_option linter.unusedSimpArgs false
set_option linter.unusedSectionVars false
open List renaming length_append → yaa, getElem?_eq_getElem → yab, mem_cons → yac, map → yad, getD_eq_getElem?_getD → yae, range → yaf, take → yag, length_map → yai, mem_filter → yaj, take_of_length_le → yak, getElem_map → yal, map_append → yam, getElem_mem → yan, length_nil → yaq, length_range → yar, append_nil → yas, mem_cons_of_mem → yat, map_cons → yau, not_mem_nil → yaw, filter_append → yax, length_take → yay, mem_append → yaA, getElem?_map → yaB, length_cons → yaC, getElem_cons_succ → yaE, getElem_cons_zero → yaF, mem_singleton → yaG, take_append_getElem → yaH, mem_cons_self → yaI, mem_map → yaJ, getD_cons_succ → yaL, getD_cons_zero → yaM, pairwise_singleton → yaN, getElem_append_left → yaP, getElem?_append_right → yaQ, length_filterMap_le → yaR, mem_of_mem_head? → yaS, replicate_succ → yaT, getElem_of_mem → yaU, pairwise_append → yaW, pairwise_iff_getElem → yaX
open Nat renaming le_refl → yah, zero_le → yav
open Option renaming getD_some → yao
open Int renaming toNat_natCast → yap, le_refl → yaO, toNat_of_nonneg → yaV
open Bool renaming and_eq_true → yaz, false_eq_true → yaD, and_eq_false_iff → yaY
open Option.some renaming injEq → yaK
namespace Go.Fx.E
open Go Go.Fx Go.Proofs
set_option maxRecDepth 20000
open Go.Fx.P (Arc aF)
def kd (q:Nat):Int:=if q=0 then 1 else 3
abbrev h62 (ps:List aF) (rs:List P.Road):List Blk:=[.var [.ro 3 (ps.map aF.enc),P.rds rs],.arr 1 [[.i 1],[.i 3]]]
set_option maxHeartbeats 1000000 in
theorem ajR (ps:List aF) (rs:List P.Road) (k:Nat) (hF:eU ps rs) (o:Int × Int) (ho:(pY ps rs)[k]?=some o):Ok 62 [P.bD ps rs,.i k] (Is (.tup [.i o.1,.i o.2])):=by
 have hpl:=hF.pl
 have hrl:=hF.rl
 have hko:k<(pY ps rs).length:=by
  rcases Nat.lt_or_ge k (pY ps rs).length with c|c
  ·exact c
  ·rw [List.getElem?_eq_none c] at ho;cases ho
 have hlen:(pY ps rs).length=ps.length+(gone ps 2 0).length+rs.length:=by
  show (pY ps rs).length=ps.length+(P.ofN ps 1 ps.length++P.ofN ps 3 ps.length).length+rs.length
  unfold pY;simp;omega
 have hgl:(gone ps 2 0).length≤12:=by
  show (P.ofN ps 1 ps.length++P.ofN ps 3 ps.length).length≤12
  have h1:=P.fF (ps:=ps) (kind:=1) (n:=ps.length)
  have h2:=P.fF (ps:=ps) (kind:=3) (n:=ps.length)
  rw [yaa];omega
 have hkb:k≤100:=by omega
 refine ok_of lw62 (by simp) ?_
 unfold c62 P.bD P.sps
 simp -implicitDefEqProofs only [rX,↓rY,aA,cells?,↓reduceIte,Nat.reduceEqDiff,Nat.reduceAdd,reduceCtorEq,aC,cG,aQ,aU,wfV,wfL,isD,Nat.reduceLT,aJ,aL]
 intro _
 cases h0:decide ((k:Int)<(ps.length:Int)) with
 | true =>
  have h0':=of_decide_eq_true h0
  rw [Oc (by omega)] at ho
  cases ho
  simp -implicitDefEqProofs only [↓rY]
 | false =>
  have h0':=of_decide_eq_false h0
  simp -implicitDefEqProofs only [↓rY]
  refine fun _=>⟨⟨by simp only [lo];omega,by simp only [Fx.hi];omega⟩,fun _=>?_⟩
  refine dB (fun q:Nat=>(⟨[(23,.i q),(22,.i 2),(21,.sl 1 0 2),(2,.ptr 0 0 0),(1,.i ((k:Int)-ps.length-(gone ps q 0).length))],h62 ps rs,2⟩:St)) (fun q=>q≤2∧ps.length+(gone ps q 0).length≤k) (fun q=>2-q) 0 ⟨by omega,by simp [gone,P.ofN];omega⟩ ?_ ?_
  ·exact ⟨by simp -implicitDefEqProofs only [rX,↓reduceIte,Nat.reduceEqDiff,leE];exact ⟨rfl,rfl,by simp [gone,P.ofN]⟩,bV _,trivial,by simp -implicitDefEqProofs only [rX,aB,wfE,wfV,h62],by simp -implicitDefEqProofs only [rX,wfB,wfV,wfL,h62,P.rds]⟩
  rintro q ⟨hq,hqk⟩ N hN
  simp only [c62l0,h62]
  simp -implicitDefEqProofs only [rX,↓rY,aA,↓reduceIte,Nat.reduceEqDiff,cU,Nat.reduceAdd,aQ,aU,wfV,wfL,yap,aJ]
  cases h1:decide ((q:Int)<2) with
  | false =>
   have h1':=of_decide_eq_false h1
   obtain rfl:q=2:=by omega
   obtain ⟨a,ha⟩:∃ a,k=ps.length+(gone ps 2 0).length+a:=⟨k-(ps.length+(gone ps 2 0).length),by omega⟩
   rw [ha,Rg (by omega)] at ho
   cases ho
   simp -implicitDefEqProofs only [↓rY]
   have:(k:Int)-ps.length-(gone ps 2 0).length=(a:Int):=by omega
   rw [this]
  | true =>
   have h1':=of_decide_eq_true h1
   have hq2:q<2:=by omega
   simp -implicitDefEqProofs only [↓rY]
   refine ⟨⟨by omega,by omega⟩,by simpa using hq2,?_⟩
   have hkd:∀ h:q<[[V.i 1],[V.i 3]].length,([[V.i 1],[V.i 3]][q]'h)[0]?=some (.i (kd q)):=by
    rcases (by omega:q=0∨q=1) with rfl|rfl<;>intro h<;>rfl
   rw [hkd]
   simp -implicitDefEqProofs only [↓rY]
   intro hml
   refine dB (fun j:Nat=>(⟨[(30,.i j),(29,.i ps.length),(28,.ro 3 (ps.map aF.enc)),(7,.i (kd q)),(23,.i q),(22,.i 2),(21,.sl 1 0 2),(2,.ptr 0 0 0),(1,.i ((k:Int)-ps.length-(gone ps q j).length))],h62 ps rs,2⟩:St)) (fun j=>j≤ps.length∧ps.length+(gone ps q j).length≤k) (fun j=>ps.length-j) 0 ⟨by omega,hqk⟩ ?_ ?_
   ·exact ⟨by simp -implicitDefEqProofs only [rX,↓reduceIte,Nat.reduceEqDiff,leE];rfl,bV _,trivial,by simp -implicitDefEqProofs only [rX,aB,wfE,wfV,h62],by simp -implicitDefEqProofs only [rX,wfB,wfV,wfL,h62,P.rds]⟩
   rintro j ⟨hj,hjk⟩ N1 hN1
   simp only [c62l1,h62]
   simp -implicitDefEqProofs only [rX,↓rY,aA,cells?,splice,↓reduceIte,Nat.reduceEqDiff,Nat.reduceAdd,aC,aQ,aU,wfV,wfL,yal,yap,aZ]
   cases h2:decide ((j:Int)<(ps.length:Int)) with
   | false =>
    have h2':=of_decide_eq_false h2
    obtain rfl:j=ps.length:=by omega
    rw [abF hq2] at hjk ⊢
    simp -implicitDefEqProofs only [↓rY]
    refine ⟨⟨by simp only [lo];omega,by simp only [Fx.hi];omega⟩,hN _ (q+1) ⟨by omega,hjk⟩ (by omega) ?_⟩
    exact ⟨by simp -implicitDefEqProofs only [rX,↓reduceIte,Nat.reduceEqDiff,leE];simp,bV _,trivial,by simp -implicitDefEqProofs only [rX,aB,wfE,wfV,h62],by simp -implicitDefEqProofs only [rX,wfB,wfV,wfL,h62,P.rds]⟩
   | true =>
    have h2':=of_decide_eq_true h2
    have hj':j<ps.length:=by omega
    have hs:gone ps q (j+1)=gone ps q j++(if ps[j].kind=kd q then [j] else []):=abE hq2 hj'
    have b0:lo IntKind.i64≤(j:Int)+1∧(j:Int)+1≤Fx.hi IntKind.i64:=⟨by simp only [lo];omega,by simp only [Fx.hi];omega⟩
    simp -implicitDefEqProofs only [rX,↓rY,yab hj',P.mQ,P.iQ,P.vL,P.nX]
    refine ⟨⟨by omega,by omega⟩,hj',?_⟩
    cases h3:(ps[j].kind != kd q) with
    | true =>
     have h3':=bne_iff_ne.1 h3
     rw [if_neg h3',yas] at hs
     simp -implicitDefEqProofs only [↓rY]
     refine ⟨b0,hN1 _ (j+1) ⟨by omega,by rw [hs];exact hjk⟩ (by omega) ?_⟩
     rw [hs]
     exact ⟨by simp -implicitDefEqProofs only [rX,↓reduceIte,Nat.reduceEqDiff,leE];rfl,⟨bB _,bB _,trivial⟩,trivial,by simp -implicitDefEqProofs only [rX,aB,wfE,wfV,h62],by simp -implicitDefEqProofs only [rX,wfB,wfV,wfL,h62,P.rds]⟩
    | false =>
     have h3':ps[j].kind=kd q:=by simpa using h3
     rw [if_pos h3'] at hs
     simp -implicitDefEqProofs only [↓rY]
     cases h4:((k:Int)-ps.length-(gone ps q j).length==0) with
     | true =>
      have h4':=eq_of_beq h4
      obtain ⟨r,hr⟩:=Wk (ps:=ps) hq2 (show j+1≤ps.length by omega)
      have hg:(gone ps 2 0)[(gone ps q j).length]?=some j:=by
       rw [hr,hs,List.append_assoc,yaQ (yah _),Nat.sub_self];rfl
      have:=Rh (rs:=rs) hg
      rw [show ps.length+(gone ps q j).length=k by omega,ho] at this
      cases this
      simp -implicitDefEqProofs only [↓rY]
     | false =>
      have h4':=ne_of_beq_false h4
      simp -implicitDefEqProofs only [↓rY]
      have hl:(gone ps q (j+1)).length=(gone ps q j).length+1:=by rw [hs];simp
      refine ⟨⟨by simp only [lo];omega,by simp only [Fx.hi];omega⟩,b0,hN1 _ (j+1) ⟨by omega,by omega⟩ (by omega) ?_⟩
      exact ⟨by simp -implicitDefEqProofs only [rX,↓reduceIte,Nat.reduceEqDiff,leE];exact ⟨by simp,by omega⟩,⟨bB _,bB _,trivial⟩,trivial,by simp -implicitDefEqProofs only [rX,aB,wfE,wfV,h62],by simp -implicitDefEqProofs only [rX,wfB,wfV,wfL,h62,P.rds]⟩
set_option maxRecDepth 20000
open Go.Fx.P (Arc aF)
theorem pR {α:Type} {r:α→α→Prop} (hi:∀ a,¬r a a) (ht:∀ a b c,r a b→r b c→r a c):∀ {l m:List α},l.Pairwise r→m.Pairwise r→(∀ x,x∈l↔x∈m)→l=m
 | [],[],_,_,_=>rfl
 | [],b::m,_,_,h=>by have:=(h b).2 (by simp);cases this
 | a::l,[],_,_,h=>by have:=(h a).1 (by simp);cases this
 | a::l,b::m,h1,h2,h=>by
  obtain ⟨h3,h4⟩:=List.pairwise_cons.1 h1
  obtain ⟨h5,h6⟩:=List.pairwise_cons.1 h2
  have hab:a=b:=by
   rcases yac.1 ((h a).1 (by simp)) with e|e
   ·exact e
   ·rcases yac.1 ((h b).2 (by simp)) with f|f
    ·exact f.symm
    ·exact absurd (ht _ _ _ (h3 b f) (h5 a e)) (hi a)
  subst hab
  congr 1
  refine pR hi ht h4 h6 fun x=>⟨fun hx=>?_,fun hx=>?_⟩
  ·rcases yac.1 ((h x).1 (yat _ hx)) with e|e
   ·subst e;exact absurd (h3 _ hx) (hi _)
   ·exact e
  ·rcases yac.1 ((h x).2 (yat _ hx)) with e|e
   ·subst e;exact absurd (h5 _ hx) (hi _)
   ·exact e
def rAt (rs:List P.Road) (j:Nat):P.Road:=rs.getD j default
def ZL (ps:List aF) (rs:List P.Road):List (Arc × Int × Int) :=
 (yaf ps.length).map (fun i:Nat=>(P.aP ps i,((i:Int),(0:Int))))++(P.ofN ps 1 ps.length).map (fun i:Nat=>(P.aS ps i,((i:Int),(0:Int))))++(P.ofN ps 3 ps.length).map (fun i:Nat=>(P.aO ps i,((i:Int),(0:Int))))++(yaf rs.length).map (fun j:Nat=>(P.aR (rAt rs j),((-1:Int),(j:Int))))
theorem Vw {rs:List P.Road}:(yaf rs.length).map (fun j=>P.aR (rAt rs j))=rs.map P.aR:=by
 apply List.ext_getElem
 ·simp
 ·intro i h1 h2
  have:i<rs.length:=by simpa using h2
  simp [rAt,this]
theorem agS {ps:List aF} {rs:List P.Road}:(ZL ps rs).map (·.1)=P.bJ ps rs:=by
 unfold ZL P.bJ P.nA4 P.nA3 P.nA2 P.nA1
 rw [←Vw]
 simp [yam,Function.comp_def]
theorem agR {ps:List aF} {rs:List P.Road}:(ZL ps rs).map (·.2)=pY ps rs:=by
 unfold ZL pY
 simp [yam,Function.comp_def]
def pl1 (z:Arc × Int × Int):Option Int:=if 0≤z.2.1 then some z.2.1 else none
def rd1 (z:Arc × Int × Int):Option Int:=if 0≤z.2.1 then none else some z.2.2
def fPl (Z:List (Arc × Int × Int)) (cut:List Int) (i:Nat):List Int:=((Z.take i).filter fun z=>f8 cut z.1).filterMap pl1
def fRd (Z:List (Arc × Int × Int)) (cut:List Int) (i:Nat):List Int:=((Z.take i).filter fun z=>f8 cut z.1).filterMap rd1
theorem f_n {Z:List (Arc × Int × Int)} {cut:List Int} {i:Nat} (h:i<Z.length) (ho:f8 cut Z[i].1=false):fPl Z cut (i+1)=fPl Z cut i∧fRd Z cut (i+1)=fRd Z cut i:=by
 unfold fPl fRd
 rw [←yaH h,yax,List.filter_cons_of_neg (by simp [ho])]
 simp
theorem f_p {Z:List (Arc × Int × Int)} {cut:List Int} {i:Nat} (h:i<Z.length) (ho:f8 cut Z[i].1=true) (hp:0≤Z[i].2.1):fPl Z cut (i+1)=fPl Z cut i++[Z[i].2.1]∧fRd Z cut (i+1)=fRd Z cut i:=by
 unfold fPl fRd
 rw [←yaH h,yax,show [Z[i]].filter (fun z=>f8 cut z.1)=[Z[i]] by simp [ho]]
 simp [pl1,rd1,hp]
theorem f_r {Z:List (Arc × Int × Int)} {cut:List Int} {i:Nat} (h:i<Z.length) (ho:f8 cut Z[i].1=true) (hp:Z[i].2.1<0):fPl Z cut (i+1)=fPl Z cut i∧fRd Z cut (i+1)=fRd Z cut i++[Z[i].2.2]:=by
 unfold fPl fRd
 rw [←yaH h,yax,show [Z[i]].filter (fun z=>f8 cut z.1)=[Z[i]] by simp [ho]]
 have:¬0≤Z[i].2.1:=by omega
 simp [pl1,rd1,this]
theorem Yr {Z:List (Arc × Int × Int)} {cut:List Int} {i:Nat}:(fPl Z cut i).length≤Z.length∧(fRd Z cut i).length≤Z.length:=by
 unfold fPl fRd
 have h1:=yaR pl1 ((Z.take i).filter fun z=>f8 cut z.1)
 have h3:=yaR rd1 ((Z.take i).filter fun z=>f8 cut z.1)
 have h2:=List.length_filter_le (fun z:Arc × Int × Int=>f8 cut z.1) (Z.take i)
 rw [yay] at h2
 omega
def abW (ps:List aF) (cut:List Int) (i:Nat):Bool:=hasB cut (2+2*i)&&!hasB cut (3+2*i)||P.isK ps 1 i&&!hasB cut (2+2*i)||P.isK ps 3 i&&hasB cut (3+2*i)
def afZ (rs:List P.Road) (cut:List Int) (j:Nat):Bool:=hasB cut (3+2*(rAt rs j).from_)&&!hasB cut (2+2*(rAt rs j).to)
def spP (ps:List aF) (cut:List Int) (n:Nat):List Int:=((yaf n).filter (abW ps cut)).map fun i:Nat=>(i:Int)
def spR (rs:List P.Road) (cut:List Int) (n:Nat):List Int:=((yaf n).filter (afZ rs cut)).map fun i:Nat=>(i:Int)
theorem gB {l:List Nat} {f:Nat→Arc × Int × Int} {q:Nat→Bool} {cut:List Int} (g:Arc × Int × Int→Option Int) (h:∀ i∈l,f8 cut (f i).1=q i) (hg:∀ i∈l,g (f i)=some (i:Int)):((l.map f).filter fun z=>f8 cut z.1).filterMap g=(l.filter q).map fun i:Nat=>(i:Int):=by
 induction l with
 | nil=>rfl
 | cons x l ih =>
  have ih':=ih (fun i hi=>h i (yat _ hi)) (fun i hi=>hg i (yat _ hi))
  have hx:=h x yaI
  have hgx:=hg x yaI
  rw [yau,List.filter_cons,List.filter_cons,hx]
  cases q x with
  | true=>simp only [if_pos];rw [List.filterMap_cons,hgx,yau,ih']
  | false=>simpa using ih'
theorem gC {l:List Nat} {f:Nat→Arc × Int × Int} {cut:List Int} (g:Arc × Int × Int→Option Int) (hg:∀ i∈l,g (f i)=none):((l.map f).filter fun z=>f8 cut z.1).filterMap g=[]:=by
 rw [List.filterMap_eq_nil_iff]
 intro z hz
 obtain ⟨hz,_⟩:=yaj.1 hz
 obtain ⟨i,hi,rfl⟩:=yaJ.1 hz
 exact hg i hi
theorem Sr {ps:List aF} {rs:List P.Road} {cut:List Int} {n:Int} (hc:s6 n cut) :
  (fPl (ZL ps rs) cut (ZL ps rs).length=(((yaf ps.length).filter fun i:Nat=>hasB cut (2+2*i)&&!hasB cut (3+2*i))++((P.ofN ps 1 ps.length).filter fun i:Nat=>!hasB cut (2+2*i))++((P.ofN ps 3 ps.length).filter fun i:Nat=>hasB cut (3+2*i))).map fun i:Nat=>(i:Int))∧fRd (ZL ps rs) cut (ZL ps rs).length=spR rs cut rs.length:=by
 have h0:decide ((0:Int)∈cut)=true:=decide_eq_true (yaS hc.2.2)
 have h1:decide ((1:Int)∈cut)=false:=decide_eq_false fun h=>(hc.1 1 h).2.2 rfl
 unfold fPl fRd
 rw [List.take_length]
 unfold ZL
 simp only [yax,List.filterMap_append,yam]
 constructor
 ·rw [gB (q:=fun i:Nat=>hasB cut (2+2*i)&&!hasB cut (3+2*i)) pl1 (fun i _=>rfl) (fun i _=>by simp [pl1]),
   gB (q:=fun i:Nat=>!hasB cut (2+2*i)) pl1 (fun i _=>by unfold f8 P.aS;simp only [h0,Bool.true_and];rfl) (fun i _=>by simp [pl1]),
   gB (q:=fun i:Nat=>hasB cut (3+2*i)) pl1 (fun i _=>by unfold f8 P.aO;simp only [h1,Bool.not_false,Bool.and_true];rfl) (fun i _=>by simp [pl1]),
   gC pl1 (fun i _=>by simp [pl1]),yas]
 ·rw [gC rd1 (fun i _=>by simp [rd1]),gC rd1 (fun i _=>by simp [rd1]),gC rd1 (fun i _=>by simp [rd1]),
   gB (q:=afZ rs cut) rd1 (fun i _=>rfl) (fun i _=>by simp [rd1])]
  rfl
theorem Kf {l:List Nat} (h:l.Nodup):(l.map fun i:Nat=>(i:Int)).Nodup:=by
 rw [List.Nodup,List.pairwise_map]
 exact h.imp fun hab he=>hab (by omega)
theorem Gi {n:Nat} {q:Nat→Bool}:(((yaf n).filter q).map fun i:Nat=>(i:Int)).Pairwise (·<·):=by
 rw [List.pairwise_map]
 refine (List.Pairwise.filter q (List.pairwise_lt_range (n:=n))).imp fun h=>by omega
theorem w7 {ps:List aF} {kind:Int} {n i:Nat}:i∈P.ofN ps kind n↔i<n∧P.isK ps kind i=true:=by unfold P.ofN;simp
theorem Mp {ps:List aF} {rs:List P.Road} {cut:List Int} {n:Int} (hc:s6 n cut):(fPl (ZL ps rs) cut (ZL ps rs).length).Nodup:=by
 rw [(Sr (rs:=rs) hc).1]
 refine Kf ?_
 have hr:(yaf ps.length).Nodup:=List.nodup_range
 have hk:∀ i,P.isK ps 1 i=true→P.isK ps 3 i=true→False:=by
  intro i h1 h3
  unfold P.isK at h1 h3
  split at h1
  ·rename_i x hx;rw [hx] at h3;simp at h1 h3;omega
  ·cases h1
 rw [List.nodup_append,List.nodup_append]
 refine ⟨⟨hr.filter _,(hr.filter _).filter _,fun a ha b hb e=>?_⟩,(hr.filter _).filter _,fun a ha b hb e=>?_⟩
 ·subst e
  have h1:=(yaj.1 ha).2
  have h2:=(yaj.1 hb).2
  simp only [yaz,Bool.not_eq_true'] at h1 h2
  rw [h1.1] at h2;cases h2
 ·subst e
  have h2:=yaj.1 hb
  rcases yaA.1 ha with h|h
  ·have h1:=(yaj.1 h).2
   simp only [yaz,Bool.not_eq_true'] at h1
   rw [h2.2] at h1;cases h1.2
  ·have h1:=(yaj.1 h).1
   exact hk a (w7.1 h1).2 (w7.1 h2.1).2
theorem Zx {l:List Int} (h:l.Nodup):(srt l).Pairwise (·<·):=by
 have h1:(srt l).Nodup:=(List.mergeSort_perm l _).nodup_iff.2 h
 have h2:=Zw (l:=l)
 refine (h2.and h1).imp fun ⟨a,b⟩=>by omega
theorem afX {ps:List aF} {rs:List P.Road} {cut:List Int} {n:Int} (hc:s6 n cut):srt (fPl (ZL ps rs) cut (ZL ps rs).length)=spP ps cut ps.length:=by
 refine pR (r:=fun a b:Int=>a<b) (fun a h=>by omega) (fun a b c h1 h2=>by omega) (Zx (Mp hc)) Gi fun x=>?_
 rw [Wc,(Sr (rs:=rs) hc).1]
 unfold spP
 rw [yaJ,yaJ]
 have key:∀ i:Nat,(i∈((yaf ps.length).filter fun i:Nat=>hasB cut (2+2*i)&&!hasB cut (3+2*i))++((P.ofN ps 1 ps.length).filter fun i:Nat=>!hasB cut (2+2*i))++((P.ofN ps 3 ps.length).filter fun i:Nat=>hasB cut (3+2*i)))↔i∈(yaf ps.length).filter (abW ps cut):=by
  intro i
  simp only [yaA,yaj,w7,List.mem_range,abW,Bool.or_eq_true,yaz]
  constructor
  ·rintro ((⟨a,b⟩|⟨⟨a,b⟩,c⟩)|⟨⟨a,b⟩,c⟩)
   ·exact ⟨a,.inl (.inl b)⟩
   ·exact ⟨a,.inl (.inr ⟨b,c⟩)⟩
   ·exact ⟨a,.inr ⟨b,c⟩⟩
  ·rintro ⟨a,(b|b)|b⟩
   ·exact .inl (.inl ⟨a,b⟩)
   ·exact .inl (.inr ⟨⟨a,b.1⟩,b.2⟩)
   ·exact .inr ⟨⟨a,b.1⟩,b.2⟩
 constructor
 ·rintro ⟨i,hi,rfl⟩;exact ⟨i,(key i).1 hi,rfl⟩
 ·rintro ⟨i,hi,rfl⟩;exact ⟨i,(key i).2 hi,rfl⟩
theorem f_0 {Z:List (Arc × Int × Int)} {cut:List Int}:fPl Z cut 0=[]∧fRd Z cut 0=[]:=⟨by simp [fPl],by simp [fRd]⟩
theorem agQ {ps:List aF} {rs:List P.Road} {arcs:List Arc} (ha:P.bJ ps rs=arcs) {i:Nat} (h:i<arcs.length):∃ hz:i<(ZL ps rs).length,(ZL ps rs)[i].1=arcs[i]∧(pY ps rs)[i]?=some (ZL ps rs)[i].2:=by
 have hZ1:=agS (ps:=ps) (rs:=rs)
 rw [ha] at hZ1
 have hZ2:=agR (ps:=ps) (rs:=rs)
 have hz:i<(ZL ps rs).length:=by rw [←hZ1,yai] at h;exact h
 refine ⟨hz,?_,?_⟩
 ·have:(yad (fun x:Arc × Int × Int=>x.1) (ZL ps rs))[i]?=some arcs[i]:=by rw [hZ1];exact yab h
  rw [yaB,yab hz] at this
  exact Option.some.inj this
 ·rw [←hZ2,yaB,yab hz];rfl
attribute [irreducible] fPl fRd ZL
set_option maxRecDepth 20000
open Go.Fx.P (Arc aF)
abbrev Wi (ps:List aF) (rs:List P.Road) (N:Nat) (arcs:List Arc) (cut:List Int) (g:List Int × List Int):List Blk:=[.var [.ro 3 (ps.map aF.enc),(.ro 4 (rs.map P.Road.enc))],.var [.i N,.ro 4 (arcs.map Arc.enc)],.var [.sl 7 0 g.1.length],.var [.sl 8 0 g.2.length],.var [.i N,.ro 4 (arcs.map Arc.enc)],.var [.ro 1 (cut.map P.encI)],.rcd .ready [(2,.ptr 0 0 0),(7,.ptr 2 0 0),(8,.ptr 3 0 0)],.arr 1 (g.1.map P.encI),.arr 1 (g.2.map P.encI)]
theorem akK (ps:List aF) (rs:List P.Road) (N:Nat) (arcs:List Arc) (cut:List Int):acM (Wi ps rs N arcs cut) 9 N arcs cut 6 4 5 [6]:=by
 refine ⟨fun g=>rfl,fun g tl=>rfl,fun g tl=>rfl,fun g=>⟨trivial,trivial⟩,fun g tl=>?_,fun g tl=>⟨_,_,rfl⟩⟩
 simp -implicitDefEqProofs only [rX,aB,wfE,wfB,wfV,wfL]
def abH (ps:List aF) (cut:List Int):List Int:=if nC (P.nN ps) cut then spP ps cut ps.length else []
def abG (ps:List aF) (rs:List P.Road) (cut:List Int):List Int:=if nC (P.nN ps) cut then spR rs cut rs.length else []
theorem E83.kill {N:Nat} {arcs:List Arc} {L k i:Nat} {e:Env} (he:E83 N arcs L k i e) {m:Nat} (hm:m≠L∧m≠k):E83 N arcs L k i (bN [m] e):=by
 obtain ⟨h0,h4,h23,h24,h25,h43⟩:=he
 have a:¬L=m:=fun h=>hm.1 h.symm
 have b:¬k=m:=fun h=>hm.2 h.symm
 exact ⟨by rw [cZ,h0];simp [Fx.kill,b],by rw [cZ,h4];simp [Fx.kill,a],by rw [cZ,h23];rfl,by rw [cZ,h24];rfl,by rw [cZ,h25];rfl,by rw [cZ,h43];rfl⟩
set_option maxHeartbeats 2000000 in
theorem akD (ps:List aF) (rs:List P.Road) (cut:List Int) (hF:eU ps rs) (hcl:cut.length≤1000000):Ok 20 [P.bD ps rs,P.li cut] (Is (.tup [P.li (abH ps cut),P.li (abG ps rs cut)])):=by
 have hV:=hF.net
 have hN:=hV.hn
 have hal:=hV.hl
 refine tX (ok_of lw20 (by simp) ?_)
 unfold c20 P.bD P.sps P.rds
 simp -implicitDefEqProofs only [rX,↓rY,aA,cells?,↓reduceIte,Nat.reduceEqDiff,Nat.reduceAdd,aC,aL]
 refine aE hF.e51 ⟨⟨aW.1,trivial⟩,aW.2,trivial⟩ rfl trivial ?_
 unfold P.net
 simp -implicitDefEqProofs only [rX,↓rY,aA,cells?,splice,↓reduceIte,Nat.reduceEqDiff,Nat.reduceAdd,reduceCtorEq,aC,isC,aZ]
 refine aE (aaM (P.nN ps) cut hcl) (by simp [aG,aK,aX,bQ,wkL,wk,wkR,wkB,P.li]) rfl trivial ?_
 unfold abH abG
 cases hc:nC (P.nN ps) cut with
 | false =>
  simp -implicitDefEqProofs only [rX,↓rY,aA,↓reduceIte,Nat.reduceAdd]
  exact r8 ⟨by simp [aU,wfV,wfL,get],by simp [Gv,aU,gvV,gvL,wk,wkL,wkR,P.li,get]⟩
 | true =>
  have hcP:s6 (P.nN ps) cut:=of_decide_eq_true hc
  have hs:=afX (ps:=ps) (rs:=rs) hcP
  have hr:=(Sr (ps:=ps) (rs:=rs) hcP).2
  simp -implicitDefEqProofs only [rX,↓rY,aA,cells?,↓reduceIte,Nat.reduceEqDiff,Nat.reduceAdd,reduceCtorEq,aC]
  have hnd:=Mp (ps:=ps) (rs:=rs) hcP
  generalize hNe:P.nN ps=N at *
  generalize hAe:P.bJ ps rs=arcs at *
  have hZ1:=agS (ps:=ps) (rs:=rs)
  rw [hAe] at hZ1
  have hZ2:=agR (ps:=ps) (rs:=rs)
  have hZl:(ZL ps rs).length=arcs.length:=by rw [←hZ1,yai]
  refine fC [P.net N arcs,P.li cut] (.clo 83 [.ptr 0 0 0,.ptr 1 0 0]) (.clo 83 [.ptr 4 0 0,.ptr 5 0 0]) [.var [.i N,.ro 4 (arcs.map Arc.enc)],.var [P.li cut]] [.var [.i N,.ro 4 (arcs.map Arc.enc)],.var [P.li cut]] (aeA N arcs cut) (by simp [aG,aK,aX,bQ,wkL,wk,wkR,P.net,P.li]) rfl rfl trivial ?_
  simp -implicitDefEqProofs only [rX]
  refine Ed 6 rfl rfl trivial ?_
  refine Uj (as':=[.itr 6,.ptr 4 0 0,.ptr 5 0 0]) (h':=Wi ps rs N arcs cut ([],[])) rfl ⟨_,.virt 2 1 (by decide) (.nilB 2 [.nil] [.sl 7 0 0] rfl ⟨rfl,fun i a b h1 h2=>?_⟩ (.nilB 3 [.nil] [.sl 8 0 0] rfl ⟨rfl,fun i a b h1 h2=>?_⟩ (.refl _))),?_⟩
   (afN (Inv:=fun i g=>g=(fPl (ZL ps rs) cut i,fRd (ZL ps rs) cut i)) (akK ps rs N arcs cut) (by omega) (by omega) hcl (fun x hx=>⟨(hcP.1 x hx).1,(hcP.1 x hx).2.1⟩) (fun x hx=>⟨(hV.ha x hx).1,(hV.ha x hx).2.1⟩) ?_ ?_ ?_ _ ?_)
  ·match i with
   | 0=>simp at h1 h2;subst h1 h2;exact .inr ⟨rfl,_,rfl⟩
   | i+1=>simp at h1
  ·match i with
   | 0=>simp at h1 h2;subst h1 h2;exact .inr ⟨rfl,_,rfl⟩
   | i+1=>simp at h1
  ·simp -implicitDefEqProofs only [rX,↓reduceIte,Nat.reduceEqDiff,Nat.reduceAdd,reduceCtorEq,leE,leH,leB,leV,bA,aD,aB,wfE,wfB,wfV,wfL,aJ,aL,P.li,yaT]
   exact .inr trivial
  ·rintro i g hi rfl ho
   obtain ⟨hz,z1,z2⟩:=agQ hAe hi
   rw [←z1] at ho
   rw [(f_n hz ho).1,(f_n hz ho).2]
  ·rintro i g hi rfl ho e bb Z he hZ
   obtain ⟨hz,z1,z2⟩:=agQ hAe hi
   rw [←z1] at ho
   obtain ⟨l1,l2⟩:=Yr (Z:=ZL ps rs) (cut:=cut) (i:=i)
   have e1:=he.e0;have e2:=he.e4;have e3:=he.e23;have e4:=he.e24;have e5:=he.e25;have e6:=he.e43
   generalize hP:fPl (ZL ps rs) cut i=PL at *
   generalize hR:fRd (ZL ps rs) cut i=RL at *
   have tkP:yag PL.length (yad P.encI PL)=yad P.encI PL:=yak (by simp)
   have tkR:yag RL.length (yad P.encI RL)=yad P.encI RL:=yak (by simp)
   refine Kt 11 rfl rfl rfl ?_
   unfold c20a0
   simp -implicitDefEqProofs only [rX,rZ,↓rW,↓reduceIte,Nat.reduceEqDiff,Nat.reduceAdd,aZ,aJ,lM]
   unfold c20r0
   simp -implicitDefEqProofs only [rX,↓rY,↓reduceIte,Nat.reduceEqDiff,Nat.reduceAdd]
   refine aE (ajR ps rs i hF _ z2) ⟨⟨aW.1,trivial,trivial⟩,aW.2,rfl,trivial⟩ rfl (by simp [aD,aB]) ?_
   cases hp:decide (0≤(ZL ps rs)[i].2.1) with
   | true =>
    have hp':=of_decide_eq_true hp
    obtain ⟨q1,q2⟩:=f_p hz ho hp'
    simp -implicitDefEqProofs only [rX,↓rY,rZ,↓rW,aA,cells?,splice,↓reduceIte,Nat.reduceEqDiff,Nat.reduceAdd,reduceCtorEq,aC,cG,bN,bE,kill,bO,St.kill,isD,isC,Nat.reduceLT,tkP,tkR,hp]
    refine ⟨by omega,?_⟩
    have hz':=hZ (bN [7] e) (PL++[(ZL ps rs)[i].2.1],RL) [.var (bO [7] arcs[i].enc),.dead,.arr 1 [[.i (ZL ps rs)[i].2.1]],.dead] (E83.kill he (by decide)) (by rw [q1,q2,hP,hR])
    simp only [Wi,yam,yaa,yaC,yaq,yau,List.map_nil] at hz'
    exact hz'
   | false =>
    have hp':=of_decide_eq_false hp
    obtain ⟨q1,q2⟩:=f_r hz ho (by omega)
    simp -implicitDefEqProofs only [rX,↓rY,rZ,↓rW,aA,cells?,splice,↓reduceIte,Nat.reduceEqDiff,Nat.reduceAdd,reduceCtorEq,aC,cG,bN,bE,kill,bO,St.kill,isD,isC,Nat.reduceLT,tkP,tkR,hp]
    refine ⟨by omega,?_⟩
    have hz':=hZ (bN [8] e) (PL,RL++[(ZL ps rs)[i].2.2]) [.var (bO [8] arcs[i].enc),.dead,.arr 1 [[.i (ZL ps rs)[i].2.2]],.dead] (E83.kill he (by decide)) (by rw [q1,q2,hP,hR])
    simp only [Wi,yam,yaa,yaC,yaq,yau,List.map_nil] at hz'
    exact hz'
  ·rintro g rfl
   obtain ⟨l1,l2⟩:=Yr (Z:=ZL ps rs) (cut:=cut) (i:=arcs.length)
   rw [←hZl] at l1 l2 ⊢
   rw [hr] at l2 ⊢
   generalize hP:fPl (ZL ps rs) cut (ZL ps rs).length=PL at *
   simp -implicitDefEqProofs only [rX,↓rY,rZ,↓rW,↓reduceIte,Nat.reduceEqDiff,Nat.reduceAdd,aB,wfE,wfB,wfV,wfL]
   have hpl:PL.length=(spP ps cut ps.length).length:=by rw [←hs,Lm]
   have hpb:(spP ps cut ps.length).length≤1000000:=by omega
   have o63:=ajQ PL (by omega)
   rw [hs,hpl] at o63
   have o64:=ajP (spP ps cut ps.length) hpb Gi
   have w1:∀ f:Nat→Option Nat,cB f (.arr 1 (PL.map P.encI))=.arr 1 (PL.map P.encI):=fun f=>rfl
   rw [hpl]
   refine dC [7] [.sl 0 0 (spP ps cut ps.length).length] (.tup []) (.tup []) [.arr 1 (PL.map P.encI)] [.arr 1 ((spP ps cut ps.length).map P.encI)] _ o63 (by simp [aZ]) rfl (by simp [aG,aK,aX,bQ,wkL,wk,pos]) (by simp) rfl rfl trivial ?_
   simp -implicitDefEqProofs only [rX,↓rY,rdK,↓reduceIte,Nat.reduceEqDiff,Nat.reduceAdd,aJ,bH,cB,List.set_cons_succ]
   refine dC [7] [.sl 0 0 (spP ps cut ps.length).length] (.sl 0 0 (spP ps cut ps.length).length) (.sl 7 0 (spP ps cut ps.length).length) [.arr 1 ((spP ps cut ps.length).map P.encI)] [.arr 1 ((spP ps cut ps.length).map P.encI)] _ o64 (by simp) rfl (by simp [aG,aK,aX,bQ,wkL,wk,pos]) (by simp) rfl rfl trivial ?_
   simp -implicitDefEqProofs only [rX,↓reduceIte,Nat.reduceEqDiff,Nat.reduceAdd,bH,cB,List.set_cons_succ]
   rw [fN]
   simp -implicitDefEqProofs only [rX,↓reduceIte,Nat.reduceEqDiff,aQ,aU,aD,aB,wfV,wfL]
   have tkP:yag (spP ps cut ps.length).length (yad P.encI (spP ps cut ps.length))=yad P.encI (spP ps cut ps.length):=yak (by simp)
   have tkR:yag (spR rs cut rs.length).length (yad P.encI (spR rs cut rs.length))=yad P.encI (spR rs cut rs.length):=yak (by simp)
   refine ⟨[.dead,.dead,.dead,.dead,.dead,.dead,.dead,.arr 1 ((spP ps cut ps.length).map P.encI),.arr 1 ((spR rs cut rs.length).map P.encI)],⟨by simp [leH,leB],by simp [wfV,wfL,aB],by simp [wfB]⟩,?_⟩
   simp [Gv,gvV,gvL,wk,wkL,wkR,blk,P.li,tkP,tkR]
  ·rw [f_0.1,f_0.2]
set_option maxRecDepth 20000
open Go.Fx.P (Arc aF)
abbrev h21 (ps:List aF) (rs:List P.Road) (A B:List Int):List Blk:=[.var [.ro 3 (ps.map aF.enc),.ro 4 (rs.map P.Road.enc)],.var [.any,.any],.var [.sl 3 0 A.length,.sl 4 0 B.length],.arr 1 (A.map P.encI),.arr 1 (B.map P.encI)]
set_option maxRecDepth 20000
open Go.Fx.P (Arc aF)
theorem lJ {r:Rf} (h:r.sg.length=16):r.enc.length=24:=by unfold Rf.enc;simp [pD,h]
theorem Lr {r:Rf} (h:r.sg.length=16):yag 24 r.enc=r.enc:=yak (by rw [lJ h];exact yah _)
theorem aiS {r:Rf}:r.enc[0]?=some (.i r.place):=rfl
theorem aiR {r:Rf}:r.enc[1]?=some (.i r.n):=rfl
theorem aiQ {r:Rf}:r.enc[2]?=some (.i r.win):=rfl
theorem aiP {r:Rf}:r.enc[3]?=some (.i r.sent):=rfl
theorem adR {q:List Blk} {r:Rf}:wfL q r.enc:=⟨trivial,trivial,trivial,trivial,trivial,trivial,trivial,trivial,hU⟩
abbrev bR (l:List Rf):V:=.bro 24 (l.map Rf.enc)
def uV (x y:Rf):Bool:=x.place==y.place&&x.n==y.n
def twR (l:List Rf) (x:Rf):Bool:=l.any (uV x)
def Bq (ps:List aF) (rs:List P.Road) (l:List Rf) (k:Nat):Int :=
 match l[k]? with
 | none=>0
 | some r=>if uH ps rs r≠0 then uH ps rs r else if some r.win≠l.head?.map (·.win) then 1 else if twR (l.take k) r then 6 else if (k:Int)≥P.dem ps-r.sent then 4 else 0
def If (ps:List aF) (rs:List P.Road) (l:List Rf):Int × Int :=
 match (yaf l.length).find? (fun k=>Bq ps rs l k != 0) with
 | none=>(-1,0)
 | some k=>(k,Bq ps rs l k)
structure AlI (ps:List aF) (rs:List P.Road) (l:List Rf) (k:Nat):Prop where
 le:k≤l.length
 h:∀ j,j<k→Bq ps rs l j=0
theorem AlI.at {ps:List aF} {rs:List P.Road} {l:List Rf} {k:Nat} (h:AlI ps rs l k) (hk:k<l.length) (he:Bq ps rs l k≠0):If ps rs l=((k:Int),Bq ps rs l k):=by
 unfold If
 have:(yaf l.length).find? (fun k=>Bq ps rs l k != 0)=some k:=by
  rw [List.find?_eq_some_iff_getElem]
  refine ⟨by simpa using he,k,by simpa using hk,by simp,fun j hj=>?_⟩
  simp [h.h j hj]
 rw [this]
theorem AlI.all {ps:List aF} {rs:List P.Road} {l:List Rf} (h:AlI ps rs l l.length):If ps rs l=(-1,0):=by
 unfold If
 have:(yaf l.length).find? (fun k=>Bq ps rs l k != 0)=none:=by
  rw [List.find?_eq_none]
  intro k hk
  have:=h.h k (by simpa using hk)
  simp [this]
 rw [this]
theorem AlI.next {ps:List aF} {rs:List P.Road} {l:List Rf} {k:Nat} (h:AlI ps rs l k) (hk:k<l.length) (he:Bq ps rs l k=0):AlI ps rs l (k+1):=⟨by omega,fun j hj=>by
 by_cases e:j=k
 ·subst e;exact he
 ·exact h.h j (by omega)⟩
theorem Sy {ps:List aF} {rs:List P.Road} {l:List Rf} {k:Nat} (hk:k<l.length) (h0:0<l.length):Bq ps rs l k=if uH ps rs l[k]≠0 then uH ps rs l[k] else if l[k].win≠l[0].win then 1 else if twR (l.take k) l[k] then 6 else if (k:Int)≥P.dem ps-l[k].sent then 4 else 0:=by
 unfold Bq
 rw [yab hk]
 have:l.head?.map (·.win)=some l[0].win:=by
  cases l with
  | nil=>simp at h0
  | cons x r=>rfl
 simp only [this,ne_eq,yaK]
def We (x:Rf):Value:=.agg #[.int .i64 x.place,.int .i64 x.n]
def uE:List Rf→Nat→List (Value × V × Nat)
 | [],_=>[]
 | x::l,i=>(We x,.b true,i)::uE l (i+1)
theorem Hq:∀ {l:List Rf} {i:Nat} {x:Rf},uE (l++[x]) i=uE l i++[(We x,.b true,i+l.length)]
 | [],i,x=>rfl
 | y::l,i,x=>by
  simp only [List.cons_append,uE,Hq,yaC]
  rw [show i+1+l.length=i+(l.length+1) by omega]
abbrev rfK:List (Nat × TypeDesc):=[(0,.int .i64),(1,.int .i64)]
theorem uD:∀ {l:List Rf} {i:Nat},pI rfK (uE l i)
 | [],_=>fun e he=>by cases he
 | x::l,i=>fun e he=>by
  rcases yac.1 he with rfl|he
  ·exact ⟨_,rfl,rfl,rfl⟩
  ·exact uD e he
theorem Mi:∀ {l:List Rf} {x:Rf} {i j:Nat},fI [.int .i64 x.place,.int .i64 x.n] (uE l i) j=if twR l x then some (j+l.findIdx (uV x),.b true) else none
 | [],x,i,j=>rfl
 | y::l,x,i,j=>by
  simp only [uE,fI,We,Mi]
  have key:(List.zip [Value.int .i64 x.place,.int .i64 x.n] (#[Value.int .i64 y.place,.int .i64 y.n]:Array Value).toList).all (fun p=>eqK p.1 p.2)=uV x y:=by
   simp [eqK,uV]
  rw [key]
  cases h:uV x y with
  | true=>simp [twR,h,List.findIdx_cons]
  | false =>
   simp only [twR,List.any_cons,h,Bool.false_or,List.findIdx_cons,yaD,if_false,cond_false]
   by_cases h2:l.any (uV x)=true
   ·simp only [h2,if_true];congr 2;omega
   ·simp only [h2,yaD,if_false]
theorem Fb {h:List Blk}:∀ {l:List Rf} {i:Nat},wfL h ((uE l i).map fun x=>x.2.1)
 | [],_=>by simp [uE,wfL]
 | x::l,i=>by
  simp only [uE,yau,wfL]
  exact ⟨by simp [wfV],Fb⟩
theorem abX {ps:List aF} {rs:List P.Road} {r:Rf} (h:uH ps rs r=0):j1 ps rs r=true∧∃ x,fK ps r.place=some x∧0≤r.n∧r.n<x.cap:=by
 unfold uH at h
 split at h
 ·cases h
 ·rename_i x hx
  by_cases h1:r.n<0∨x.cap≤r.n∨pE r.win=false
  ·rw [if_pos h1] at h;cases h
  ·rw [if_neg h1] at h
   by_cases h2:j1 ps rs r=true
   ·exact ⟨h2,x,hx,by omega,by omega⟩
   ·rw [if_neg h2] at h;cases h
theorem Vj {ps:List aF} {rs:List P.Road} {r:Rf} (hF:eU ps rs) (h:j1 ps rs r=true):0≤r.sent∧r.sent<P.dem ps:=by
 unfold j1 at h
 simp only [yaz,decide_eq_true_eq,beq_iff_eq] at h
 have:=Tx (cut:=r.cut) (fun a ha=>(hF.net.ha a ha).2.2.2.1) (yah (P.bJ ps rs).length)
 have e:bnd (P.bJ ps rs) r.cut=sW (P.bJ ps rs) r.cut (P.bJ ps rs).length:=rfl
 omega
theorem Tk {ps:List aF} {rs:List P.Road} (hF:eU ps rs):0≤P.dem ps∧P.dem ps≤10737418240:=by
 have hcap:=(P.eG hF.ok).2.1
 have h1:=P.xP hcap (P.ofN ps 1 ps.length)
 have h2:=P.fF (ps:=ps) (kind:=1) (n:=ps.length)
 have:=hF.pl
 unfold P.dem
 omega
set_option maxHeartbeats 2000000 in
theorem aeI (ps:List aF) (rs:List P.Road) (l:List Rf) (hF:eU ps rs) (hll:l.length≤1000000) (hsg:∀ r∈l,r.sg.length=16) (hcl:∀ r∈l,r.cut.length≤1000000):Ok 23 [P.bD ps rs,bR l] (Is (.tup [.i (If ps rs l).1,.i (If ps rs l).2])):=by
 have hdb:=Tk hF
 refine ok_of lw23 (by simp) ?_
 unfold c23 P.bD
 simp -implicitDefEqProofs only [rX,↓rY,aA,cells?,↓reduceIte,Nat.reduceEqDiff,Nat.reduceAdd,aC,aL]
 refine aE hF.e55 ⟨⟨aW.1,trivial⟩,aW.2,trivial⟩ rfl trivial ?_
 simp -implicitDefEqProofs only [rX,↓rY,aA,↓reduceIte,Nat.reduceEqDiff,Nat.reduceAdd,reduceCtorEq,aC,aJ]
 intro hml
 refine dB (fun k:Nat=>(⟨[(17,.i k),(16,.i l.length),(15,bR l),(7,.mp 1),(6,.i (P.dem ps)),(2,.ptr 0 0 0),(1,bR l)],[.var [P.sps ps,P.rds rs],.map (uE (l.take k) 0) k],0⟩:St)) (AlI ps rs l) (fun k=>l.length-k) 0 ⟨yav _,fun j h=>by omega⟩ ?_ ?_
 ·refine ⟨by simp -implicitDefEqProofs only [rX,↓reduceIte,Nat.reduceEqDiff,reduceCtorEq,leE];rfl,⟨bB _,by rw [List.take_zero];exact bB _,trivial⟩,trivial,by simp -implicitDefEqProofs only [rX,aB,wfE,wfV],by simp -implicitDefEqProofs only [rX,wfB,wfV,wfL,P.sps,P.rds];exact Fb⟩
 intro k hI N hN
 have hle:=hI.le
 have b0:lo IntKind.i64≤(k:Int)+1∧(k:Int)+1≤Fx.hi IntKind.i64:=⟨by simp only [lo];omega,by simp only [Fx.hi];omega⟩
 simp only [c23l0]
 simp -implicitDefEqProofs only [rX,↓rY,aA,cells?,splice,↓reduceIte,Nat.reduceEqDiff,Nat.reduceAdd,aC,aQ,aU,wfV,wfL,yal,yap,aZ]
 cases h1:decide ((k:Int)<(l.length:Int)) with
 | false =>
  have h1':=of_decide_eq_false h1
  obtain rfl:k=l.length:=by omega
  rw [hI.all]
  simp -implicitDefEqProofs only [↓rY]
 | true =>
  have h1':=of_decide_eq_true h1
  have hk:k<l.length:=by omega
  have hs:=hsg _ (yan hk)
  have he:=Sy (ps:=ps) (rs:=rs) hk (by omega)
  simp -implicitDefEqProofs only [rX,↓rY,yab hk,lJ hs,Lr hs,Bl,vR]
  refine ⟨⟨by omega,by omega⟩,hk,?_⟩
  refine aE (aaP ps rs l[k] hF (hcl _ (yan hk))) ⟨⟨aW.1,(eY rfl).1,trivial⟩,aW.2,(eY rfl).2,trivial⟩ rfl trivial ?_
  cases d1:(uH ps rs l[k] != 0) with
  | true =>
   have d1':=bne_iff_ne.1 d1
   rw [if_pos d1'] at he
   rw [hI.at hk (by rw [he];exact d1'),he]
   simp -implicitDefEqProofs only [rX,↓rY,aA,cells?,splice,↓reduceIte,Nat.reduceEqDiff,Nat.reduceAdd,aC,bU,aQ,aU,wfV,wfL,Nat.reduceLeDiff,yal,aZ,d1]
  | false =>
   have d1':uH ps rs l[k]=0:=by simpa using d1
   obtain ⟨hsh,x,hx,hn1,hn2⟩:=abX d1'
   have hsb:=Vj hF hsh
   rw [if_neg (by simp [d1'])] at he
   have h0:0<l.length:=by omega
   have hs0:=hsg _ (yan h0)
   have e0:(l.map Rf.enc)[0]?=some l[0].enc:=by rw [yaB,yab h0];rfl
   simp -implicitDefEqProofs only [rX,↓rY,aA,cells?,splice,↓reduceIte,Nat.reduceEqDiff,Nat.reduceAdd,aC,bU,aQ,aU,wfV,wfL,isC,Nat.reduceLeDiff,yal,aZ,d1,yab hk,yab h0,lJ hs,lJ hs0,aiS,aiR,aiQ,aiP]
   refine ⟨⟨by omega,by omega⟩,h0,?_⟩
   have t0:Int.toNat 0=0:=rfl
   simp only [t0]
   cases d2:(l[k].win != l[0].win) with
   | true =>
    have d2':=bne_iff_ne.1 d2
    rw [if_pos d2'] at he
    rw [hI.at hk (by rw [he];decide),he]
    simp only [wc]
   | false =>
    have d2':l[k].win=l[0].win:=by simpa using d2
    rw [if_neg (by simp [d2'])] at he
    simp only [wd,Mi]
    refine ⟨rfl,uD,?_⟩
    cases d3:twR (l.take k) l[k] with
    | true =>
     rw [if_pos d3] at he
     rw [hI.at hk (by rw [he];decide),he]
     simp [eB,brV,br]
    | false =>
     rw [if_neg (by simp [d3])] at he
     simp only [yaD,if_false,eB,aA,brV,wd]
     refine ⟨⟨by simp only [lo];omega,by simp only [Fx.hi];omega⟩,?_⟩
     cases d4:decide (P.dem ps-l[k].sent≤(k:Int)) with
     | true =>
      have d4':=of_decide_eq_true d4
      rw [if_pos (by omega)] at he
      rw [hI.at hk (by rw [he];decide),he]
      simp only [wc]
     | false =>
      have d4':=of_decide_eq_false d4
      rw [if_neg (by omega)] at he
      simp only [wd,gH]
      refine ⟨rfl,uD,b0,hN _ (k+1) (hI.next hk he) (by omega) ?_⟩
      have ent:uE (l.take (k+1)) 0=uE (l.take k) 0++[(We l[k],.b true,k)]:=by
       rw [List.take_succ_eq_append_getElem hk,Hq,yay,show 0+min k l.length=k by omega]
      refine ⟨by simp -implicitDefEqProofs only [rX,↓reduceIte,Nat.reduceEqDiff,leE];rfl,⟨bB _,by rw [ent];exact bB _,by unfold leH;trivial⟩,trivial,by simp -implicitDefEqProofs only [rX,aB,wfE,wfV],by simp -implicitDefEqProofs only [rX,wfB,wfV,wfL,P.sps,P.rds];exact Fb⟩
theorem Zr {l:List Rf} {k:Nat} {x:Rf} (hk:k≤l.length) (h:∀ j (hj:j<l.length),j<k→uV x l[j]=false):twR (l.take k) x=false:=by
 unfold twR
 rw [List.any_eq_false]
 intro y hy
 obtain ⟨j,hj,rfl⟩:=yaU hy
 rw [yay] at hj
 rw [List.getElem_take]
 simp [h j (by omega) (by omega)]
set_option maxRecDepth 20000
open Go.Fx.P (Arc aF)
theorem akC (l:List Int) (hl:l.length≤1000000000):Ok 22 [bI' l,bI' l] (Is (.b true)):=by
 refine ok_of lw22 (by simp) ?_
 unfold c22
 simp -implicitDefEqProofs only [rX,↓rY,aA,↓reduceIte,Nat.reduceEqDiff,reduceCtorEq,aJ,aL,bne_self_eq_false]
 intros
 refine dB (fun j:Nat=>(⟨[(5,.i j),(1,bI' l),(0,bI' l)],[],0⟩:St)) (fun j=>j≤l.length) (fun j=>l.length-j) 0 (yav _) ?_ ?_
 ·exact ⟨by simp -implicitDefEqProofs only [rX,↓reduceIte,Nat.reduceEqDiff,reduceCtorEq,leE];rfl,bV _,trivial,by simp -implicitDefEqProofs only [rX,wfE,wfV],by simp -implicitDefEqProofs only [wfB]⟩
 intro j hj N hN
 simp only [c22l0]
 simp -implicitDefEqProofs only [rX,↓rY,aA,↓reduceIte,Nat.reduceEqDiff,reduceCtorEq,aQ,aU,wfV,yal,yap]
 intro hml
 cases h1:decide ((j:Int)<(l.length:Int)) with
 | true =>
  have h1':=of_decide_eq_true h1
  have hj':j<l.length:=by omega
  have bj:0≤(j:Int)∧(j:Int)<(l.length:Int):=by omega
  simp -implicitDefEqProofs only [rX,↓rY,yab hj',P.cR,bne_self_eq_false]
  refine ⟨bj,hj',bj,hj',⟨by simp only [lo];omega,by simp only [Fx.hi];omega⟩,hN _ (j+1) (by omega) (by omega) ?_⟩
  exact ⟨by simp -implicitDefEqProofs only [rX,↓reduceIte,Nat.reduceEqDiff,reduceCtorEq,leE];rfl,bV _,trivial,by simp -implicitDefEqProofs only [rX,wfE,wfV],by simp -implicitDefEqProofs only [wfB]⟩
 | false =>
  have h1':=of_decide_eq_false h1
  simp -implicitDefEqProofs only [↓rY]
open Classical in
noncomputable def Sq (ps:List aF) (rs:List P.Road):Bool:=decide (eU ps rs)
open Classical in
theorem ok8 (ps:List aF) (rs:List P.Road):Ok 8 [P.bD ps rs] (Is (.b (Sq ps rs))):=by
 refine ok_of lw8 (by simp) ?_
 unfold c8 P.bD P.sps P.rds Sq
 simp -implicitDefEqProofs only [rX,↓rY,aA,cells?,↓reduceIte,Nat.reduceEqDiff,Nat.reduceAdd,aC,aQ,aU,wfV,aL]
 intro _
 cases h1:decide ((ps.length:Int)≤6) with
 | false =>
  have h1':=of_decide_eq_false h1
  simp -implicitDefEqProofs only [↓rY]
  rw [decide_eq_false fun q:eU ps rs=>h1' (by have:=q.pl;omega)]
 | true =>
  have h1':=of_decide_eq_true h1
  simp -implicitDefEqProofs only [↓rY]
  intro _
  cases h2:decide ((rs.length:Int)≤20) with
  | false =>
   have h2':=of_decide_eq_false h2
   simp -implicitDefEqProofs only [↓rY]
   rw [decide_eq_false fun q:eU ps rs=>h2' (by have:=q.rl;omega)]
  | true =>
   have h2':=of_decide_eq_true h2
   simp -implicitDefEqProofs only [↓rY]
   refine aE (P.ajZ ps rs) ⟨⟨⟨trivial,trivial,trivial⟩,trivial⟩,⟨⟨rfl,rfl⟩,⟨rfl,rfl⟩,trivial⟩,trivial⟩ rfl trivial ?_
   simp -implicitDefEqProofs only [rX,↓rY,aA,↓reduceIte,Nat.reduceEqDiff,aQ,aU,wfV]
   by_cases h3:P.fQ ps rs=0
   ·rw [h3,decide_eq_true (⟨h3,by omega,by omega⟩:eU ps rs)];rfl
   ·rw [decide_eq_false fun q:eU ps rs=>h3 q.ok,beq_eq_false_iff_ne.2 h3]
def keyK (n:Int):Ky:=⟨1000+n,1,[115],0,1099511627776⟩
theorem Bn (n:Int) (hn:-1000000≤n∧n≤1000000):Ok 30 [.i n] (Is (.agg (keyK n).enc)):=by
 refine ok_of lw30 (by simp) ?_
 unfold c30
 simp -implicitDefEqProofs only [rX,↓rY,aA,cells?,splice,↓reduceIte,Nat.reduceEqDiff,Nat.reduceAdd,reduceCtorEq,aC,bU,aQ,aU,wfV,wfL,isC,Nat.reduceLeDiff,aZ,aL]
 exact ⟨⟨by simp only [lo];omega,by simp only [Fx.hi];omega⟩,rfl⟩
set_option maxRecDepth 20000
open Go.Fx.P (Arc aF)
def Tz (e:Env):List V→List (Nat × Nat × Operand)→Option V
 | acc,[]=>some (.agg acc)
 | acc,(off,sz,x)::r=>match cells? (ev e x) with
  | some cs=>if cs.length=sz∧off+sz≤acc.length then Tz e (splice acc off cs) r else none
  | none=>none
theorem Na {e:Env} {K:V→Prop} {y:V}:∀ (ps:List (Nat × Nat × Operand)) (acc:List V),Tz e acc ps=some y→K y→bU e acc ps K
 | [],acc,h,hK=>by
  simp only [Tz,yaK] at h
  subst h;exact hK
 | (off,sz,x)::r,acc,h,hK=>by
  simp only [Tz] at h
  simp only [bU]
  cases hc:cells? (ev e x) with
  | none=>rw [hc] at h;exact absurd h (by simp)
  | some cs =>
   rw [hc] at h
   simp only at h
   split at h
   ·next q=>exact ⟨q,Na r _ h hK⟩
   ·exact absurd h (by simp)
def Rx (e:Env) (sz:Nat):List (List V)→List (Nat × Operand)→Option (List (List V))
 | acc,[]=>some acc
 | acc,(i,x)::r=>match cells? (ev e x) with
  | some cs=>if (cs.length=sz∧i<acc.length)∧cs.all isD=true then Rx e sz (acc.set i cs) r else none
  | none=>none
theorem Mk {e:Env} {sz:Nat} {K:List (List V)→Prop} {y:List (List V)}:∀ (ps:List (Nat × Operand)) (acc:List (List V)),Rx e sz acc ps=some y→K y→cG e sz acc ps K
 | [],acc,h,hK=>by
  simp only [Rx,yaK] at h
  subst h;exact hK
 | (i,x)::r,acc,h,hK=>by
  simp only [Rx] at h
  simp only [cG]
  cases hc:cells? (ev e x) with
  | none=>rw [hc] at h;exact absurd h (by simp)
  | some cs =>
   rw [hc] at h
   simp only at h
   split at h
   ·next q=>exact ⟨q,Mk r _ h hK⟩
   ·exact absurd h (by simp)
theorem Ki {cx:Cx} {d:Option Nat} {z:List Value} {ps:List (Nat × Nat × Operand)} {r:List bM} {s:St} {Ks:St→Prop} (y:V)
  (hy:Tz s.e (z.map .v) ps=some y) (hK:eT cx r (s.put d y) Ks):eT cx (⟨d,.build z ps,none⟩::r) s Ks :=
 Na (K:=fun y=>eT cx r (s.put d y) Ks) ps _ hy hK
theorem Rw {cx:Cx} {d:Option Nat} {z:List Value} {j sz n:Nat} {ps:List (Nat × Operand)} {r:List bM} {s:St} {Ks:St→Prop} (els:List (List V))
  (hy:Rx s.e sz (List.replicate n (z.map .v)) ps=some els) (hf:aC s.h (s.b+j))
  (hK:eT cx r (St.put { s with h:=s.h.set (s.b+j) (.arr sz els) } d (.sl (s.b+j) 0 n)) Ks):eT cx (⟨d,.lits j sz n z ps,none⟩::r) s Ks :=
 Mk (K:=fun els=>aC s.h (s.b+j)∧eT cx r (St.put { s with h:=s.h.set (s.b+j) (.arr sz els) } d (.sl (s.b+j) 0 n)) Ks) ps _ hy ⟨hf,hK⟩
def eA:List aF:=[⟨1,1,5⟩,⟨1,2,3⟩,⟨2,10,6⟩,⟨3,7,4⟩]
def eP:List P.Road:=[⟨0,2,9,1⟩,⟨1,2,9,2⟩,⟨2,3,9,1⟩,⟨1,3,1,5⟩]
theorem ajY:Ok 33 [] (Is (P.bD eA eP)):=by
 refine tX (ok_of lw33 (by simp) ?_)
 unfold c33
 simp -implicitDefEqProofs only [zc,qY,aL]
 rw [zj,zp]
 refine ⟨trivial,?_⟩
 simp -implicitDefEqProofs only [zi,zc,qY,kQ]
 iterate 4 refine Ki _ (by rfl) ?_
 refine Rw _ (by rfl) (by exact trivial) ?_
 iterate 4 refine Ki _ (by rfl) ?_
 refine Rw _ (by rfl) (by exact trivial) ?_
 refine Ki _ (by rfl) ?_
 simp -implicitDefEqProofs only [rX,↓rY,cells?,splice,↓reduceIte,Nat.reduceEqDiff,Nat.reduceAdd,reduceCtorEq,isC,aZ,St.put]
 rw [fN]
 refine And.intro (by decide) ?_
 refine ⟨[.dead,.arr 3 (eA.map aF.enc),.arr 4 (eP.map P.Road.enc)],⟨⟨trivial,bB _,bB _,trivial⟩,trivial,yav _,⟨trivial,trivial,trivial⟩,trivial⟩,?_⟩
 simp [Gv,aU,gvV,gvL,blk,wk,wkR,wkL,eA,eP,P.bD,P.sps,P.rds]
set_option maxRecDepth 20000
open Go.Fx.P (Arc aF)
theorem xE {n:Int} {cut:List Int} (h:P.K.OkS n cut cut.length∧P.K.hasB cut 0=true∧P.K.hasB cut 1=false):s6 n cut:=by
 obtain ⟨⟨hs⟩,c0,c1⟩:=h
 have:=CuS.all (n:=n) (cut:=cut) ⟨yah _,fun i hi _=>(hs i hi hi).1,fun i hi _=>by
  have:=(hs (i+1) hi hi).2 (by omega)
  rwa [Nat.add_sub_cancel,yae,yab (by omega)] at this⟩
 rw [show hasB cut 0=true from c0,show hasB cut 1=false from c1] at this
 exact of_decide_eq_true this
def iD:List Arc:=[⟨2,3,5,0⟩,⟨4,5,3,0⟩,⟨6,7,6,0⟩,⟨8,9,4,0⟩,⟨0,2,5,0⟩,⟨0,4,3,0⟩,⟨9,1,4,0⟩,⟨3,6,9,1⟩,⟨5,6,9,2⟩,⟨7,8,9,1⟩,⟨5,8,1,5⟩]
theorem Sw:P.fQ eA eP=0:=by
 rw [P.fQ,if_neg (by decide),if_neg (by decide),if_pos]
 intro r hr
 rcases yac.1 hr with rfl|hr
 ·exact ⟨by decide,by decide,by decide⟩
 rcases yac.1 hr with rfl|hr
 ·exact ⟨by decide,by decide,by decide⟩
 rcases yac.1 hr with rfl|hr
 ·exact ⟨by decide,by decide,by decide⟩
 rcases yac.1 hr with rfl|hr
 ·exact ⟨by decide,by decide,by decide⟩
 ·cases hr
theorem oM:eU eA eP:=⟨Sw,by decide,by decide⟩
def iE:List Int:=[0,2,3,4,5,6,7,8]
theorem Ey {fr:P.Fr} (h:P.K.OkAc 10 iD 0 1 8 fr):fr.sent=4∧fr.flow=[4,0,4,4,4,0,4,4,0,4,0]:=by
 obtain ⟨sent,cost,flow,price,cut⟩:=fr
 obtain ⟨⟨hl,hp,hz⟩,hs,hv,_,⟨pl,p0,_,pa⟩,hc⟩:=h
 simp only at hl hp hz hs hv pl p0 pa hc ⊢
 match flow,hl with
 | [x0,x1,x2,x3,x4,x5,x6,x7,x8,x9,x10],_ =>
 match price,pl with
 | [q0,q1,q2,q3,q4,q5,q6,q7,q8,q9],_ =>
 have b0:=hp 0 (by simp) (by decide)
 have b1:=hp 1 (by simp) (by decide)
 have b2:=hp 2 (by simp) (by decide)
 have b3:=hp 3 (by simp) (by decide)
 have b4:=hp 4 (by simp) (by decide)
 have b5:=hp 5 (by simp) (by decide)
 have b6:=hp 6 (by simp) (by decide)
 have b7:=hp 7 (by simp) (by decide)
 have b8:=hp 8 (by simp) (by decide)
 have b9:=hp 9 (by simp) (by decide)
 have b10:=hp 10 (by simp) (by decide)
 have z2:=hz 2 (by decide) (by decide) (by decide) (by decide)
 have z3:=hz 3 (by decide) (by decide) (by decide) (by decide)
 have z4:=hz 4 (by decide) (by decide) (by decide) (by decide)
 have z5:=hz 5 (by decide) (by decide) (by decide) (by decide)
 have z6:=hz 6 (by decide) (by decide) (by decide) (by decide)
 have z7:=hz 7 (by decide) (by decide) (by decide) (by decide)
 have z8:=hz 8 (by decide) (by decide) (by decide) (by decide)
 have z9:=hz 9 (by decide) (by decide) (by decide) (by decide)
 simp [P.K.valTo,iD] at z2 z3 z4 z5 z6 z7 z8 z9 hv
 simp only [iD,yaE,yaF] at b0 b1 b2 b3 b4 b5 b6 b7 b8 b9 b10
 rw [if_neg (by omega)] at hc
 obtain ⟨_,c0,c1,⟨ca⟩⟩:=hc
 have a0:=ca 0 (by decide) (by decide)
 have a1:=ca 1 (by decide) (by decide)
 have a2:=ca 2 (by decide) (by decide)
 have a3:=ca 3 (by decide) (by decide)
 have a4:=ca 4 (by decide) (by decide)
 have a5:=ca 5 (by decide) (by decide)
 have a6:=ca 6 (by decide) (by decide)
 have a7:=ca 7 (by decide) (by decide)
 have a8:=ca 8 (by decide) (by decide)
 have a9:=ca 9 (by decide) (by decide)
 have a10:=ca 10 (by decide) (by decide)
 simp only [iD,yaE,yaF,yaL,yaM] at a0 a1 a2 a3 a4 a5 a6 a7 a8 a9 a10
 have e4:x6=4:=by
  apply Classical.byContradiction
  intro hne
  have n1:=c1
  have n9:P.K.hasB cut 9=false:=by
   cases e:P.K.hasB cut 9 with
   | false=>rfl
   | true=>exact absurd (a6.1 e n1) (by omega)
  have n8:P.K.hasB cut 8=false:=by
   cases e:P.K.hasB cut 8 with
   | false=>rfl
   | true=>exact absurd (a3.1 e n9) (by omega)
  have n7:P.K.hasB cut 7=false:=by
   cases e:P.K.hasB cut 7 with
   | false=>rfl
   | true=>exact absurd (a9.1 e n8) (by omega)
  have n6:P.K.hasB cut 6=false:=by
   cases e:P.K.hasB cut 6 with
   | false=>rfl
   | true=>exact absurd (a2.1 e n7) (by omega)
  have n3:P.K.hasB cut 3=false:=by
   cases e:P.K.hasB cut 3 with
   | false=>rfl
   | true=>exact absurd (a7.1 e n6) (by omega)
  have n2:P.K.hasB cut 2=false:=by
   cases e:P.K.hasB cut 2 with
   | false=>rfl
   | true=>exact absurd (a0.1 e n3) (by omega)
  exact absurd (a4.1 c0 n2) (by omega)
 have p10:=pa 0 (by decide)
 have p11:=pa 1 (by decide)
 have p12:=pa 2 (by decide)
 have p13:=pa 3 (by decide)
 have p14:=pa 4 (by decide)
 have p15:=pa 5 (by decide)
 have p16:=pa 6 (by decide)
 have p17:=pa 7 (by decide)
 have p18:=pa 8 (by decide)
 have p19:=pa 9 (by decide)
 have p20:=pa 10 (by decide)
 simp only [iD,yaE,yaF,yaL,yaM,Int.reduceToNat] at p10 p11 p12 p13 p14 p15 p16 p17 p18 p19 p20
 have e1:x1=0:=by
  apply Classical.byContradiction
  intro hne
  have k4:¬(0+q0-q2<0):=fun hk=>by have:=p14.1 hk;omega
  have k0:¬(0+q2-q3<0):=fun hk=>by have:=p10.1 hk;omega
  have k7:¬(1+q3-q6<0):=fun hk=>by have:=p17.1 hk;omega
  have k5:¬(0<0+q0-q4):=fun hk=>by have:=p15.2 hk;omega
  have k1:¬(0<0+q4-q5):=fun hk=>by have:=p11.2 hk;omega
  have k9:¬(1+q7-q8<0):=fun hk=>by have:=p19.1 hk;omega
  have k2:¬(0+q6-q7<0):=fun hk=>by have:=p12.1 hk;omega
  rcases (by omega:0<x8∨0<x10) with h8|h10
  ·have k8:¬(0<2+q5-q6):=fun hk=>by have:=p18.2 hk;omega
   omega
  ·have k10:¬(0<5+q5-q8):=fun hk=>by have:=p20.2 hk;omega
   omega
 refine ⟨by omega,?_⟩
 rw [show x0=4 by omega,show x2=4 by omega,show x3=4 by omega,show x4=4 by omega,show x5=0 by omega,show x7=4 by omega,show x8=0 by omega,show x9=4 by omega,show x10=0 by omega,e1,e4]
theorem abO {fr:P.Fr} (h:P.K.OkAc 10 iD 0 1 8 fr) (ht:P.K.Tight iD 0 8 fr):fr.cut=iE:=by
 obtain ⟨g1,g2⟩:=Ey h
 have hc:=h.hc
 rw [if_neg (by omega)] at hc
 obtain ⟨⟨hs⟩,c0,c1,⟨ca⟩⟩:=hc
 rw [g2] at ca
 have ht:=ht (by omega)
 rw [g2] at ht
 obtain ⟨sent,cost,flow,price,cut⟩:=fr
 simp only at hs c0 c1 ca ht ⊢
 have m0:=c0
 have a0:=ca 0 (by decide) (by decide)
 have a1:=ca 1 (by decide) (by decide)
 have a2:=ca 2 (by decide) (by decide)
 have a4:=ca 4 (by decide) (by decide)
 have a5:=ca 5 (by decide) (by decide)
 have a7:=ca 7 (by decide) (by decide)
 have a9:=ca 9 (by decide) (by decide)
 simp only [iD,yaE,yaF,yaL,yaM] at a0 a1 a2 a4 a5 a7 a9
 have m2:P.K.hasB cut 2=true:=by
  cases e:P.K.hasB cut 2 with
  | true=>rfl
  | false=>exact absurd (a4.1 m0 e) (by decide)
 have m3:P.K.hasB cut 3=true:=by
  cases e:P.K.hasB cut 3 with
  | true=>rfl
  | false=>exact absurd (a0.1 m2 e) (by decide)
 have m6:P.K.hasB cut 6=true:=by
  cases e:P.K.hasB cut 6 with
  | true=>rfl
  | false=>exact absurd (a7.1 m3 e) (by decide)
 have m7:P.K.hasB cut 7=true:=by
  cases e:P.K.hasB cut 7 with
  | true=>rfl
  | false=>exact absurd (a2.1 m6 e) (by decide)
 have m8:P.K.hasB cut 8=true:=by
  cases e:P.K.hasB cut 8 with
  | true=>rfl
  | false=>exact absurd (a9.1 m7 e) (by decide)
 have m4:P.K.hasB cut 4=true:=by
  cases e:P.K.hasB cut 4 with
  | true=>rfl
  | false=>exact absurd (a5.1 m0 e) (by decide)
 have m5:P.K.hasB cut 5=true:=by
  cases e:P.K.hasB cut 5 with
  | true=>rfl
  | false=>exact absurd (a1.1 m4 e) (by decide)
 have m9:(9:Int)∉cut:=by
  intro hm
  obtain ⟨i,⟨hi,hr⟩,hd,hsr⟩:=ht 9 hm (by decide)
  have hk:∀ i,i<22→0<P.K.wrm iD [4,0,4,4,4,0,4,4,0,4,0] i→(P.K.wdst iD i:Int)=9→(P.K.wsrc iD i:Int)=1:=by decide
  rw [hk i (by have:iD.length=11:=rfl;omega) hr hd] at hsr
  exact of_decide_eq_false c1 hsr
 have hP:=xE (n:=10) ⟨⟨hs⟩,c0,c1⟩
 refine pR (r:=(·<·)) (fun a=>Int.lt_irrefl a) (fun a b c=>Int.lt_trans) hP.2.1 (by decide) fun x=>⟨fun hx=>?_,fun hx=>?_⟩
 ·have hb:=hP.1 x hx
  have h9:x≠9:=fun e=>m9 (e▸hx)
  have:x=0∨x=2∨x=3∨x=4∨x=5∨x=6∨x=7∨x=8:=by omega
  simpa [iE] using this
 ·simp only [iE,yac,yaw,or_false] at hx
  rcases hx with rfl|rfl|rfl|rfl|rfl|rfl|rfl|rfl
  ·exact of_decide_eq_true m0
  ·exact of_decide_eq_true m2
  ·exact of_decide_eq_true m3
  ·exact of_decide_eq_true m4
  ·exact of_decide_eq_true m5
  ·exact of_decide_eq_true m6
  ·exact of_decide_eq_true m7
  ·exact of_decide_eq_true m8
theorem Wr:Ok 29 [P.bD eA eP] (IsQ (fun fr=>P.cF eA eP fr∧P.K.Tight iD 0 8 fr) (fun fr=>.tup [fr.enc,.i 0]) (fun _=>[])):=P.aeH eA eP ⟨Sw,by decide,by decide⟩
set_option maxRecDepth 20000
open Go.Fx.P (Arc aF)
structure ExP (fr:P.Fr):Prop where
 acc:P.sZ eA eP fr=0
 sent:fr.sent=4
 flow:fr.flow=[4,0,4,4,4,0,4,4,0,4,0]
 cut:fr.cut=iE
theorem ExP.of {fr:P.Fr} (h:P.cF eA eP fr∧P.K.Tight iD 0 8 fr):ExP fr:=by
 have ha:P.K.OkAc 10 iD 0 1 8 fr:=h.1.acc
 exact ⟨h.1.acc0,(Ey ha).1,(Ey ha).2,abO ha h.2⟩
def exR (place n:Int) (s:Bs):Rf:=⟨place,n,9,4,iE,5,6,1,s⟩
def exS (k:Int) (place n:Int):Bs:=mS (keyK k) 410 (partsOf (exR place n z16))
theorem An {fr:P.Fr} (h:ExP fr) (k place n:Int):rf0 (keyK k) fr place n 9 5 6=exR place n z16∧rf1 (keyK k) fr place n 9 5 6=exR place n (exS k place n):=by
 have e:rf0 (keyK k) fr place n 9 5 6=exR place n z16:=by
  unfold rf0 exR keyK
  rw [h.sent,h.cut]
 refine ⟨e,?_⟩
 unfold rf1
 rw [e];rfl
theorem Jz (k place n:Int) (hk:k=place+1) (hp:place=0∧0≤n∧n<5∨place=1∧0≤n∧n<3):uR (keyK k) eA place n 9 5 6:=by
 subst hk
 rcases hp with ⟨rfl,h1,h2⟩|⟨rfl,h1,h2⟩
 ·exact ⟨⟨1,1,5⟩,by decide,by decide,by decide,by decide,by decide,h1,h2⟩
 ·exact ⟨⟨1,2,3⟩,by decide,by decide,by decide,by decide,by decide,h1,h2⟩
theorem Sv {fr:P.Fr} (h:ExP fr):mkE (keyK 1) eA eP fr 0 4 9 5 6=0∧mkR (keyK 1) eA eP fr 0 4 9 5 6=exR 0 4 (exS 1 0 4):=by
 have:=Wb (Jz 1 0 4 rfl (by decide)) h.acc (by rw [h.flow];decide)
 rw [(An h 1 0 4).2] at this
 exact this
theorem Ss {fr:P.Fr} (h:ExP fr):mkE (keyK 1) eA eP fr 0 3 9 5 6=4∧mkR (keyK 1) eA eP fr 0 3 9 5 6=zRf:=aaV (Jz 1 0 3 rfl (by decide)) h.acc (by rw [h.flow];decide)
theorem Su {fr:P.Fr} (h:ExP fr) {n:Int} (hn:0≤n∧n<3):mkE (keyK 2) eA eP fr 1 n 9 5 6=0∧mkR (keyK 2) eA eP fr 1 n 9 5 6=exR 1 n (exS 2 1 n):=by
 have:=Wb (Jz 2 1 n rfl (.inr ⟨rfl,hn⟩)) h.acc (by rw [h.flow];simp;omega)
 rw [(An h 2 1 n).2] at this
 exact this
theorem Ez {place n:Int} {s:Bs} (hp:0≤place∧place≤5∧0≤n∧n≤5):(exR place n s).Ok:=by
 have hc:In64 iE∧iE.length≤1000000:=by unfold In64;decide
 refine ⟨?_,hc.1,hc.2⟩
 intro x hx
 simp only [exR,yac,yaw,or_false] at hx
 omega
def exL:List Rf:=[exR 0 4 (exS 1 0 4),exR 1 0 (exS 2 1 0),exR 1 1 (exS 2 1 1),exR 1 2 (exS 2 1 2)]
theorem abQ:If eA eP exL=(-1,0):=by kernel_rfl
theorem Wt:abH eA iE=[3]:=by decide
theorem Ws:abG eA eP iE=[]:=by decide
theorem Wu:nC 10 iE=true:=by decide
theorem abP:bnd iD iE=4:=by kernel_rfl
def Ao (s:Bs):Rf:=⟨0,4,9,4,[0,2,3,4,5,6,7],5,6,1,s⟩
theorem abN (s:Bs):uH eA eP (Ao s)=110:=by kernel_rfl
theorem Wq:Bb [keyK 1]:=⟨fun k hk=>by rw [yaG.1 hk];decide,yaN _ _⟩
theorem Wo:Ox [keyK 1] eA (exR 0 4 (exS 1 0 4))=0:=by
 have h1:fK eA (exR 0 4 (exS 1 0 4)).place=some ⟨1,1,5⟩:=by decide
 have h2:nR [keyK 1] (1000+1) 1=some (keyK 1):=by rfl
 have h3:Ou (keyK 1) 5 6=true:=by decide
 unfold Ox
 rw [h1]
 show Kd [keyK 1] (1000+1) 1 410 (partsOf (exR 0 4 (exS 1 0 4))) (exS 1 0 4) 5 6=0
 unfold Kd
 rw [h2]
 simp only [h3]
 rw [if_neg (by simp)]
 exact if_pos rfl
set_option maxRecDepth 20000
open Go.Fx.P (Arc aF)
def pt:Nat→LCode→LCode
 | 0,.seq a _=>a
 | n+1,.seq _ b=>pt n b
 | _,c=>c
theorem c9_parts:c9=.seq (pt 0 c9) (.seq (pt 1 c9) (.seq (pt 2 c9) (.seq (pt 3 c9) (.seq (pt 4 c9) (.seq (pt 5 c9) (.seq (pt 6 c9) (.seq (pt 7 c9) (.seq (pt 8 c9) (.seq (pt 9 c9) (.seq (pt 10 c9) (.seq (pt 11 c9) (.seq (pt 12 c9) (.seq (pt 13 c9) (.seq (pt 14 c9) (pt 15 c9))))))))))))))):=by rfl
abbrev cT:Cx:=cxN Tryz.prog []
structure E1 (e:Env):Prop where
 g1:get e 1=.ptr 0 0 0
 g2:get e 2=.ptr 1 0 0
 g3:get e 3=.ptr 2 0 0
abbrev exH (fr:P.Fr):List Blk:=[.var [P.sps eA,P.rds eP],.var [.i 5,.i 6],.var [.i fr.sent,.i fr.cost,P.li fr.flow,P.li fr.price,P.li fr.cut]]
section
variable {N R:St→Prop} {X:Nat→St→Prop} {e:Env} {b:Nat} {fr:P.Fr}
theorem aiN (hN:N ⟨[(0,.b false)],[],0⟩):aw cT (pt 0 c9) N X R ⟨[],[],0⟩:=by
 conv=>arg 2;whnf
 simp -implicitDefEqProofs only [rX,aA]
 exact hN
theorem aiM (hN:∀ e,get e 1=.ptr 0 0 0→N ⟨e,[.var [P.sps eA,P.rds eP]],0⟩):aw cT (pt 1 c9) N X R ⟨e,[],0⟩:=by
 conv=>arg 2;whnf
 simp -implicitDefEqProofs only [rX]
 refine aE ajY ⟨trivial,trivial⟩ rfl trivial ?_
 unfold P.bD
 simp -implicitDefEqProofs only [rX,↓rY,aA,cells?,splice,↓reduceIte,Nat.reduceEqDiff,Nat.reduceAdd,aC,isC,aZ]
 refine ⟨rfl,hN _ ?_⟩
 rfl
theorem aiL (h1:get e 1=.ptr 0 0 0) (hN:∀ e,get e 1=.ptr 0 0 0→get e 2=.ptr 1 0 0→N ⟨e,[.var [P.sps eA,P.rds eP],.var [.i 5,.i 6]],1⟩):aw cT (pt 2 c9) N X R ⟨e,[.var [P.sps eA,P.rds eP]],0⟩:=by
 conv=>arg 2;whnf
 simp -implicitDefEqProofs only [rX,↓rY,aA,cells?,splice,↓reduceIte,Nat.reduceEqDiff,Nat.reduceAdd,aC,bU,isC,Nat.reduceLeDiff,aZ]
 refine hN _ ?_ ?_
 ·exact h1
 ·rfl
theorem aiK (h1:get e 1=.ptr 0 0 0) (h2:get e 2=.ptr 1 0 0) (hN:∀ e fr,ExP fr→E1 e→get e 4=.i 0→N ⟨e,exH fr,2⟩):aw cT (pt 3 c9) N X R ⟨e,[.var [P.sps eA,P.rds eP],.var [.i 5,.i 6]],1⟩:=by
 conv=>arg 2;whnf
 simp -implicitDefEqProofs only [rX,↓rY,↓reduceIte,Nat.reduceAdd,h1]
 refine eQ (fun fr=>P.cF eA eP fr∧P.K.Tight iD 0 8 fr) [] [] [] [P.bD eA eP] (fun fr=>.tup [fr.enc,.i 0]) [] (fun _=>[]) Wr ⟨by simp,by simp⟩ ⟨rfl,by simp⟩ rfl ⟨⟨aW.1,trivial⟩,aW.2,trivial⟩ fun fr hfr=>⟨trivial,?_⟩
 simp -implicitDefEqProofs only [rX,↓rY,aA,cells?,splice,↓reduceIte,Nat.reduceEqDiff,Nat.reduceAdd,aC,bN,bE,kill,bO,St.kill,isC,aZ,P.Fr.enc,P.li,bH,ren,cK,mB,oK]
 refine hN _ fr (ExP.of hfr) ?_ ?_
 ·exact ⟨h1,h2,rfl⟩
 ·rfl
theorem Vs {r:Rf} {f:Nat→Option Nat}:cK f r.enc=r.enc:=by unfold Rf.enc P.li;simp [cK,ren,mM]
theorem oC {r:Rf} {f:Nat→Option Nat} {E:Int}:ren f (.tup [.agg r.enc,.i E])=.tup [.agg r.enc,.i E]:=by simp [ren,cK,Vs]
theorem Yl (hX:ExP fr):Ok 10 [.agg (keyK 1).enc,P.bD eA eP,fr.enc,.i 0,.i 4,.i 9,.agg [.i 5,.i 6]] (Is (.tup [.agg (exR 0 4 (exS 1 0 4)).enc,.i 0])):=by
 have:=Vz (keyK 1) eA eP fr 0 4 9 5 6 oM (by rw [(An hX 1 0 4).1];exact Ez (by decide)) (by decide)
 rw [(Sv hX).1,(Sv hX).2] at this
 exact this
theorem Yj (hX:ExP fr):Ok 10 [.agg (keyK 1).enc,P.bD eA eP,fr.enc,.i 0,.i 3,.i 9,.agg [.i 5,.i 6]] (Is (.tup [.agg zRf.enc,.i 4])):=by
 have:=Vz (keyK 1) eA eP fr 0 3 9 5 6 oM (by rw [(An hX 1 0 3).1];exact Ez (by decide)) (by decide)
 rw [(Ss hX).1,(Ss hX).2] at this
 exact this
theorem Yk (hX:ExP fr) {n:Int} (hn:0≤n∧n<3):Ok 10 [.agg (keyK 2).enc,P.bD eA eP,fr.enc,.i 1,.i n,.i 9,.agg [.i 5,.i 6]] (Is (.tup [.agg (exR 1 n (exS 2 1 n)).enc,.i 0])):=by
 have:=Vz (keyK 2) eA eP fr 1 n 9 5 6 oM (by rw [(An hX 2 1 n).1];exact Ez (by omega)) (by decide)
 rw [(Su hX hn).1,(Su hX hn).2] at this
 exact this
theorem oJ {h:List Blk} {g:Nat→Option Nat} {k:Ky} {ps:List aF} {rs:List P.Road} {place n w a b:Int}:aG h g [.agg k.enc,.agg [P.sps ps,P.rds rs],.agg [.i fr.sent,.i fr.cost,P.li fr.flow,P.li fr.price,P.li fr.cut],.i place,.i n,.i w,.agg [.i a,.i b]] ∧
  wkL [.agg k.enc,P.bD ps rs,fr.enc,.i place,.i n,.i w,.agg [.i a,.i b]] (aX h g [.agg k.enc,.agg [P.sps ps,P.rds rs],.agg [.i fr.sent,.i fr.cost,P.li fr.flow,P.li fr.price,P.li fr.cut],.i place,.i n,.i w,.agg [.i a,.i b]]) :=
 ⟨⟨gZ.1,aW.1,g0.1,trivial,trivial,trivial,⟨trivial,trivial,trivial⟩,trivial⟩,gZ.2,aW.2,g0.2,rfl,rfl,rfl,⟨rfl,rfl,trivial⟩,trivial⟩
theorem aiJ (hX:ExP fr) (hE:E1 e) (h4:get e 4=.i 0) (hN:∀ e,E1 e→get e 4=.i 0→get e 5=.ptr 3 0 0→get e 6=.i 0→N ⟨e,exH fr++[.var (exR 0 4 (exS 1 0 4)).enc],3⟩):aw cT (pt 4 c9) N X R ⟨e,exH fr,b⟩:=by
 obtain ⟨h1,h2,h3⟩:=hE
 have hl:(exR 0 4 (exS 1 0 4)).enc.length=24:=lJ cW
 conv=>arg 2;whnf
 simp -implicitDefEqProofs only [rX,↓rY,rdK,aA,cells?,↓reduceIte,Nat.reduceEqDiff,Nat.reduceAdd,aC,aJ,h1,h2,h3]
 refine ⟨?_,?_⟩
 ·refine aE (Bn 1 (by decide)) ⟨⟨trivial,trivial⟩,rfl,trivial⟩ rfl (by simp [aD,aB]) ?_
  simp -implicitDefEqProofs only [rX,↓rY,aA,cells?,↓reduceIte,Nat.reduceEqDiff,aC,aJ]
  refine ⟨?_,?_⟩ <;>
  ·refine aE (Yl hX) oJ oC (by simp [aD,aB]) ?_
   simp -implicitDefEqProofs only [rX,↓rY,aA,cells?,splice,↓reduceIte,Nat.reduceEqDiff,Nat.reduceAdd,aC,aJ,hl,Bl,vR]
   refine hN _ ⟨h1,h2,h3⟩ ?_ ?_ ?_
   ·exact h4
   ·rfl
   ·rfl
 ·refine aE (Bn 1 (by decide)) ⟨⟨trivial,trivial⟩,rfl,trivial⟩ rfl (by simp [aD,aB]) ?_
  simp -implicitDefEqProofs only [rX,aA,↓reduceIte,Nat.reduceEqDiff,aJ]
  refine aE (Yl hX) oJ oC (by simp [aD,aB]) ?_
  simp -implicitDefEqProofs only [rX,↓rY,cells?,splice,↓reduceIte,Nat.reduceEqDiff,Nat.reduceAdd,aJ,hl,Bl,vR]
  refine hN _ ⟨h1,h2,h3⟩ ?_ ?_ ?_
  ·exact h4
  ·rfl
  ·rfl
abbrev exA:Rf:=exR 0 4 (exS 1 0 4)
theorem aiI (hX:ExP fr) (hE:E1 e) (h4:get e 4=.i 0) (h5:get e 5=.ptr 3 0 0) (h6:get e 6=.i 0)
  (hN:∀ e,E1 e→get e 4=.i 0→get e 5=.ptr 3 0 0→get e 6=.i 0→get e 8=.i 4→N ⟨e,exH fr++[.var exA.enc,.var zRf.enc],4⟩):aw cT (pt 5 c9) N X R ⟨e,exH fr++[.var exA.enc],b⟩:=by
 obtain ⟨h1,h2,h3⟩:=hE
 have hl:zRf.enc.length=24:=lJ (by simp [zRf,z16])
 conv=>arg 2;whnf
 generalize hA:exA.enc=AE at *
 simp -implicitDefEqProofs only [rX,↓rY,rdK,aA,cells?,↓reduceIte,Nat.reduceEqDiff,Nat.reduceAdd,aC,aJ,h1,h2,h3]
 refine ⟨?_,?_⟩
 ·refine aE (Bn 1 (by decide)) ⟨⟨trivial,trivial⟩,rfl,trivial⟩ rfl (by simp [aD,aB]) ?_
  simp -implicitDefEqProofs only [rX,↓rY,aA,cells?,↓reduceIte,Nat.reduceEqDiff,aC,aJ]
  refine ⟨?_,?_⟩ <;>
  ·refine aE (Yj hX) oJ oC (by simp [aD,aB]) ?_
   simp -implicitDefEqProofs only [rX,↓rY,aA,cells?,splice,↓reduceIte,Nat.reduceEqDiff,Nat.reduceAdd,aC,aJ,hl,Bl,vR]
   refine hN _ ⟨h1,h2,h3⟩ ?_ ?_ ?_ ?_
   ·exact h4
   ·exact h5
   ·exact h6
   ·rfl
 ·refine aE (Bn 1 (by decide)) ⟨⟨trivial,trivial⟩,rfl,trivial⟩ rfl (by simp [aD,aB]) ?_
  simp -implicitDefEqProofs only [rX,aA,↓reduceIte,Nat.reduceEqDiff,aJ]
  refine aE (Yj hX) oJ oC (by simp [aD,aB]) ?_
  simp -implicitDefEqProofs only [rX,↓rY,cells?,splice,↓reduceIte,Nat.reduceEqDiff,Nat.reduceAdd,aJ,hl,Bl,vR]
  refine hN _ ⟨h1,h2,h3⟩ ?_ ?_ ?_ ?_
  ·exact h4
  ·exact h5
  ·exact h6
  ·rfl
theorem aiH (h4:get e 4=.i 0) (h5:get e 5=.ptr 3 0 0) (h6:get e 6=.i 0) (h8:get e 8=.i 4) {h:List Blk} (hE:E1 e)
  (hN:∀ e b,E1 e→get e 5=.ptr 3 0 0→N ⟨e,h,b⟩):aw cT (pt 6 c9) N X R ⟨e,h,b⟩:=by
 obtain ⟨h1,h2,h3⟩:=hE
 conv=>arg 2;whnf
 simp -implicitDefEqProofs only [rX,↓rY,aA,↓reduceIte,Nat.reduceEqDiff,h4,h6,h8,bne_self_eq_false]
 refine hN _ _ ⟨h1,h2,h3⟩ ?_
 exact h5
theorem Vt {r:Rf}:r.enc.all isD=true:=by unfold Rf.enc P.li;simp [isD,ahY]
theorem On {place n k a c:Int}:(exR place n (exS k a c)).enc.length=24:=lJ cW
theorem Hn {place n k a c:Int}:yag 24 (exR place n (exS k a c)).enc=(exR place n (exS k a c)).enc:=Lr cW
theorem aiG (hE:E1 e) (h5:get e 5=.ptr 3 0 0)
  (hN:∀ e,E1 e→get e 5=.ptr 3 0 0→get e 9=.sl 5 0 1→N ⟨e,exH fr++[.var exA.enc,.var zRf.enc,.arr 24 [exA.enc]],5⟩):aw cT (pt 7 c9) N X R ⟨e,exH fr++[.var exA.enc,.var zRf.enc],b⟩:=by
 obtain ⟨h1,h2,h3⟩:=hE
 conv=>arg 2;whnf
 simp -implicitDefEqProofs only [rX,↓rY,cells?,↓reduceIte,Nat.reduceAdd,aC,cG,Nat.reduceLT,aZ,aJ,h5,oE,Ag,Ah,Eu,Hn,On,Vt]
 refine hN _ ⟨h1,h2,h3⟩ ?_ ?_
 ·exact h5
 ·rfl
theorem yE {r:Rf} {l:List Nat}:bO l r.enc=r.enc:=by unfold Rf.enc P.li;simp [bO,kill,xJ]
theorem Qt {r:Rf}:bA r.enc r.enc=True:=eq_true (mA _)
theorem Jj {q:List Blk} {r:Rf}:wfL q r.enc=True:=eq_true adR
abbrev exB (j:Nat):Rf:=exR 1 j (exS 2 1 j)
abbrev h8 (fr:P.Fr) (j:Nat):List Blk:=exH fr++[.var exA.enc,.var zRf.enc,.arr 24 ((exL.take (j+1)).map Rf.enc)]
theorem aiF (hX:ExP fr) (hE:E1 e) (h5:get e 5=.ptr 3 0 0) (h9:get e 9=.sl 5 0 1)
  (hN:∀ e b,E1 e→get e 5=.ptr 3 0 0→get e 9=.sl 5 0 4→N ⟨e,h8 fr 3,b⟩):aw cT (pt 8 c9) N X R ⟨e,h8 fr 0,b⟩:=by
 obtain ⟨h1,h2,h3⟩:=hE
 conv=>arg 2;whnf
 simp -implicitDefEqProofs only [rX,aA,Nat.reduceAdd,aJ]
 refine dB (fun j:Nat=>(⟨[(10,.i j),(9,.sl 5 0 (j+1)),(5,.ptr 3 0 0),(3,.ptr 2 0 0),(2,.ptr 1 0 0),(1,.ptr 0 0 0)],h8 fr j,0⟩:St)) (fun j=>j≤3) (fun j=>3-j) 0 (by decide) ?_ ?_
 ·simp -implicitDefEqProofs only [rX,↓reduceIte,Nat.reduceEqDiff,leE,leH,leB,leV,bA,aD,aB,wfE,wfB,wfV,wfL,h1,h2,h3,h5,h9,P.sps,P.rds,P.li,Qt,Jj]
  rfl
 intro j hj N' hN'
 simp only [c9l0]
 simp -implicitDefEqProofs only [rX,↓rY,rdK,aA,cells?,↓reduceIte,Nat.reduceEqDiff,Nat.reduceAdd,aC,aJ]
 cases hd:decide ((j:Int)<3) with
 | false =>
  have hd':=of_decide_eq_false hd
  have:j=3:=by omega
  subst this
  simp -implicitDefEqProofs only [↓rY,Nat.reduceAdd]
  refine hN _ _ ⟨?_,?_,?_⟩ ?_ ?_<;>rfl
 | true =>
  have hd':=of_decide_eq_true hd
  have hj3:j<3:=by omega
  have hLl:(yad Rf.enc (yag (j+1) exL)).length=j+1:=by
   rw [yai,yay]
   have:exL.length=4:=rfl
   omega
  have hLn:exL.take (j+1)++[exB j]=exL.take (j+1+1):=by
   match j,hj3 with
   | 0,_=>rfl
   | 1,_=>rfl
   | 2,_=>rfl
  have hfin:Blk.arr 24 (yag (j+1) (yad Rf.enc (yag (j+1) exL))++[(exR 1 (j:Int) (exS 2 1 j)).enc])=Blk.arr 24 (yad Rf.enc (yag (j+1+1) exL)):=by
   rw [←hLn,yam,yak (by omega)]
   rfl
  simp -implicitDefEqProofs only [↓rY]
  refine ⟨?_,?_⟩
  ·refine aE (Bn 2 (by decide)) ⟨⟨trivial,trivial⟩,rfl,trivial⟩ rfl (by simp [aD,aB]) ?_
   simp -implicitDefEqProofs only [rX,↓rY,aA,cells?,↓reduceIte,Nat.reduceEqDiff,aC,aJ]
   refine ⟨?_,?_⟩ <;>
   ·refine aE (Yk hX (n:=j) (by omega)) oJ oC (by simp [aD,aB]) ?_
    simp -implicitDefEqProofs only [rX,↓rY,aA,cells?,splice,↓reduceIte,Nat.reduceEqDiff,Nat.reduceAdd,reduceCtorEq,aC,cG,bN,bE,kill,bO,St.kill,Nat.reduceLT,aZ,aJ,On,Bl,Vt,Hn,vR,bne_self_eq_false,oE,Ag,Ah,Eu,hLl,yE]
    refine ⟨by omega,⟨by simp only [lo];omega,by simp only [Fx.hi];omega⟩,hN' _ (j+1) (by omega) (by omega) ?_⟩
    simp -implicitDefEqProofs only [rX,↓reduceIte,Nat.reduceEqDiff,leE,leH,leB,leV,bA,aD,aB,wfE,wfB,wfV,wfL,kill,St.kill,P.sps,P.rds,P.li,Qt,Jj]
    exact ⟨by omega,hfin⟩
  ·refine aE (Bn 2 (by decide)) ⟨⟨trivial,trivial⟩,rfl,trivial⟩ rfl (by simp [aD,aB]) ?_
   simp -implicitDefEqProofs only [rX,aA,↓reduceIte,Nat.reduceEqDiff,aJ]
   refine aE (Yk hX (n:=j) (by omega)) oJ oC (by simp [aD,aB]) ?_
   simp -implicitDefEqProofs only [rX,↓rY,aA,cells?,splice,↓reduceIte,Nat.reduceEqDiff,Nat.reduceAdd,reduceCtorEq,aC,cG,bN,bE,kill,bO,St.kill,Nat.reduceLT,aZ,aJ,On,Bl,Vt,Hn,vR,bne_self_eq_false,oE,Ag,Ah,Eu,hLl,yE]
   refine ⟨by omega,⟨by simp only [lo];omega,by simp only [Fx.hi];omega⟩,hN' _ (j+1) (by omega) (by omega) ?_⟩
   simp -implicitDefEqProofs only [rX,↓reduceIte,Nat.reduceEqDiff,leE,leH,leB,leV,bA,aD,aB,wfE,wfB,wfV,wfL,kill,St.kill,P.sps,P.rds,P.li,Qt,Jj]
   exact ⟨by omega,hfin⟩
end
set_option maxRecDepth 20000
open Go.Fx.P (Arc aF)
section
variable {N R:St→Prop} {X:Nat→St→Prop} {e:Env} {b:Nat} {fr:P.Fr}
abbrev hQ (fr:P.Fr):List Blk:=exH fr++[.var exA.enc,.var zRf.enc,.arr 24 (exL.map Rf.enc)]
theorem He {h:List Blk} {g:Nat→Option Nat} {ps:List aF} {rs:List P.Road} {l:List Int}:aG h g [.agg [P.sps ps,P.rds rs],P.li l]∧wkL [P.bD ps rs,P.li l] (aX h g [.agg [P.sps ps,P.rds rs],P.li l]):=⟨⟨aW.1,trivial,trivial⟩,aW.2,⟨rfl,rfl⟩,trivial⟩
theorem Sx:exA.enc[4]?=some (P.li iE):=rfl
theorem aiE (hE:E1 e) (h5:get e 5=.ptr 3 0 0) (h9:get e 9=.sl 5 0 4)
  (hN:∀ e b,E1 e→get e 5=.ptr 3 0 0→get e 13=.i (-1)→get e 14=.i 0→N ⟨e,hQ fr,b⟩):aw cT (pt 9 c9) N X R ⟨e,hQ fr,b⟩:=by
 obtain ⟨h1,h2,h3⟩:=hE
 conv=>arg 2;whnf
 simp -implicitDefEqProofs only [rX,↓rY,↓reduceIte,Nat.reduceEqDiff,Nat.reduceAdd,h1,h9]
 have o:=aeI eA eP exL oM (by decide) (by intro r hr;simp only [exL,yac,yaw,or_false] at hr;rcases hr with rfl|rfl|rfl|rfl<;>exact cW) (by intro r hr;simp only [exL,yac,yaw,or_false] at hr;rcases hr with rfl|rfl|rfl|rfl<;>decide)
 rw [abQ] at o
 refine aE o ⟨⟨aW.1,?_,trivial⟩,aW.2,?_,trivial⟩ rfl trivial ?_
 ·simp [aK,blk]
  decide
 ·simp [bQ,wk,blk,wkB,aX]
  rfl
 simp -implicitDefEqProofs only [rX,↓rY,↓reduceIte,Nat.reduceEqDiff]
 refine hN _ _ ⟨h1,h2,h3⟩ ?_ ?_ ?_
 ·exact h5
 ·rfl
 ·rfl
theorem adE (hE:E1 e) (h5:get e 5=.ptr 3 0 0) (h13:get e 13=.i (-1)) (h14:get e 14=.i 0)
  (hN:∀ e b,E1 e→get e 5=.ptr 3 0 0→get e 13=.i (-1)→get e 14=.i 0→get e 15=P.li [3]→get e 16=P.li []→N ⟨e,hQ fr,b⟩):aw cT (pt 10 c9) N X R ⟨e,hQ fr,b⟩:=by
 obtain ⟨h1,h2,h3⟩:=hE
 conv=>arg 2;whnf
 simp -implicitDefEqProofs only [rX,↓rY,↓reduceIte,Nat.reduceEqDiff,Nat.reduceAdd,h1,h5,Sx]
 have o:=akD eA eP iE oM (by decide)
 rw [Wt,Ws] at o
 refine aE o He rfl trivial ?_
 unfold P.li
 simp -implicitDefEqProofs only [rX,↓rY,↓reduceIte,Nat.reduceEqDiff]
 refine hN _ _ ⟨h1,h2,h3⟩ ?_ ?_ ?_ ?_ ?_
 ·exact h5
 ·exact h13
 ·exact h14
 ·rfl
 ·rfl
theorem adD (hE:E1 e) (h5:get e 5=.ptr 3 0 0) (h13:get e 13=.i (-1)) (h14:get e 14=.i 0) (h15:get e 15=P.li [3]) (h16:get e 16=P.li [])
  (hN:∀ e b,E1 e→get e 5=.ptr 3 0 0→get e 13=.i (-1)→get e 14=.i 0→get e 15=P.li [3]→get e 16=P.li []→get e 17=.i 4→get e 18=.i 0→N ⟨e,hQ fr,b⟩):aw cT (pt 11 c9) N X R ⟨e,hQ fr,b⟩:=by
 obtain ⟨h1,h2,h3⟩:=hE
 conv=>arg 2;whnf
 simp -implicitDefEqProofs only [rX,↓rY,↓reduceIte,Nat.reduceEqDiff,Nat.reduceAdd,h1,h5,Sx]
 have o:=akE eA eP iE oM (by decide)
 rw [show nC (P.nN eA) iE=true from Wu,if_pos rfl,show bnd (P.bJ eA eP) iE=4 from abP] at o
 refine aE o He rfl trivial ?_
 simp -implicitDefEqProofs only [rX,↓rY,↓reduceIte,Nat.reduceEqDiff]
 refine hN _ _ ⟨h1,h2,h3⟩ ?_ ?_ ?_ ?_ ?_ ?_ ?_
 ·exact h5
 ·exact h13
 ·exact h14
 ·exact h15
 ·exact h16
 ·rfl
 ·rfl
structure E2 (e:Env):Prop where
 g1:get e 1=.ptr 0 0 0
 g5:get e 5=.ptr 3 0 0
 g13:get e 13=.i (-1)
 g14:get e 14=.i 0
 g15:get e 15=P.li [3]
 g16:get e 16=P.li []
 g17:get e 17=.i 4
 g18:get e 18=.i 0
 g19:get e 19=.ptr 6 0 0
theorem adC (hE:E1 e) (h5:get e 5=.ptr 3 0 0) (h13:get e 13=.i (-1)) (h14:get e 14=.i 0) (h15:get e 15=P.li [3]) (h16:get e 16=P.li []) (h17:get e 17=.i 4) (h18:get e 18=.i 0)
  (hN:∀ e b,E2 e→N ⟨e,hQ fr++[.var exA.enc],b⟩):aw cT (pt 12 c9) N X R ⟨e,hQ fr,b⟩:=by
 obtain ⟨h1,h2,h3⟩:=hE
 conv=>arg 2;whnf
 simp -implicitDefEqProofs only [rX,↓rY,aA,cells?,splice,↓reduceIte,Nat.reduceEqDiff,Nat.reduceAdd,aC,aZ,h5,On,Hn,Bl,vR]
 refine hN _ _ ⟨?_,?_,?_,?_,?_,?_,?_,?_,?_⟩
 ·exact h1
 ·exact h5
 ·exact h13
 ·exact h14
 ·exact h15
 ·exact h16
 ·exact h17
 ·exact h18
 ·rfl
theorem adB (hE:E2 e) (hN:∀ e b,E2 e→N ⟨e,hQ fr++[.var (Ao (exS 1 0 4)).enc],b⟩):aw cT (pt 13 c9) N X R ⟨e,hQ fr++[.var exA.enc],b⟩:=by
 obtain ⟨h1,h5,h13,h14,h15,h16,h17,h18,h19⟩:=hE
 conv=>arg 2;whnf
 have hl:(iE.map P.encI).length=8:=rfl
 simp -implicitDefEqProofs only [rX,↓rY,aA,cells?,splice,↓reduceIte,Nat.reduceEqDiff,Nat.reduceAdd,dU,isC,aZ,h19,Sx,P.li,hl]
 intro _
 refine ⟨⟨by decide,by decide⟩,⟨⟨by decide,by decide⟩,by decide,by decide⟩,by rw [On];decide,?_⟩
 refine hN _ _ ⟨?_,?_,?_,?_,?_,?_,?_,?_,?_⟩
 ·exact h1
 ·exact h5
 ·exact h13
 ·exact h14
 ·exact h15
 ·exact h16
 ·exact h17
 ·exact h18
 ·exact h19
theorem adA (hE:E2 e) (hN:∀ e b h,get e 0=.b true→N ⟨e,h,b⟩):aw cT (pt 14 c9) N X R ⟨e,hQ fr++[.var (Ao (exS 1 0 4)).enc],b⟩:=by
 obtain ⟨h1,h5,h13,h14,h15,h16,h17,h18,h19⟩:=hE
 conv=>arg 2;whnf
 simp -implicitDefEqProofs only [rX,↓rY,rdK,aA,cells?,↓reduceIte,Nat.reduceEqDiff,Nat.reduceAdd,aC,cG,isD,Nat.reduceLT,aJ,h1,h5,h13,h14,h15,h19,P.li,beq_self_eq_true]
 refine aE (akC [3] (by decide)) (by simp [aG,aK,aX,bQ,wkL,wk,wkR,wkB,blk];rfl) rfl (by simp [aD,aB]) ?_
 have l1:(Ao (exS 1 0 4)).enc.length=24:=lJ cW
 have l2:yag 24 (Ao (exS 1 0 4)).enc=(Ao (exS 1 0 4)).enc:=Lr cW
 simp -implicitDefEqProofs only [rX,↓rY,rdK,aA,↓reduceIte,Nat.reduceEqDiff,Nat.reduceAdd,aJ,h1,h5,h16,h17,h18,h19,P.li,Int.natCast_zero,beq_self_eq_true,l1,l2]
 have o14:=aaP eA eP (Ao (exS 1 0 4)) oM (by show (7:Nat)≤1000000;decide)
 rw [abN] at o14
 intro _
 refine aE o14 ⟨⟨aW.1,(eY rfl).1,trivial⟩,aW.2,(eY rfl).2,trivial⟩ rfl (by simp [aD,aB]) ?_
 simp -implicitDefEqProofs only [rX,↓rY,rdK,aA,↓reduceIte,Nat.reduceEqDiff,Nat.reduceAdd,aJ,h1,h5,beq_self_eq_true,On,Hn]
 refine aE (Bn 1 (by decide)) ⟨⟨trivial,trivial⟩,rfl,trivial⟩ rfl (by simp [aD,aB]) ?_
 unfold keyK Ky.enc
 simp -implicitDefEqProofs only [rX,↓rY,cells?,↓reduceIte,Nat.reduceEqDiff,Nat.reduceAdd,aC,cG,isD,Nat.reduceLT,aJ]
 have o16:=aeJ [keyK 1] eA eP exA oM (Ez (by decide)) Wq (by decide) cW
 rw [Wo] at o16
 refine aE o16 ⟨⟨?_,aW.1,(eY rfl).1,trivial⟩,?_,aW.2,(eY rfl).2,trivial⟩ rfl (by simp [aD,aB]) ?_
 ·simp [aK,blk]
 ·simp [bQ,wk,blk,wkB,aX,bK,keyK,Ky.enc]
 simp -implicitDefEqProofs only [rX,↓rY,aA,↓reduceIte,Nat.reduceEqDiff,beq_self_eq_true]
 refine hN _ _ _ ?_
 rfl
theorem acZ {h:List Blk} (h0:get e 0=.b true):aw cT (pt 15 c9) N X (eZ [] 0 [.tmp 0] (Is (.b true))) ⟨e,h,b⟩:=by
 conv=>arg 2;whnf
 simp -implicitDefEqProofs only [rX,aQ,aU,wfV,h0]
end
theorem ok9:Ok 9 [] (Is (.b true)):=by
 refine ok_of lw9 (by simp) ?_
 rw [c9_parts]
 show aw cT _ _ _ _ ⟨[],[],0⟩
 rw [zc]
 refine aiN ?_
 rw [zc]
 refine aiM fun e h1=>?_
 rw [zc]
 refine aiL h1 fun e h1 h2=>?_
 rw [zc]
 refine aiK h1 h2 fun e fr hX hE h4=>?_
 rw [zc]
 refine aiJ hX hE h4 fun e hE h4 h5 h6=>?_
 rw [zc]
 refine aiI hX hE h4 h5 h6 fun e hE h4 h5 h6 h8=>?_
 rw [zc]
 refine aiH h4 h5 h6 h8 hE fun e b hE h5=>?_
 rw [zc]
 refine aiG hE h5 fun e hE h5 h9=>?_
 rw [zc]
 refine aiF hX hE h5 h9 fun e b hE h5 h9=>?_
 rw [zc]
 refine aiE hE h5 h9 fun e b hE h5 h13 h14=>?_
 rw [zc]
 refine adE hE h5 h13 h14 fun e b hE h5 h13 h14 h15 h16=>?_
 rw [zc]
 refine adD hE h5 h13 h14 h15 h16 fun e b hE h5 h13 h14 h15 h16 h17 h18=>?_
 rw [zc]
 refine adC hE h5 h13 h14 h15 h16 h17 h18 fun e b hE=>?_
 rw [zc]
 refine adB hE fun e b hE=>?_
 rw [zc]
 refine adA hE fun e b h h0=>?_
 exact acZ h0
set_option maxRecDepth 20000
open Go.Fx.P (Arc aF)
theorem afV {ps:List aF} {rs:List P.Road} (h:Sq ps rs=true):eU ps rs:=by
 unfold Sq at h
 exact @of_decide_eq_true _ (Classical.propDecidable _) h
set_option maxRecDepth 20000
open Go.Fx.P (Arc aF)
set_option maxRecDepth 20000
open Go.Fx.P (Arc aF)
theorem akG {ps:List aF}:2≤P.nN ps:=by unfold P.nN;omega
end Go.Fx.E
namespace Go.Fx.P
open Go Go.Fx Go.Fx.E Go.Proofs
set_option maxRecDepth 20000
def cM (f:Nat→Int):Nat→Int
 | 0=>0
 | k+1=>cM f k+f k
theorem rT {f:Nat→Int} (a:Nat):∀ b,cM f (a+b)=cM f a+cM (fun i=>f (a+i)) b
 | 0=>by simp [cM]
 | b+1=>by
  rw [←Nat.add_assoc,cM,rT a b,cM];omega
theorem dI {f g:Nat→Int}:∀ {n:Nat},(∀ i,i<n→f i=g i)→cM f n=cM g n
 | 0,_=>rfl
 | n+1,h=>by rw [cM,cM,dI fun i hi=>h i (by omega),h n (by omega)]
theorem fE {f:Nat→Int}:∀ {n:Nat},(∀ i,i<n→f i=0)→cM f n=0
 | 0,_=>rfl
 | n+1,h=>by rw [cM,fE fun i hi=>h i (by omega),h n (by omega)];rfl
theorem Cc {f g:Nat→Int}:∀ {n:Nat},cM (fun i=>f i+g i) n=cM f n+cM g n
 | 0=>rfl
 | n+1=>by rw [cM,cM,cM,Cc];omega
theorem xO {f:Nat→Int}:∀ {n:Nat},cM (fun i=>- f i) n=- cM f n
 | 0=>rfl
 | n+1=>by rw [cM,cM,xO];omega
theorem Dy {f g:Nat→Int}:∀ {n:Nat},(∀ i,i<n→f i≤g i)→cM f n≤cM g n
 | 0,_=>yaO _
 | n+1,h=>by
  have h1:=Dy (f:=f) (g:=g) (n:=n) fun i hi=>h i (by omega)
  have h2:=h n (by omega)
  rw [cM,cM];omega
theorem rR {f:Nat→Int} {i:Nat}:∀ {n:Nat},i<n→cM (fun k=>if k=i then f k else 0) n=f i
 | n+1,h=>by
  rw [cM]
  by_cases hi:n=i
  ·subst hi
   rw [if_pos rfl,fE fun k hk=>if_neg (by omega)];omega
  ·rw [if_neg hi,rR (by omega)];omega
theorem Cb {g:Nat→Nat→Int} {m:Nat}:∀ {n:Nat},cM (fun i=>cM (g i) m) n=cM (fun k=>cM (fun i=>g i k) n) m
 | 0=>(fE fun _ _=>rfl).symm
 | n+1=>by
  rw [cM,Cb,←Cc]
  rfl
theorem Nj {f:Nat→Int} {p:Nat→Nat} {n m:Nat} (hp:∀ k,k<m→p k<n):cM (fun i=>cM (fun k=>if p k=i then f k else 0) m) n=cM f m:=by
 rw [Cb]
 refine dI fun k hk=>?_
 have:=rR (f:=fun _=>f k) (hp k hk)
 refine Eq.trans (dI fun i _=>?_) this
 by_cases h:p k=i
 ·rw [if_pos h,if_pos h.symm]
 ·rw [if_neg h,if_neg fun h2=>h h2.symm]
def con (j:Int) (a:Arc) (x:Int):Int:=(if a.from_=j then x else 0)-(if a.to=j then x else 0)
abbrev a0:Arc:=⟨0,0,0,0⟩
theorem By {arcs:List Arc} {j:Int} {flow:List Int}:∀ {k:Nat},K.valTo arcs j flow k=cM (fun i=>con j (arcs.getD i a0) (flow.getD i 0)) k
 | 0=>rfl
 | k+1=>by
  have e:arcs.getD k a0=arcs.getD k ⟨0,0,0,0⟩:=rfl
  rw [K.valTo,By,cM,con,e]
  split<;>split<;>omega
theorem oL {l m:List Arc} {i:Nat} (h:i<l.length):(l++m).getD i a0=l.getD i a0:=by
 rw [yae,List.getElem?_append_left h,yae]
theorem Et {l m:List Arc} {i n:Nat} (h:l.length=n):(l++m).getD (n+i) a0=m.getD i a0:=by
 rw [yae,yaQ (by omega),yae,show n+i-l.length=i by omega]
theorem getD_map {α:Type} {l:List α} {f:α→Arc} {i:Nat} (d:α) (h:i<l.length):(l.map f).getD i a0=f (l.getD i d):=by
 rw [yae,yaB,yae,yab h];rfl
theorem Bx {ps:List aF} {rs:List Road} {flow:List Int} {j:Int}:K.valTo (bJ ps rs) j flow (bJ ps rs).length =
  cM (fun i=>con j (aP ps i) (flow.getD i 0)) ps.length +
  cM (fun k=>con j (aS ps ((ofN ps 1 ps.length).getD k 0)) (flow.getD (ps.length+k) 0)) (ofN ps 1 ps.length).length +
  cM (fun k=>con j (aO ps ((ofN ps 3 ps.length).getD k 0)) (flow.getD (ps.length+(ofN ps 1 ps.length).length+k) 0)) (ofN ps 3 ps.length).length +
  cM (fun k=>con j (aR (rs.getD k default)) (flow.getD (ps.length+(ofN ps 1 ps.length).length+(ofN ps 3 ps.length).length+k) 0)) rs.length:=by
 rw [By,oZ,rT,rT,rT]
 have l3:(nA3 ps (ofN ps 3 ps.length)).length=ps.length+(ofN ps 1 ps.length).length+(ofN ps 3 ps.length).length:=by
  simp only [nA3,nA2,nA1,yaa,yai,yar]
 have l2:(nA2 ps (ofN ps 1 ps.length)).length=ps.length+(ofN ps 1 ps.length).length:=by
  simp only [nA2,nA1,yaa,yai,yar]
 have l1:(nA1 ps ps.length).length=ps.length:=o3
 congr 1
 ·congr 1
  ·congr 1
   ·refine dI fun i hi=>?_
    rw [bJ,nA4,oL (by omega),nA3,oL (by omega),nA2,oL (by omega),nA1,getD_map 0 (by simpa using hi)]
    rw [yae,List.getElem?_range hi,yao]
   ·refine dI fun i hi=>?_
    rw [bJ,nA4,oL (by omega),nA3,oL (by omega),nA2,Et l1,getD_map 0 hi]
  ·refine dI fun i hi=>?_
   rw [bJ,nA4,oL (by omega),nA3,Et l2,getD_map 0 hi]
 ·refine dI fun i hi=>?_
  rw [bJ,nA4,Et l3,getD_map default hi]
end Go.Fx.P
namespace Go.Fx.P
open Go Go.Fx Go.Fx.E Go.Proofs
set_option maxRecDepth 20000
theorem Yv {j x:Int} {a:Arc} (h1:a.from_=j) (h2:a.to≠j):con j a x=x:=by rw [con,if_pos h1,if_neg h2];omega
theorem Yu {j x:Int} {a:Arc} (h1:a.from_≠j) (h2:a.to=j):con j a x=-x:=by rw [con,if_neg h1,if_pos h2];omega
theorem At {j x:Int} {a:Arc} (h1:a.from_≠j) (h2:a.to≠j):con j a x=0:=by rw [con,if_neg h1,if_neg h2];rfl
def Fr.fl (fr:Fr) (k:Nat):Int:=fr.flow.getD k 0
def sS (ps:List aF) (fr:Fr) (i:Nat):Int:=cM (fun k=>if (ofN ps 1 ps.length).getD k 0=i then fr.fl (ps.length+k) else 0) (ofN ps 1 ps.length).length
def Fr.rd (ps:List aF) (fr:Fr) (k:Nat):Int:=fr.fl (ps.length+(ofN ps 1 ps.length).length+(ofN ps 3 ps.length).length+k)
def sIn (ps:List aF) (rs:List Road) (fr:Fr) (i:Nat):Int:=cM (fun k=>if (rs.getD k default).to=i then fr.rd ps k else 0) rs.length
theorem Zm {ps:List aF} {rs:List Road} {fr:Fr} {i:Nat} (hi:i<ps.length):K.valTo (bJ ps rs) (2+2*i:Nat) fr.flow (bJ ps rs).length=fr.fl i-sS ps fr i-sIn ps rs fr i:=by
 rw [Bx]
 have e1:cM (fun k=>con (2+2*i:Nat) (aP ps k) (fr.flow.getD k 0)) ps.length=fr.fl i:=by
  rw [←rR (f:=fr.fl) hi]
  refine dI fun k _=>?_
  simp only [Fr.rd,Fr.fl]
  by_cases h:k=i
  ·rw [if_pos h,Yv (by simp only [aP,aS,aO,aR];omega) (by simp only [aP,aS,aO,aR];omega)]
  ·rw [if_neg h,At (by simp only [aP,aS,aO,aR];omega) (by simp only [aP,aS,aO,aR];omega)];try omega
 have e2:cM (fun k=>con (2+2*i:Nat) (aS ps ((ofN ps 1 ps.length).getD k 0)) (fr.flow.getD (ps.length+k) 0)) (ofN ps 1 ps.length).length=- sS ps fr i:=by
  rw [sS,←xO]
  refine dI fun k _=>?_
  simp only [Fr.rd,Fr.fl]
  by_cases h:(ofN ps 1 ps.length).getD k 0=i
  ·rw [if_pos h,Yu (by simp only [aP,aS,aO,aR];omega) (by simp only [aP,aS,aO,aR];omega)]
  ·rw [if_neg h,At (by simp only [aP,aS,aO,aR];omega) (by simp only [aP,aS,aO,aR];omega)];try omega
 have e3:cM (fun k=>con (2+2*i:Nat) (aO ps ((ofN ps 3 ps.length).getD k 0)) (fr.flow.getD (ps.length+(ofN ps 1 ps.length).length+k) 0)) (ofN ps 3 ps.length).length=0:=by
  refine fE fun k _=>?_
  exact At (by simp only [aP,aS,aO,aR];omega) (by simp only [aP,aS,aO,aR];omega)
 have e4:cM (fun k=>con (2+2*i:Nat) (aR (rs.getD k default)) (fr.flow.getD (ps.length+(ofN ps 1 ps.length).length+(ofN ps 3 ps.length).length+k) 0)) rs.length=- sIn ps rs fr i:=by
  rw [sIn,←xO]
  refine dI fun k _=>?_
  simp only [Fr.rd,Fr.fl]
  by_cases h:(rs.getD k default).to=i
  ·rw [if_pos h,Yu (by simp only [aP,aS,aO,aR];omega) (by simp only [aP,aS,aO,aR];omega)]
  ·rw [if_neg h,At (by simp only [aP,aS,aO,aR];omega) (by simp only [aP,aS,aO,aR];omega)];try omega
 rw [e1,e2,e3,e4];omega
theorem acR {ps:List aF} {rs:List Road} {fr:Fr} (hv:RInv ps rs rs.length):K.valTo (bJ ps rs) 0 fr.flow (bJ ps rs).length=cM (fun k=>fr.fl (ps.length+k)) (ofN ps 1 ps.length).length:=by
 rw [Bx]
 have e1:cM (fun k=>con 0 (aP ps k) (fr.flow.getD k 0)) ps.length=0:=by
  refine fE fun k _=>?_
  exact At (by simp only [aP,aS,aO,aR];omega) (by simp only [aP,aS,aO,aR];omega)
 have e2:cM (fun k=>con 0 (aS ps ((ofN ps 1 ps.length).getD k 0)) (fr.flow.getD (ps.length+k) 0)) (ofN ps 1 ps.length).length=cM (fun k=>fr.fl (ps.length+k)) (ofN ps 1 ps.length).length:=by
  refine dI fun k _=>?_
  simp only [Fr.rd,Fr.fl]
  exact Yv rfl (by simp only [aP,aS,aO,aR];omega)
 have e3:cM (fun k=>con 0 (aO ps ((ofN ps 3 ps.length).getD k 0)) (fr.flow.getD (ps.length+(ofN ps 1 ps.length).length+k) 0)) (ofN ps 3 ps.length).length=0:=by
  refine fE fun k _=>?_
  exact At (by simp only [aP,aS,aO,aR];omega) (by simp only [aP,aS,aO,aR];omega)
 have e4:cM (fun k=>con 0 (aR (rs.getD k default)) (fr.flow.getD (ps.length+(ofN ps 1 ps.length).length+(ofN ps 3 ps.length).length+k) 0)) rs.length=0:=by
  refine fE fun k hk=>?_
  obtain ⟨h1,h2,_⟩:=hv.h k hk hk
  have e:rs.getD k default=rs[k]:=by rw [yae,yab hk,yao]
  rw [e]
  exact At (by simp only [aP,aS,aO,aR];omega) (by simp only [aP,aS,aO,aR];omega)
 rw [e1,e2,e3,e4];omega
end Go.Fx.P
namespace Go.Fx.P
open Go Go.Fx Go.Fx.E Go.Proofs
set_option maxRecDepth 20000
theorem Wm {rs:List Road} {k:Nat} (hk:k<rs.length):rs.getD k default=rs[k]:=by rw [yae,yab hk,yao]
theorem Gs {ps:List aF} {kind:Int} {n k:Nat} (hk:k<(ofN ps kind n).length):(ofN ps kind n).getD k 0<n∧isK ps kind ((ofN ps kind n).getD k 0)=true:=by
 rw [yae,yab hk,yao]
 have:=yan hk
 exact ⟨oY this,(yaj.1 this).2⟩
variable {ps:List aF} {rs:List Road} {fr:Fr}
theorem cF.fl_b (h:cF ps rs fr) (k:Nat):0≤fr.fl k∧fr.fl k≤1073741824 :=
 K.So ((v8 h.chk).flow h.acc.fl.hl h.acc.fl.hp) k
theorem cF.len (h:cF ps rs fr):fr.flow.length=ps.length+(ofN ps 1 ps.length).length+(ofN ps 3 ps.length).length+rs.length:=by
 rw [h.acc.fl.hl,oZ]
theorem cF.caps (h:cF ps rs fr) {i:Nat} (hi:i<ps.length):fr.fl i≤ps[i].cap:=by
 have hl:=h.acc.fl.hl
 have hn:=oZ (ps:=ps) (rs:=rs)
 have:=(h.acc.fl.hp i (by omega) (by omega)).2
 have e:(bJ ps rs)[i]'(by omega)=aP ps i:=by
  have l2:(nA2 ps (ofN ps 1 ps.length)).length=ps.length+(ofN ps 1 ps.length).length:=by
   simp only [nA2,nA1,yaa,yai,yar]
  have l3:(nA3 ps (ofN ps 3 ps.length)).length=ps.length+(ofN ps 1 ps.length).length+(ofN ps 3 ps.length).length:=by
   simp only [nA3,nA2,nA1,yaa,yai,yar]
  have l1:(nA1 ps ps.length).length=ps.length:=o3
  simp only [bJ,nA4]
  rw [yaP (by omega)]
  simp only [nA3]
  rw [yaP (by omega)]
  simp only [nA2]
  rw [yaP (by omega)]
  simp only [nA1,yal,List.getElem_range]
 rw [e] at this
 rw [Fr.fl,yae,yab (by omega),yao]
 have e2:=dL hi
 simp only [aP] at this
 omega
theorem cF.e_in (h:cF ps rs fr) {i:Nat} (hi:i<ps.length):fr.fl i=sS ps fr i+sIn ps rs fr i:=by
 have h1:=Zm (rs:=rs) (fr:=fr) hi
 have h2:=h.acc.fl.hz (2+2*i:Nat) (by omega) (by simp only [nN];omega) (by omega) (by omega)
 omega
theorem cF.sent (h:cF ps rs fr):cM (fun k=>fr.fl (ps.length+k)) (ofN ps 1 ps.length).length=fr.sent:=by
 rw [←h.acc.hv,acR (eG h.chk).2.2]
theorem aiD {i:Nat} (hi:isK ps 1 i=false):sS ps fr i=0:=fE fun k hk=>if_neg fun h=>by
 have:=(Gs hk).2;rw [h,hi] at this;cases this
theorem cF.snd (h:cF ps rs fr) {k:Nat} (hk:k<rs.length):gQ ps rs[k]:=(eG h.chk).2.2.h k hk hk
theorem cF.in_0 (h:cF ps rs fr) {i:Nat} (hi:isK ps 1 i=true):sIn ps rs fr i=0:=fE fun k hk=>if_neg fun h2=>by
 obtain ⟨h3,h4,_,_,_,_,h5⟩:=h.snd hk
 rw [Wm hk] at h2
 have h6:i<ps.length:=by omega
 rw [p6 h6] at hi
 have:rs[k].to.toNat=i:=by omega
 simp only [this] at h5
 exact h5 (by simpa using hi)
theorem agP:cM (sS ps fr) ps.length=cM (fun k=>fr.fl (ps.length+k)) (ofN ps 1 ps.length).length :=
 Nj (p:=fun k=>(ofN ps 1 ps.length).getD k 0) (f:=fun k=>fr.fl (ps.length+k)) fun k hk=>(Gs hk).1
def w8 (ps:List aF) (fr:Fr) (kind:Int) (n:Nat):Int:=cM (fun i=>if isK ps kind i then fr.fl i else 0) n
theorem cF.asked (h:cF ps rs fr):w8 ps fr 1 ps.length=fr.sent:=by
 rw [←h.sent,←agP]
 refine dI fun i hi=>?_
 cases hk:isK ps 1 i with
 | true =>
  have h1:=h.e_in hi
  have h2:=h.in_0 hk
  simp only [if_true];omega
 | false=>rw [if_neg (by simp),aiD hk]
end Go.Fx.P
namespace Go.Fx.E
open Go Go.Fx Go.Proofs
set_option maxRecDepth 20000
open Go.Fx.P (Arc aF)
theorem Zu {N:Nat} {arcs:List Arc} {x cut:List Int} (hV:P.K.Val N arcs) (hN:2≤N) (hx:P.K.OkF N arcs 0 1 x) (hc:P.K.OkC N arcs 0 1 x cut):P.K.valTo arcs 0 x arcs.length=bnd arcs cut:=by
 have hcP:s6 N cut:=xE ⟨hc.hs,hc.hf,hc.ht⟩
 have h0:(0:Int)∈cut:=yaS hcP.2.2
 have h1:(1:Int)∉cut:=fun h=>(hcP.1 1 h).2.2 rfl
 have hp:=P.K.pot_flow hV (f:=0) (t:=1) (by omega) (by omega) (by decide) x hx.hz (fun v=>if (v:Int)∈cut then 1 else 0)
 simp only [Int.toNat_zero,show Int.toNat 1=1 from rfl] at hp
 rw [if_pos (by exact h0),if_neg (by exact h1)] at hp
 rw [Int.sub_zero,Int.one_mul] at hp
 rw [←hp]
 have key:∀ k,k≤arcs.length→P.K.sm (fun j=>x.getD j 0*((if (((P.K.gA arcs j).from_.toNat:Nat):Int)∈cut then 1 else 0)-(if (((P.K.gA arcs j).to.toNat:Nat):Int)∈cut then 1 else 0))) k=sW arcs cut k:=by
  intro k
  induction k with
  | zero=>intro _;rw [Ty];rfl
  | succ k ih =>
   intro hk
   have ih:=ih (by omega)
   have hkl:k<arcs.length:=by omega
   have hv:=hV.at hkl
   rw [P.K.gA_at hkl] at hv
   have ha:=hc.ha.h k hkl hkl
   simp only [P.K.sm]
   rw [P.K.gA_at hkl,yaV hv.1.1,yaV hv.2.1.1]
   by_cases hf:arcs[k].from_∈cut
   ·by_cases ht:arcs[k].to∈cut
    ·have ho:f8 cut arcs[k]=false:=by simp [f8,ht]
     rw [Mz hkl ho,if_pos hf,if_pos ht]
     omega
    ·have ho:f8 cut arcs[k]=true:=by simp [f8,ht,hf]
     have:=ha.1 (decide_eq_true hf) (decide_eq_false ht)
     rw [Tw hkl ho,if_pos hf,if_neg ht]
     omega
   ·have ho:f8 cut arcs[k]=false:=by simp [f8,hf]
    rw [Mz hkl ho,if_neg hf]
    by_cases ht:arcs[k].to∈cut
    ·have:=ha.2 (decide_eq_true ht) (decide_eq_false hf)
     rw [if_pos ht,this]
     omega
    ·rw [if_neg ht]
     omega
 exact key _ (yah _)
section
variable {ps:List aF} {rs:List P.Road} {fr:P.Fr}
theorem Vh (h:P.cF ps rs fr) {i:Nat} (hi:i<ps.length) (hk:P.isK ps 1 i=true) (hlt:fr.fl i<ps[i].cap) (hs:fr.sent<P.dem ps):hasB fr.cut (2+2*(i:Int))=true:=by
 have hm:i∈P.ofN ps 1 ps.length:=w7.2 ⟨hi,hk⟩
 obtain ⟨k,hkl,hke⟩:=yaU hm
 have hgd:(P.ofN ps 1 ps.length).getD k 0=i:=by rw [yae,yab hkl,yao,hke]
 have hlen:(P.bJ ps rs).length=ps.length+(P.ofN ps 1 ps.length).length+(P.ofN ps 3 ps.length).length+rs.length:=P.oZ
 have hj:ps.length+k<(P.bJ ps rs).length:=by omega
 have l3:(P.nA3 ps (P.ofN ps 3 ps.length)).length=ps.length+(P.ofN ps 1 ps.length).length+(P.ofN ps 3 ps.length).length:=by
  simp only [P.nA3,P.nA2,P.nA1,yaa,yai,yar]
 have l2:(P.nA2 ps (P.ofN ps 1 ps.length)).length=ps.length+(P.ofN ps 1 ps.length).length:=by
  simp only [P.nA2,P.nA1,yaa,yai,yar]
 have ha:(P.bJ ps rs)[ps.length+k]=P.aS ps i:=by
  have:(P.bJ ps rs).getD (ps.length+k) P.a0=P.aS ps i:=by
   rw [P.bJ,P.nA4,P.oL (by omega),P.nA3,P.oL (by omega),P.nA2,P.Et P.o3,P.getD_map 0 hkl,hgd]
  rw [yae,yab hj,yao] at this
  exact this
 have hfl:fr.fl (ps.length+k)≤fr.fl i:=by
  have h1:=h.e_in hi
  have h2:=h.in_0 hk
  have h3:P.cM (fun j=>if j=k then (fun j=>if (P.ofN ps 1 ps.length).getD j 0=i then fr.fl (ps.length+j) else 0) j else 0) (P.ofN ps 1 ps.length).length≤P.sS ps fr i:=by
   refine P.Dy fun j hj=>?_
   by_cases e:j=k
   ·rw [if_pos e]
    exact yaO _
   ·rw [if_neg e]
    split
    ·exact (h.fl_b _).1
    ·exact yaO _
  rw [P.rR hkl] at h3
  simp only [hgd,if_true] at h3
  omega
 have hc:=h.acc.hc
 rw [if_neg (by omega)] at hc
 have hA:=hc.ha.h _ hj hj
 rw [ha] at hA
 cases hb:hasB fr.cut (2+2*(i:Int)) with
 | true=>rfl
 | false =>
  have:=hA.1 hc.hf hb
  have h4:fr.flow.getD (ps.length+k) 0=fr.fl (ps.length+k):=rfl
  have h5:(P.aS ps i).cap=ps[i].cap:=P.dL hi
  omega
def uI (ps:List aF) (n:Nat):Int:=P.cM (fun i=>if P.isK ps 1 i then P.dH ps i else 0) n
theorem Fe:∀ n,uI ps n=P.lI ps (P.ofN ps 1 n)
 | 0=>rfl
 | n+1=>by
  rw [P.j3,P.rU,←Fe n,uI,P.cM]
  show uI ps n+_=_
  congr 1
  split<;>simp [P.lI]
end
set_option maxRecDepth 20000
open Go.Fx.P (Arc aF)
theorem Ll {f g:Nat→Int} {i:Nat}:∀ {n:Nat},(∀ j,j<n→f j≤g j)→i<n→f i<g i→P.cM f n<P.cM g n
 | 0,_,h,_=>by omega
 | n+1,hle,hi,hlt=>by
  simp only [P.cM]
  have h1:=P.Dy (f:=f) (g:=g) (n:=n) fun j hj=>hle j (by omega)
  have h2:=hle n (by omega)
  by_cases e:i=n
  ·subst e;omega
  ·have:=Ll (n:=n) (fun j hj=>hle j (by omega)) (by omega) hlt
   omega
def fT (ps:List aF) (i:Nat):Int:=match ps[i]? with
 | some x=>x.num
 | none=>0
def R6 (ps:List aF) (fr:P.Fr) (w:Int) (i n:Nat):Rf:=rf1 (keyK (fT ps i)) fr i n w 1 2
def uS (ps:List aF) (fr:P.Fr) (w:Int) (i:Nat):Nat→List Rf
 | 0=>[]
 | m+1=>uS ps fr w i m++(if fr.fl i≤(m:Int) then [R6 ps fr w i m] else [])
def uA (ps:List aF) (fr:P.Fr) (w:Int):Nat→List Rf
 | 0=>[]
 | k+1=>uA ps fr w k++(if P.isK ps 1 k then uS ps fr w k (P.dH ps k).toNat else [])
section
variable {ps:List aF} {rs:List P.Road} {fr:P.Fr} {w:Int}
theorem Pv {i:Nat} (h0:0≤fr.fl i):∀ m:Nat,((uS ps fr w i m).length:Int)=if fr.fl i≤m then m-fr.fl i else 0
 | 0=>by
  simp only [uS,yaq]
  split<;>omega
 | m+1=>by
  have ih:=Pv h0 m
  simp only [uS,yaa]
  by_cases h:fr.fl i≤(m:Int)
  ·rw [if_pos h] at ih ⊢
   rw [if_pos (by omega)]
   simp only [yaC,yaq]
   omega
  ·rw [if_neg h] at ih ⊢
   simp only [yaq]
   split<;>omega
theorem agB (h:P.cF ps rs fr) (i:Nat):0≤P.dH ps i:=(P.nD (P.eG h.chk).2.1 i).1
theorem Pw (h:P.cF ps rs fr):∀ k,k≤ps.length→((uA ps fr w k).length:Int)=uI ps k-P.w8 ps fr 1 k
 | 0,_=>by simp [uA,uI,P.w8,P.cM]
 | k+1,hk=>by
  have ih:=Pw h k (by omega)
  have hc:=h.caps (i:=k) (by omega)
  have hca:P.dH ps k=ps[k].cap:=P.dL (by omega)
  have h0:=(h.fl_b k).1
  have hc0:=agB h k
  simp only [uA,yaa,uI,P.w8,P.cM] at ih ⊢
  cases hK:P.isK ps 1 k with
  | false=>simp only [yaD,if_false,yaq];omega
  | true =>
   have:=Pv (ps:=ps) (w:=w) h0 (P.dH ps k).toNat
   rw [if_pos (by omega)] at this
   simp only [if_true]
   omega
theorem Ip (h:P.cF ps rs fr):((uA ps fr w ps.length).length:Int)=P.dem ps-fr.sent:=by
 rw [Pw h _ (yah _),h.asked,Fe]
 rfl
theorem Dt {i:Nat} {r:Rf}:∀ {m:Nat},r∈uS ps fr w i m→∃ n:Nat,n<m∧fr.fl i≤n∧r=R6 ps fr w i n
 | 0,h=>by simp [uS] at h
 | m+1,h=>by
  simp only [uS] at h
  rcases yaA.1 h with h|h
  ·obtain ⟨n,h1,h2⟩:=Dt h
   exact ⟨n,by omega,h2⟩
  ·by_cases hf:fr.fl i≤(m:Int)
   ·rw [if_pos hf] at h
    exact ⟨m,by omega,hf,yaG.1 h⟩
   ·rw [if_neg hf] at h;cases h
theorem Du {r:Rf}:∀ {k:Nat},r∈uA ps fr w k→∃ i n:Nat,i<k∧P.isK ps 1 i=true∧(n:Int)<P.dH ps i∧fr.fl i≤n∧r=R6 ps fr w i n
 | 0,h=>by simp [uA] at h
 | k+1,h=>by
  simp only [uA] at h
  rcases yaA.1 h with h|h
  ·obtain ⟨i,n,h1,h2⟩:=Du h
   exact ⟨i,n,by omega,h2⟩
  ·cases hK:P.isK ps 1 k with
   | false=>rw [hK] at h;simp at h
   | true =>
    rw [hK,if_pos rfl] at h
    obtain ⟨n,h1,h2⟩:=Dt h
    exact ⟨k,n,by omega,hK,by omega,h2⟩
def ltR (x y:Rf):Prop:=x.place<y.place∨(x.place=y.place∧x.n<y.n)
theorem Xw {i:Nat}:∀ m:Nat,(uS ps fr w i m).Pairwise ltR
 | 0=>List.Pairwise.nil
 | m+1=>by
  simp only [uS]
  rw [yaW]
  refine ⟨Xw m,?_,fun a ha b hb=>?_⟩
  ·split
   ·exact yaN _ _
   ·exact List.Pairwise.nil
  ·obtain ⟨n,h1,_,rfl⟩:=Dt ha
   split at hb
   ·rw [yaG.1 hb]
    exact .inr ⟨rfl,by show (n:Int)<m;omega⟩
   ·cases hb
theorem Xy:∀ k:Nat,(uA ps fr w k).Pairwise ltR
 | 0=>List.Pairwise.nil
 | k+1=>by
  simp only [uA]
  rw [yaW]
  refine ⟨Xy k,?_,fun a ha b hb=>?_⟩
  ·split
   ·exact Xw _
   ·exact List.Pairwise.nil
  ·obtain ⟨i,n,h1,_,_,_,rfl⟩:=Du ha
   split at hb
   ·obtain ⟨n',_,_,rfl⟩:=Dt hb
    exact .inl (by show (i:Int)<k;omega)
   ·cases hb
theorem Vk (h:P.cF ps rs fr) {i:Nat} (hi:i<ps.length) (hk:P.isK ps 1 i=true) (hlt:fr.fl i<P.dH ps i):fr.sent<P.dem ps:=by
 rw [←h.asked,P.dem,←Fe]
 refine Ll (i:=i) (fun j hj=>?_) hi ?_
 ·have:=h.caps hj
  have e:=P.dL hj
  split<;>omega
 ·simp only [hk,if_true]
  exact hlt
end
set_option maxRecDepth 20000
open Go.Fx.P (Arc aF)
section
variable {ps:List aF} {rs:List P.Road} {fr:P.Fr} {w:Int}
theorem Ln {i:Nat} (hi:i<ps.length) (hk:P.isK ps 1 i=true):fK ps (i:Int)=some ps[i]:=by
 rw [P.p6 hi] at hk
 rw [Qi hi,if_pos (by simpa using hk)]
theorem aaT (hF:eU ps rs) {i:Nat} (hi:i<ps.length) (hk:P.isK ps 1 i=true):fT ps i=ps[i].num∧0≤fT ps i∧fT ps i<64:=by
 have e:fT ps i=ps[i].num:=by unfold fT;rw [yab hi]
 have:=xR hF (Ln hi hk)
 exact ⟨e,by omega,by omega⟩
theorem agO (hF:eU ps rs) {i n:Nat} (hi:i<ps.length) (hk:P.isK ps 1 i=true) (hn:(n:Int)<P.dH ps i) (hw:pE w=true):uR (keyK (fT ps i)) ps i n w 1 2:=by
 obtain ⟨e,h1,h2⟩:=aaT hF hi hk
 refine ⟨ps[i],Ln hi hk,⟨?_,?_,?_,?_⟩,?_,by decide,hw,by omega,?_⟩
 ·simp only [keyK];omega
 ·simp only [keyK];omega
 ·simp only [keyK];decide
 ·simp only [keyK];decide
 ·simp only [keyK];omega
 ·rw [P.dL hi] at hn;exact hn
theorem mk6 (hF:eU ps rs) (h:P.cF ps rs fr) {i n:Nat} (hi:i<ps.length) (hk:P.isK ps 1 i=true) (hn:(n:Int)<P.dH ps i) (hw:pE w=true) :
  (fr.fl i≤(n:Int)→mkE (keyK (fT ps i)) ps rs fr i n w 1 2=0∧mkR (keyK (fT ps i)) ps rs fr i n w 1 2=R6 ps fr w i n)∧(¬fr.fl i≤(n:Int)→mkE (keyK (fT ps i)) ps rs fr i n w 1 2=4∧mkR (keyK (fT ps i)) ps rs fr i n w 1 2=zRf):=by
 have ha:=agO hF hi hk hn hw
 have e:fr.flow.getD ((i:Int)).toNat 0=fr.fl i:=by rw [yap];rfl
 refine ⟨fun hf=>?_,fun hf=>?_⟩
 ·exact Wb ha h.acc0 (by rw [e];omega)
 ·exact aaV ha h.acc0 (by rw [e];omega)
theorem agA (hF:eU ps rs) (h:P.cF ps rs fr) {i n:Nat} (hi:i<ps.length) (hk:P.isK ps 1 i=true) (hn:(n:Int)<P.dH ps i) (hf:fr.fl i≤(n:Int)) (hw:pE w=true):uH ps rs (R6 ps fr w i n)=0:=by
 have hlt:fr.fl i<P.dH ps i:=by omega
 have hs:=Vk h hi hk hlt
 have hc:=h.acc.hc
 rw [if_neg (by omega)] at hc
 have e1:nC (P.nN ps) fr.cut=true:=decide_eq_true (xE ⟨hc.hs,hc.hf,hc.ht⟩)
 have e2:bnd (P.bJ ps rs) fr.cut=fr.sent:=by
  rw [←Zu hF.net akG h.acc.fl hc]
  exact h.acc.hv
 have e3:hasB fr.cut (2+2*(i:Int))=true:=Vh h hi hk (by rw [←P.dL hi];exact hlt) hs
 unfold uH
 rw [show fK ps (R6 ps fr w i n).place=some ps[i] from Ln hi hk]
 simp only
 have hcap:=P.dL hi
 rw [if_neg (by
  rintro (h1|h1|h1)
  ·have:(n:Int)<0:=h1
   omega
  ·have:ps[i].cap≤(n:Int):=h1
   omega
  ·have:pE w=false:=h1
   rw [hw] at this;cases this),if_pos]
 unfold j1
 show (nC (P.nN ps) fr.cut&&(bnd (P.bJ ps rs) fr.cut==fr.sent)&&decide (fr.sent<P.dem ps)&&hasB fr.cut (2+2*(i:Int)))=true
 rw [e1,e2,e3,decide_eq_true hs]
 simp
theorem acX (hF:eU ps rs) {i n:Nat} (hi:i<ps.length) (hk:P.isK ps 1 i=true):Ox [keyK (fT ps i)] ps (R6 ps fr w i n)=0:=by
 obtain ⟨e,h1,h2⟩:=aaT hF hi hk
 unfold Ox
 rw [show fK ps (R6 ps fr w i n).place=some ps[i] from Ln hi hk]
 show Kd [keyK (fT ps i)] (1000+ps[i].num) 1 410 (partsOf (R6 ps fr w i n)) (R6 ps fr w i n).sg 1 2=0
 have h3:nR [keyK (fT ps i)] (1000+ps[i].num) 1=some (keyK (fT ps i)):=by
  unfold nR
  rw [List.find?_cons_of_pos]
  simp [keyK,e]
 have h4:Ou (keyK (fT ps i)) 1 2=true:=by
  exact decide_eq_true ⟨by decide,by decide,by decide,by show (0:Int)≤1;decide,by show (2:Int)<1099511627776;decide⟩
 unfold Kd
 rw [h3]
 simp only [h4]
 rw [if_neg (by simp)]
 exact if_pos rfl
theorem alV (hF:eU ps rs) (h:P.cF ps rs fr) (hw:pE w=true):If ps rs (uA ps fr w ps.length)=(-1,0):=by
 refine AlI.all ⟨yah _,fun k hk=>?_⟩
 have hm:∀ j (hj:j<(uA ps fr w ps.length).length),∃ i n:Nat,i<ps.length∧P.isK ps 1 i=true∧(n:Int)<P.dH ps i∧fr.fl i≤n∧(uA ps fr w ps.length)[j]=R6 ps fr w i n:=fun j hj=>Du (yan hj)
 obtain ⟨i,n,hi,hK,hn,hf,e⟩:=hm k hk
 obtain ⟨i0,n0,_,_,_,_,e0⟩:=hm 0 (by omega)
 have hlen:=Ip (w:=w) h
 rw [Sy hk (by omega),e,if_neg (by rw [agA hF h hi hK hn hf hw];simp),e0,if_neg (by simp [R6,rf1,rf0]),if_neg,if_neg]
 ·show ¬((k:Int)≥P.dem ps-fr.sent)
  omega
 ·rw [Zr (by omega)]
  ·simp
  ·intro j hj hjk
   have:=yaX.1 (Xy (ps:=ps) (fr:=fr) (w:=w) ps.length) j k hj hk hjk
   rw [e] at this
   unfold uV
   rcases this with h1|⟨h1,h2⟩
   ·rw [yaY]
    left
    rw [beq_eq_false_iff_ne]
    omega
   ·rw [yaY]
    right
    rw [beq_eq_false_iff_ne]
    omega
end
set_option maxRecDepth 20000
open Go.Fx.P (Arc aF)
def unb:LCode→LCode
 | .block _ c=>c
 | c=>c
def b4:LCode:=unb (pt 1 c4l0)
section
end
set_option maxRecDepth 20000
open Go.Fx.P (Arc aF)
def b6:LCode:=unb (pt 1 c6l1)
theorem c6l1_s:c6l1=.seq (pt 0 c6l1) (.seq (.block 3 (.seq (pt 0 b6) (.seq (pt 1 b6) (.seq (pt 2 b6) (.seq (pt 3 b6) (pt 4 b6)))))) (pt 2 c6l1)):=by rfl
structure E6 (w:Int) (k n len:Nat) (e:Env):Prop where
 g1:get e 1=.i w
 g2:get e 2=.ptr 0 0 0
 g6:get e 6=.ptr 1 0 0
 g8:get e 8=.sl 2 0 len
 g9:get e 9=.i k
 g10:get e 10=.ptr 3 0 0
 g11:get e 11=.i n
abbrev H6 (ps:List aF) (rs:List P.Road) (fr:P.Fr) (l:List Rf) (x:aF):List Blk :=
 [.var [P.sps ps,P.rds rs],.var [.i fr.sent,.i fr.cost,P.li fr.flow,P.li fr.price,P.li fr.cut],.arr 24 (l.map Rf.enc),.var [.i x.kind,.i x.num,.i x.cap]]
abbrev R6':St→Prop:=eZ [] 0 [.tmp 4] (Is (.b true))
section
variable {N:St→Prop} {X:Nat→St→Prop} {e:Env} {b k n:Nat} {w:Int} {ps:List aF} {rs:List P.Road} {fr:P.Fr} {l:List Rf} {x:aF} {r:Rf} {E:Int}
theorem adK (hE:E6 w k n l.length e) (hx:-1000000≤x.num∧x.num≤1000000) (hr:r.sg.length=16)
  (o10:Ok 10 [.agg (keyK x.num).enc,P.bD ps rs,fr.enc,.i k,.i n,.i w,.agg [.i 1,.i 2]] (Is (.tup [.agg r.enc,.i E])))
  (hN:∀ e,E6 w k n l.length e→get e 12=.ptr 4 0 0→get e 13=.i E→N ⟨e,H6 ps rs fr l x++[.var r.enc],4⟩):aw cT (pt 0 b6) N X R6' ⟨e,H6 ps rs fr l x,b⟩:=by
 obtain ⟨h1,h2,h6,h8,h9,h10,h11⟩:=hE
 have hl:=lJ hr
 conv=>arg 2;whnf
 simp -implicitDefEqProofs only [rX,↓rY,rdK,aA,cells?,splice,↓reduceIte,Nat.reduceEqDiff,Nat.reduceAdd,aC,bU,Nat.reduceLeDiff,aJ,h1,h2,h6,h9,h10,h11]
 refine ⟨?_,?_⟩
 ·refine aE (Bn x.num hx) ⟨⟨trivial,trivial⟩,rfl,trivial⟩ rfl (by simp [aD,aB]) ?_
  simp -implicitDefEqProofs only [rX,↓rY,aA,cells?,↓reduceIte,Nat.reduceEqDiff,aC,aJ]
  refine ⟨?_,?_⟩ <;>
  ·refine aE o10 oJ oC (by simp [aD,aB]) ?_
   simp -implicitDefEqProofs only [rX,↓rY,aA,cells?,splice,↓reduceIte,Nat.reduceEqDiff,Nat.reduceAdd,aC,aJ,hl,Bl,vR]
   refine hN _ ⟨h1,h2,h6,h8,h9,h10,h11⟩ ?_ ?_<;>rfl
 ·refine aE (Bn x.num hx) ⟨⟨trivial,trivial⟩,rfl,trivial⟩ rfl (by simp [aD,aB]) ?_
  simp -implicitDefEqProofs only [rX,↓reduceIte,Nat.reduceEqDiff,aJ]
  refine aE o10 oJ oC (by simp [aD,aB]) ?_
  simp -implicitDefEqProofs only [rX,↓rY,cells?,splice,↓reduceIte,Nat.reduceEqDiff,Nat.reduceAdd,aJ,hl,Bl,vR]
  refine hN _ ⟨h1,h2,h6,h8,h9,h10,h11⟩ ?_ ?_<;>rfl
theorem adJ (hE:E6 w k n l.length e) (h12:get e 12=.ptr 4 0 0) (h13:get e 13=.i E) (hk:k<ps.length) (hfl:ps.length≤fr.flow.length)
  (hN:∀ e b,E6 w k n l.length e→get e 12=.ptr 4 0 0→get e 13=.i E→get e 14=.b (decide ((n:Int)<fr.fl k))→N ⟨e,H6 ps rs fr l x++[.var r.enc],b⟩):aw cT (pt 1 b6) N X R6' ⟨e,H6 ps rs fr l x++[.var r.enc],b⟩:=by
 obtain ⟨h1,h2,h6,h8,h9,h10,h11⟩:=hE
 conv=>arg 2;whnf
 simp -implicitDefEqProofs only [rX,↓rY,↓reduceIte,Nat.reduceEqDiff,Nat.reduceAdd,h2,h6,h9,h11]
 refine aE (P.aeG ps rs fr k hk hfl) ⟨⟨aW.1,g0.1,trivial,trivial⟩,aW.2,g0.2,rfl,trivial⟩ rfl trivial ?_
 simp -implicitDefEqProofs only [rX,↓rY,↓reduceIte,Nat.reduceEqDiff]
 refine hN _ _ ⟨h1,h2,h6,h8,h9,h10,h11⟩ ?_ ?_ ?_
 ·exact h12
 ·exact h13
 ·rfl
theorem adI {h:List Blk} (hE:E6 w k n l.length e) (h12:get e 12=.ptr 4 0 0) (h13:get e 13=.i E) (t:Bool) (h14:get e 14=.b t) (ht:E=if t then 4 else 0)
  (hN:∀ e b,E6 w k n l.length e→get e 12=.ptr 4 0 0→get e 14=.b t→N ⟨e,h,b⟩):aw cT (pt 2 b6) N X R6' ⟨e,h,b⟩:=by
 obtain ⟨h1,h2,h6,h8,h9,h10,h11⟩:=hE
 conv=>arg 2;whnf
 cases t with
 | false =>
  have hE0:E=0:=ht
  subst hE0
  have e04:((0:Int)==4)=false:=rfl
  simp -implicitDefEqProofs only [rX,↓rY,zH,aA,↓reduceIte,Nat.reduceEqDiff,aQ,aU,wfV,h13,h14,bne_self_eq_false,e04]
  refine hN _ _ ⟨h1,h2,h6,h8,h9,h10,h11⟩ ?_ ?_
  ·exact h12
  ·exact h14
 | true =>
  have hE0:E=4:=ht
  subst hE0
  simp -implicitDefEqProofs only [rX,↓rY,zH,aA,↓reduceIte,Nat.reduceEqDiff,aQ,aU,wfV,h13,h14,bne_self_eq_false,beq_self_eq_true]
  refine hN _ _ ⟨h1,h2,h6,h8,h9,h10,h11⟩ ?_ ?_
  ·exact h12
  ·exact h14
theorem adH {h:List Blk} (hE:E6 w k n l.length e) (h12:get e 12=.ptr 4 0 0) {t:Bool} (h14:get e 14=.b t)
  (hN:∀ e b,E6 w k n l.length e→get e 12=.ptr 4 0 0→get e 97=.b (!t)→N ⟨e,h,b⟩):aw cT (pt 3 b6) N X R6' ⟨e,h,b⟩:=by
 obtain ⟨h1,h2,h6,h8,h9,h10,h11⟩:=hE
 conv=>arg 2;whnf
 simp -implicitDefEqProofs only [rX,↓reduceIte,h14]
 refine hN _ _ ⟨h1,h2,h6,h8,h9,h10,h11⟩ ?_ ?_
 ·exact h12
 ·rfl
theorem adF {h:List Blk} (hE:E6 w k n l.length e) (h97:get e 97=.b false) (hN:∀ e b,E6 w k n l.length e→N ⟨e,h,b⟩):aw cT (pt 4 b6) N X R6' ⟨e,h,b⟩:=by
 obtain ⟨h1,h2,h6,h8,h9,h10,h11⟩:=hE
 conv=>arg 2;whnf
 simp -implicitDefEqProofs only [rX,↓rY,h97]
 exact hN _ _ ⟨h1,h2,h6,h8,h9,h10,h11⟩
theorem adG (hE:E6 w k n l.length e) (h12:get e 12=.ptr 4 0 0) (h97:get e 97=.b true) (hx:-1000000≤x.num∧x.num≤1000000) (hr:r.sg.length=16) (hll:l.length≤1000)
  (o14:Ok 14 [P.bD ps rs,.agg r.enc] (Is (.i 0))) (o16:Ok 16 [bK [keyK x.num],P.bD ps rs,.agg r.enc] (Is (.i 0)))
  (hN:∀ e b h,E6 w k n (l.length+1) e→N ⟨e,H6 ps rs fr (l++[r]) x++h,b⟩):aw cT (pt 4 b6) N X R6' ⟨e,H6 ps rs fr l x++[.var r.enc],b⟩:=by
 obtain ⟨h1,h2,h6,h8,h9,h10,h11⟩:=hE
 have hl:=lJ hr
 have htk:=Lr hr
 conv=>arg 2;whnf
 simp -implicitDefEqProofs only [rX,↓rY,rdK,↓reduceIte,Nat.reduceEqDiff,Nat.reduceAdd,aJ,h97,h2,h12,hl,htk]
 refine aE o14 ⟨⟨aW.1,(eY rfl).1,trivial⟩,aW.2,(eY rfl).2,trivial⟩ rfl (by simp [aD,aB]) ?_
 simp -implicitDefEqProofs only [rX,↓rY,rdK,aA,↓reduceIte,Nat.reduceEqDiff,Nat.reduceAdd,aQ,aU,wfV,aJ,h2,h10,h12,hl,htk,bne_self_eq_false]
 refine aE (Bn x.num hx) ⟨⟨trivial,trivial⟩,rfl,trivial⟩ rfl (by simp [aD,aB]) ?_
 unfold Ky.enc
 simp -implicitDefEqProofs only [rX,↓rY,cells?,↓reduceIte,Nat.reduceEqDiff,Nat.reduceAdd,aC,cG,isD,Nat.reduceLT,aJ]
 refine aE o16 ⟨⟨?_,aW.1,(eY rfl).1,trivial⟩,?_,aW.2,(eY rfl).2,trivial⟩ rfl (by simp [aD,aB]) ?_
 ·simp [aK,blk]
 ·simp [bQ,wk,blk,wkB,aX,bK,Ky.enc]
 have hLl:(yad Rf.enc l).length=l.length:=by simp
 simp -implicitDefEqProofs only [rX,↓rY,aA,cells?,↓reduceIte,Nat.reduceEqDiff,Nat.reduceAdd,reduceCtorEq,aC,cG,aQ,aU,wfV,bN,bE,kill,bO,St.kill,Nat.reduceLT,aZ,aJ,h8,h12,hl,htk,bne_self_eq_false,oE,Ag,Ah,Eu,Vt,yE,hLl]
 refine ⟨by omega,?_⟩
 have e1:yag l.length (yad Rf.enc l)++[r.enc]=(l++[r]).map Rf.enc:=by
  rw [yak (by simp),yam];rfl
 rw [e1]
 refine hN _ _ [.var r.enc,.arr 5 [[.i (keyK x.num).party,.i (keyK x.num).serial,sv (keyK x.num).sec,.i (keyK x.num).fr,.i (keyK x.num).to]],.arr 24 [r.enc],.dead] ⟨?_,?_,?_,?_,?_,?_,?_⟩
 ·show get (bN [2] e) 1=_
  rw [cZ,h1];rfl
 ·show get (bN [2] e) 2=_
  rw [cZ,h2];rfl
 ·show get (bN [2] e) 6=_
  rw [cZ,h6];rfl
 ·rfl
 ·show get (bN [2] e) 9=_
  rw [cZ,h9];rfl
 ·show get (bN [2] e) 10=_
  rw [cZ,h10];rfl
 ·show get (bN [2] e) 11=_
  rw [cZ,h11];rfl
end
set_option maxRecDepth 20000
open Go.Fx.P (Arc aF)
structure I6 (ps:List aF) (k n:Nat):Prop where
 y:P.isK ps 1 k=true→n≤(P.dH ps k).toNat
 n:P.isK ps 1 k=false→n=0
section
variable {N:St→Prop} {X:Nat→St→Prop} {e:Env} {b k:Nat} {w:Int} {ps:List aF} {rs:List P.Road} {fr:P.Fr}
theorem Lj {a:Nat}:∀ d:Nat,(uA ps fr w a).length≤(uA ps fr w (a+d)).length
 | 0=>yah _
 | d+1=>by
  have:=Lj (a:=a) d
  have e:uA ps fr w (a+(d+1))=uA ps fr w (a+d)++(if P.isK ps 1 (a+d) then uS ps fr w (a+d) (P.dH ps (a+d)).toNat else []):=rfl
  rw [e,yaa]
  omega
theorem Li {i a:Nat}:∀ d:Nat,(uS ps fr w i a).length≤(uS ps fr w i (a+d)).length
 | 0=>yah _
 | d+1=>by
  have:=Li (i:=i) (a:=a) d
  have e:uS ps fr w i (a+(d+1))=uS ps fr w i (a+d)++(if fr.fl i≤((a+d:Nat):Int) then [R6 ps fr w i (a+d)] else []):=rfl
  rw [e,yaa]
  omega
theorem Pu (h:P.cF ps rs fr) {m:Nat} (hd:P.dem ps≤60) (hk:k<ps.length) (hK:P.isK ps 1 k=true) (hm:m≤(P.dH ps k).toNat):(uA ps fr w k++uS ps fr w k m).length≤60:=by
 have h1:=Ip (w:=w) h
 have h2:=Lj (ps:=ps) (fr:=fr) (w:=w) (a:=k+1) (ps.length-(k+1))
 rw [show k+1+(ps.length-(k+1))=ps.length by omega] at h2
 have h3:=Li (ps:=ps) (fr:=fr) (w:=w) (i:=k) (a:=m) ((P.dH ps k).toNat-m)
 rw [show m+((P.dH ps k).toNat-m)=(P.dH ps k).toNat by omega] at h3
 have e:uA ps fr w (k+1)=uA ps fr w k++uS ps fr w k (P.dH ps k).toNat:=by
  show uA ps fr w k++_=_
  rw [hK,if_pos rfl]
 rw [e,yaa] at h2
 rw [yaa]
 have:=h.acc.hs.1
 omega
theorem Vb:uA ps fr w (k+1)=uA ps fr w k++(if P.isK ps 1 k then uS ps fr w k (P.dH ps k).toNat else []):=rfl
theorem Lh {m:Nat}:uS ps fr w k (m+1)=uS ps fr w k m++(if fr.fl k≤(m:Int) then [R6 ps fr w k m] else []):=rfl
theorem Wz {n:Int} {cut:List Int} (h:s6 n cut):(cut.length:Int)≤n+1:=by
 have key:∀ i (hi:i<cut.length),(i:Int)≤cut[i]:=by
  intro i
  induction i with
  | zero=>intro hi;exact (h.1 _ (yan hi)).1
  | succ i ih =>
   intro hi
   have h1:=ih (by omega)
   have h2:=yaX.1 h.2.1 i (i+1) (by omega) hi (by omega)
   omega
 by_cases h0:cut.length=0
 ·have:=h.2.2
  cases cut with
  | nil=>simp at this
  | cons x r=>simp at h0
 ·have h1:=key (cut.length-1) (by omega)
  have h2:=(h.1 _ (yan (l:=cut) (n:=cut.length-1) (by omega))).2.1
  omega
theorem Qu (hF:eU ps rs) (hP:P.cF ps rs fr) (hw:pE w=true) (hk:k<ps.length) {n:Nat} (hn:(n:Int)<P.dH ps k) {y:Ky} (hy:y.serial=1:=by rfl):(rf0 y fr k n w 1 2).Ok:=by
 have hcb:=(P.nD (P.eG hP.chk).2.1 k).2
 have hpl:=hF.pl
 have hs:=hP.acc.hs
 have hd:=Tk hF
 have hw':0≤w∧w≤1099511627776:=of_decide_eq_true hw
 have hcut:In64 fr.cut∧fr.cut.length≤1000000:=by
  have hc:=hP.acc.hc
  by_cases e:fr.sent=P.dem ps
  ·rw [if_pos e] at hc
   rw [hc]
   exact ⟨fun x hx=>(by cases hx),by simp⟩
  ·rw [if_neg e] at hc
   have hC:=xE ⟨hc.hs,hc.hf,hc.ht⟩
   have hN:((P.nN ps:Nat):Int)=2+2*ps.length:=by unfold P.nN;omega
   refine ⟨fun x hx=>?_,?_⟩
   ·have:=hC.1 x hx
    omega
   ·have:=Wz hC
    omega
 refine ⟨fun x hx=>?_,hcut.1,hcut.2⟩
 simp only [rf0,hy,yac,yaw,or_false] at hx
 omega
set_option maxHeartbeats 1000000 in
theorem in6 (hF:eU ps rs) (hP:P.cF ps rs fr) (hw:pE w=true) (hk:k<ps.length) (hd:P.dem ps≤60)
  (hN:∀ e b h n,E6 w k n (uA ps fr w (k+1)).length e→N ⟨e,H6 ps rs fr (uA ps fr w (k+1)) ps[k]++h,b⟩)
  (hE:E6 w k 0 (uA ps fr w k).length e):aw cT (.block 2 (.loop c6l1)) N X R6' ⟨e,H6 ps rs fr (uA ps fr w k) ps[k],b⟩:=by
 obtain ⟨h1,h2,h6,h8,h9,h10,h11⟩:=hE
 have hfl:ps.length≤fr.flow.length:=by
  have:=hP.len
  omega
 have hcap:P.dH ps k=ps[k].cap:=P.dL hk
 have hc0:=agB hP k
 have hKe:P.isK ps 1 k=(ps[k].kind==1):=P.p6 hk
 rw [ze,zf]
 refine dB (fun n:Nat=>(⟨[(11,.i n),(10,.ptr 3 0 0),(9,.i k),(8,.sl 2 0 (uA ps fr w k++uS ps fr w k n).length),(6,.ptr 1 0 0),(2,.ptr 0 0 0),(1,.i w)],H6 ps rs fr (uA ps fr w k++uS ps fr w k n) ps[k],0⟩:St)) (I6 ps k) (fun n=>(P.dH ps k).toNat-n) 0 ⟨fun _=>yav _,fun _=>rfl⟩ ?_ ?_
 ·rw [show uS ps fr w k 0=[] from rfl,yas]
  simp -implicitDefEqProofs only [rX,leE,leH,leB,leV,bA,aD,aB,wfE,wfB,wfV,wfL,aJ,h1,h2,h6,h8,h9,h10,h11,P.sps,P.rds,P.li]
 intro n hI N' hN'
 rw [c6l1_s,zc]
 conv=>arg 2;whnf
 simp -implicitDefEqProofs only [rX,↓rY,aA,↓reduceIte,Nat.reduceEqDiff,Nat.reduceAdd]
 have exit:∀ e b,E6 w k n (uA ps fr w k++uS ps fr w k n).length e→¬((n:Int)<ps[k].cap∧ps[k].kind=1)→N ⟨e,H6 ps rs fr (uA ps fr w k++uS ps fr w k n) ps[k],b⟩:=by
  intro e b hE hno
  have he:uA ps fr w k++uS ps fr w k n=uA ps fr w (k+1):=by
   rw [Vb]
   congr 1
   cases hK:P.isK ps 1 k with
   | false=>rw [hI.n hK];rfl
   | true =>
    rw [if_pos rfl]
    have h1:=hI.y hK
    rw [hKe] at hK
    have h2:¬(n:Int)<ps[k].cap:=fun h=>hno ⟨h,by simpa using hK⟩
    rw [show n=(P.dH ps k).toNat by omega]
  rw [he] at hE ⊢
  have:=hN e b [] n hE
  rwa [yas] at this
 have step:(n:Int)<ps[k].cap→ps[k].kind=1→∀ e b,E6 w k n (uA ps fr w k++uS ps fr w k n).length e →
   aw cT ((LCode.block 3 ((pt 0 b6).seq ((pt 1 b6).seq ((pt 2 b6).seq ((pt 3 b6).seq (pt 4 b6)))))).seq (pt 2 c6l1)) N' (fun j s'=>if j=2 then N s' else X j s') R6' ⟨e,H6 ps rs fr (uA ps fr w k++uS ps fr w k n) ps[k],b⟩:=by
  intro hlt hki e b hE
  have hK:P.isK ps 1 k=true:=by rw [hKe];simpa using hki
  have hn:(n:Int)<P.dH ps k:=by rw [hcap];exact hlt
  obtain ⟨hnum,hn0,hn1⟩:=aaT hF hk hK
  have hx:-1000000≤ps[k].num∧ps[k].num≤1000000:=by omega
  have hmk:=mk6 (w:=w) hF hP hk hK hn hw
  have hrok:(rf0 (keyK (fT ps k)) fr k n w 1 2).Ok:=Qu hF hP hw hk hn
  have o10:=Vz (keyK (fT ps k)) ps rs fr k n w 1 2 hF hrok (by simp [keyK])
  have fin:∀ e b h,E6 w k n (uA ps fr w k++uS ps fr w k (n+1)).length e→aw cT (pt 2 c6l1) N' (fun j s'=>if j=2 then N s' else X j s') R6' ⟨e,H6 ps rs fr (uA ps fr w k++uS ps fr w k (n+1)) ps[k]++h,b⟩:=by
   intro e b h hE
   obtain ⟨h1,h2,h6,h8,h9,h10,h11⟩:=hE
   conv=>arg 2;whnf
   simp -implicitDefEqProofs only [rX,↓rY,aA,↓reduceIte,h11]
   have hcb:=(P.nD (P.eG hP.chk).2.1 k).2
   refine ⟨⟨by simp only [lo];omega,by simp only [Fx.hi];omega⟩,hN' _ (n+1) ⟨fun _=>by omega,fun h=>by rw [hK] at h;cases h⟩ (by omega) ?_⟩
   simp -implicitDefEqProofs only [rX,↓reduceIte,Nat.reduceEqDiff,leE,leH,leB,leV,bA,aD,aB,wfE,wfB,wfV,wfL,aJ,h1,h2,h6,h8,h9,h10,P.sps,P.rds,P.li]
   omega
  rw [zc,ze,zc]
  by_cases hle:fr.fl k≤(n:Int)
  ·have hlen:=Pu (w:=w) hP hd hk hK (m:=n) (by omega)
   have o14:=aaP ps rs (R6 ps fr w k n) hF (by show fr.cut.length≤1000000;exact hrok.len)
   rw [agA hF hP hk hK hn hle hw] at o14
   have o16:=aeJ [keyK (fT ps k)] ps rs (R6 ps fr w k n) hF ⟨hrok.n7,hrok.cut,hrok.len⟩ ⟨fun y hy=>by rw [yaG.1 hy];exact (agO hF hk hK hn hw).elim fun _ q=>q.2.1,yaN _ _⟩ (by simp) cW
   rw [acX hF hk hK] at o16
   rw [(hmk.1 hle).1,(hmk.1 hle).2] at o10
   rw [hnum] at o10 o16
   refine adK hE hx cW o10 fun e hE h12 h13=>?_
   rw [zc]
   refine adJ hE h12 h13 hk hfl fun e b hE h12 h13 h14=>?_
   rw [decide_eq_false (by omega)] at h14
   rw [zc]
   refine adI hE h12 h13 false h14 rfl fun e b hE h12 h14=>?_
   rw [zc]
   refine adH hE h12 h14 fun e b hE h12 h97=>?_
   refine adG hE h12 h97 hx cW (by omega) o14 o16 fun e b h hE=>?_
   have el:(uA ps fr w k++uS ps fr w k n)++[R6 ps fr w k n]=uA ps fr w k++uS ps fr w k (n+1):=by
    rw [Lh,if_pos hle,List.append_assoc]
   have e2:(uA ps fr w k++uS ps fr w k n).length+1=(uA ps fr w k++uS ps fr w k (n+1)).length:=by rw [←el,yaa,yaa,yaa];rfl
   rw [el]
   rw [e2] at hE
   exact fin _ _ _ hE
  ·rw [(hmk.2 hle).1,(hmk.2 hle).2,hnum] at o10
   refine adK hE hx (by simp [zRf,z16]) o10 fun e hE h12 h13=>?_
   rw [zc]
   refine adJ hE h12 h13 hk hfl fun e b hE h12 h13 h14=>?_
   rw [decide_eq_true (by omega)] at h14
   rw [zc]
   refine adI hE h12 h13 true h14 rfl fun e b hE h12 h14=>?_
   rw [zc]
   refine adH hE h12 h14 fun e b hE h12 h97=>?_
   refine adF hE h97 fun e b hE=>?_
   have el:uS ps fr w k (n+1)=uS ps fr w k n:=by rw [Lh,if_neg hle,yas]
   rw [←el] at hE ⊢
   exact fin _ _ _ hE
 cases d1:decide ((n:Int)<ps[k].cap) with
 | false =>
  have d1':=of_decide_eq_false d1
  simp only [wd]
  exact exit _ _ ⟨rfl,rfl,rfl,by rw [yaa];rfl,rfl,rfl,rfl⟩ fun h=>d1' h.1
 | true =>
  have d1':=of_decide_eq_true d1
  simp only [wc]
  cases d2:(ps[k].kind==1) with
  | false =>
   have d2':ps[k].kind≠1:=by simpa using d2
   simp only [wd]
   exact exit _ _ ⟨rfl,rfl,rfl,by rw [yaa];rfl,rfl,rfl,rfl⟩ fun h=>d2' h.2
  | true =>
   have d2':ps[k].kind=1:=by simpa using d2
   simp only [wc]
   have st:=step d1' d2'
   simp only [zc,ze] at st
   refine st _ _ ?_
   exact ⟨rfl,rfl,rfl,by rw [yaa];rfl,rfl,rfl,rfl⟩
end
set_option maxRecDepth 20000
open Go.Fx.P (Arc aF)
set_option maxHeartbeats 1000000 in
theorem ok6 (ps:List aF) (rs:List P.Road) (w:Int):Ok 6 [P.bD ps rs,.i w] (Is (.b true)):=by
 refine ok_of lw6 (by simp) ?_
 unfold c6 P.bD
 simp -implicitDefEqProofs only [rX,↓rY,aA,cells?,↓reduceIte,Nat.reduceEqDiff,Nat.reduceAdd,aC,aL]
 refine aE (ok8 ps rs) ⟨⟨aW.1,trivial⟩,aW.2,trivial⟩ rfl trivial ?_
 cases hf:Sq ps rs with
 | false =>
  simp -implicitDefEqProofs only [rX,↓rY,aA,↓reduceIte,Nat.reduceEqDiff]
  refine aE ok9 ⟨trivial,trivial⟩ rfl trivial ?_
  simp -implicitDefEqProofs only [rX,↓reduceIte,aQ,aU,wfV]
 | true =>
 have hF:=afV hf
 simp -implicitDefEqProofs only [rX,↓rY,aA,↓reduceIte,Nat.reduceEqDiff,Nat.reduceAdd,reduceCtorEq]
 cases d1:decide (w<0) with
 | true =>
  simp -implicitDefEqProofs only [↓rY]
  refine aE ok9 ⟨trivial,trivial⟩ rfl trivial ?_
  simp -implicitDefEqProofs only [rX,↓reduceIte,aQ,aU,wfV]
 | false =>
 have d1':=of_decide_eq_false d1
 simp -implicitDefEqProofs only [↓rY]
 cases d2:decide (1099511627776<w) with
 | true =>
  simp -implicitDefEqProofs only [↓rY]
  refine aE ok9 ⟨trivial,trivial⟩ rfl trivial ?_
  simp -implicitDefEqProofs only [rX,↓reduceIte,aQ,aU,wfV]
 | false =>
 have d2':=of_decide_eq_false d2
 have hw:pE w=true:=decide_eq_true ⟨by omega,by omega⟩
 simp -implicitDefEqProofs only [↓rY]
 refine aE hF.e28 ⟨⟨aW.1,trivial⟩,aW.2,trivial⟩ rfl trivial ?_
 cases d3:decide (60<P.dem ps) with
 | true =>
  simp -implicitDefEqProofs only [rX,↓rY,aA,↓reduceIte,Nat.reduceEqDiff,Nat.reduceAdd,d3]
  refine aE ok9 ⟨trivial,trivial⟩ rfl trivial ?_
  simp -implicitDefEqProofs only [rX,↓reduceIte,aQ,aU,wfV]
 | false =>
 have d3':=of_decide_eq_false d3
 simp -implicitDefEqProofs only [rX,↓rY,aA,↓reduceIte,Nat.reduceEqDiff,Nat.reduceAdd,d3]
 refine eQ (fun fr=>P.cF ps rs fr∧P.K.Tight (P.bJ ps rs) 0 (P.dem ps) fr) [] [] [] [P.bD ps rs] (fun fr=>.tup [fr.enc,.i 0]) [] (fun _=>[]) (P.aeH ps rs ⟨hF.ok,by have:=hF.pl;omega,by have:=hF.rl;omega⟩) ⟨by simp,by simp⟩ ⟨rfl,by simp⟩ rfl ⟨⟨aW.1,trivial⟩,aW.2,trivial⟩ fun fr hfr=>⟨trivial,?_⟩
 have hP:=hfr.1
 simp -implicitDefEqProofs only [rX,↓rY,aA,cells?,splice,↓reduceIte,Nat.reduceEqDiff,Nat.reduceAdd,aC,aQ,aU,wfV,bN,bE,kill,bO,St.kill,isC,aZ,aJ,P.Fr.enc,P.li,bH,ren,cK,oK,bne_self_eq_false]
 refine Gy (.virt 1 24 (by decide) (.nilE 8 2 rfl (.refl _))) (fun k:Nat=>(⟨[(9,.i k),(8,.sl 2 0 (uA ps fr w k).length),(6,.ptr 1 0 0),(2,.ptr 0 0 0),(1,.i w)],[.var [P.sps ps,P.rds rs],.var [.i fr.sent,.i fr.cost,P.li fr.flow,P.li fr.price,P.li fr.cut],.arr 24 ((uA ps fr w k).map Rf.enc)],0⟩:St)) (fun k=>k≤ps.length) (fun k=>ps.length-k) 0 (yav _) ?_ ?_
 ·simp -implicitDefEqProofs only [rX,↓reduceIte,Nat.reduceEqDiff,reduceCtorEq,leE,leH,leB,leV,bA,aD,aB,wfE,wfB,wfV,wfL,P.sps,P.rds,P.li,yaT,uA]
  rfl
 intro k hk N hN
 simp only [c6l0]
 unfold P.sps
 simp -implicitDefEqProofs only [rX,↓rY,aA,cells?,splice,↓reduceIte,Nat.reduceEqDiff,Nat.reduceAdd,aC,yal,yap,aZ,aJ]
 intro _
 cases d4:decide ((k:Int)<(ps.length:Int)) with
 | true =>
  have d4':=of_decide_eq_true d4
  have hkl:k<ps.length:=by omega
  simp -implicitDefEqProofs only [rX,↓rY,Nat.reduceAdd,isC,P.aF.enc]
  refine ⟨⟨by omega,by omega⟩,hkl,?_⟩
  refine in6 (fr:=fr) hF hP hw hkl (by omega) ?_ ?_
  ·intro e b h n hE
   obtain ⟨h1,h2,h6,h8,h9,h10,h11⟩:=hE
   simp -implicitDefEqProofs only [rX,↓rY,aA,↓reduceIte,h9]
   have:=hF.pl
   refine ⟨⟨by simp only [lo];omega,by simp only [Fx.hi];omega⟩,hN _ (k+1) (by omega) (by omega) ?_⟩
   simp -implicitDefEqProofs only [rX,↓reduceIte,Nat.reduceEqDiff,leE,leH,leB,leV,bA,aD,aB,wfE,wfB,wfV,wfL,h1,h2,h6,h8,P.sps,P.rds,P.li]
   omega
  ·exact ⟨rfl,rfl,rfl,rfl,rfl,rfl,rfl⟩
 | false =>
  have d4':=of_decide_eq_false d4
  have hke:k=ps.length:=by omega
  subst hke
  have hua:=Ip (w:=w) hP
  have hs0:=hP.acc.hs
  simp -implicitDefEqProofs only [↓rY]
  have hsg:∀ r∈uA ps fr w ps.length,r.sg.length=16∧r.cut.length≤1000000:=fun r hr=>by
   obtain ⟨i,n,hi,hK,hn,_,rfl⟩:=Du hr
   exact ⟨cW,(Qu hF hP hw hi hn (y:=keyK (fT ps i))).len⟩
  have o:=aeI ps rs (uA ps fr w ps.length) hF (by omega) (fun r hr=>(hsg r hr).1) (fun r hr=>(hsg r hr).2)
  rw [alV hF hP hw] at o
  refine aE o ⟨⟨aW.1,?_,trivial⟩,aW.2,?_,trivial⟩ rfl trivial ?_
  ·simp [aK,blk]
  ·simp [bQ,wk,blk,wkB,aX]
   exact yak (by simp)
  simp -implicitDefEqProofs only [rX,↓rY,↓reduceIte,Nat.reduceEqDiff,Nat.reduceAdd,aJ]
  refine aE ok9 ⟨trivial,trivial⟩ rfl (by simp [aD,aB]) ?_
  simp -implicitDefEqProofs only [rX,↓rY,rdK,aA,↓reduceIte,Nat.reduceEqDiff,Nat.reduceAdd,aQ,aU,wfV,aJ,beq_self_eq_true]
  intro _
  have hd:=Tk hF
  refine aE hF.e28 ⟨⟨aW.1,trivial⟩,aW.2,trivial⟩ rfl (by simp [aD,aB]) ?_
  have he:(((uA ps fr w ps.length).length:Int)==P.dem ps-fr.sent)=true:=by rw [beq_iff_eq];exact hua
  simp -implicitDefEqProofs only [rX,↓rY,↓reduceIte,Nat.reduceEqDiff,aQ,aU,wfV,he]
  exact ⟨by simp only [lo];omega,by simp only [Fx.hi];omega⟩
set_option maxRecDepth 20000
open Go.Fx.P (Arc aF)
theorem afU {f:FuncId} {xs:List V} (h:Ok f xs (Is (.b true))):Fn Tryz.prog f xs [] [] (fun r _=>r=.b true):=(Rk h fun r h' hr=>hr.1).2
abbrev tI:Fx.T:=.int .i64
abbrev tPl:Fx.T:=.st [.sl 3 (.st [tI,tI,tI]),.sl 4 (.st [tI,tI,tI,tI])]
theorem Zl {k:IntKind} {x:List V} (h:WfT (.int k) x):∃ n:Int,x=[.v (.int k n)]∧lo k≤n∧n≤hi k:=by
 simpa only [WfT] using h
theorem Kx {t:Fx.T} {ts:List Fx.T} {x:List V} (h:pF (t::ts) x):∃ a b,x=a++b∧WfT t a∧pF ts b:=by
 rwa [pF.eq_2] at h
theorem exM {α β:Type} {g:α→β} {p:α→Prop}:∀ {els:List β},(∀ x∈els,∃ a,x=g a∧p a)→∃ l:List α,els=l.map g∧∀ a∈l,p a
 | [],_=>⟨[],rfl,by simp⟩
 | x::r,h=>by
  obtain ⟨a,rfl,ha⟩:=h x yaI
  obtain ⟨l,rfl,hl⟩:=exM (els:=r) fun y hy=>h y (yat _ hy)
  exact ⟨a::l,rfl,fun b hb=>(yac.1 hb).elim (fun e=>e▸ha) (hl b)⟩
theorem afQ {n:Int} (h:lo .i64≤n∧n≤hi .i64):-9223372036854775808≤n∧n≤9223372036854775807:=h
theorem wf_sp {x:List V} (h:WfT (.st [tI,tI,tI]) x):∃ a:aF,x=a.enc:=by
 simp only [WfT,pF] at h
 obtain ⟨_,_,rfl,⟨a,rfl,_⟩,_,_,rfl,⟨b,rfl,_⟩,_,_,rfl,⟨c,rfl,_⟩,rfl⟩:=h
 exact ⟨⟨a,b,c⟩,rfl⟩
theorem wf_rd {x:List V} (h:WfT (.st [tI,tI,tI,tI]) x):∃ a:P.Road,x=a.enc:=by
 simp only [WfT,pF] at h
 obtain ⟨_,_,rfl,⟨a,rfl,_⟩,_,_,rfl,⟨b,rfl,_⟩,_,_,rfl,⟨c,rfl,_⟩,_,_,rfl,⟨d,rfl,_⟩,rfl⟩:=h
 exact ⟨⟨a,b,c,d⟩,rfl⟩
theorem wf_plant {x:V} (h:WfV tPl x):∃ ps rs,x=P.bD ps rs:=by
 obtain ⟨cs,h,rfl⟩:=h
 obtain ⟨_,_,rfl,q0,h⟩:=Kx h
 obtain ⟨_,_,rfl,q1,h⟩:=Kx h
 rw [pF.eq_1] at h
 subst h
 rw [WfT] at q0 q1
 obtain ⟨els,rfl,_,he⟩:=q0
 obtain ⟨els',rfl,_,he'⟩:=q1
 obtain ⟨ps,rfl,_⟩:=exM (g:=aF.enc) (p:=fun _=>True) fun x hx=>(wf_sp (he x hx)).imp fun a e=>⟨e,trivial⟩
 obtain ⟨rs,rfl,_⟩:=exM (g:=P.Road.enc) (p:=fun _=>True) fun x hx=>(wf_rd (he' x hx)).imp fun a e=>⟨e,trivial⟩
 exact ⟨ps,rs,rfl⟩
theorem Zi {x:V} (h:WfV tI x):∃ n:Int,x=.i n∧-9223372036854775808≤n∧n≤9223372036854775807:=by
 obtain ⟨n,h1,h2⟩:=Zl (show WfT tI [x] from h)
 exact ⟨n,by simpa using h1,afQ h2⟩
theorem fn6:∀ xs,WfA [tPl,tI] xs→Fn Tryz.prog 6 xs [] [] (fun r _=>r=.b true):=by
 intro xs h
 obtain ⟨x1,_,rfl,h1,x2,_,rfl,h2,h⟩:=h
 obtain rfl:_=[]:=h
 obtain ⟨ps,rs,rfl⟩:=wf_plant h1
 obtain ⟨w,rfl,_⟩:=Zi h2
 exact afU (ok6 ps rs w)
end Go.Fx.E
