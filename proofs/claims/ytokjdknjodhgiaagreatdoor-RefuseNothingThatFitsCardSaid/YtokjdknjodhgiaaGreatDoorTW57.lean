import Derived.Test.YtokjdknjodhgiaaGreatDoorT30
import Derived.Test.YtokjdknjodhgiaaGreatDoorFxRX
import Derived.Test.YtokjdknjodhgiaaGreatDoorPTC25
set_option linter.unusedVariables false
set_option linter.unusedSimpArgs false
set_option linter.unusedSectionVars false
open List renaming mem_cons → yaa, range → yab, getElem?_eq_getElem → yac, map → yad, take → yae, mem_filter → yaf, map_append → yag, take_of_length_le → yah, not_mem_nil → yai, getElem_map → yaj, mem_cons_of_mem → yal, map_cons → yam, filter_append → yap, getElem_cons_succ → yaq, getElem_cons_zero → yar, length_append → yas, take_append_getElem → yat, length_take → yau, mem_cons_self → yav, mem_map → yaw, length_map → yax, getElem?_map → yay, length_cons → yaz, getElem_mem → yaD, replicate → yaE, getD_cons_succ → yaF, getD_cons_zero → yaG, length_filterMap_le → yaH, mem_of_mem_head? → yaI, replicate_succ → yaJ, getD_eq_getElem?_getD → yaK
open Nat renaming le_refl → yak, zero_le → yaC
open Bool renaming and_eq_true → yan, false_eq_true → yaB
open Int renaming toNat_natCast → yao, toNat_of_nonneg → yaL
open Option.some renaming injEq → yaA
namespace Go.Fx.E
open Go Go.Fx Go.Proofs
set_option maxRecDepth 20000
open Go.Fx.P (Arc aG)
def kd (q:Nat):Int:=if q=0 then 1 else 3
abbrev h62 (ps:List aG) (rs:List P.Road):List Blk:=[.var [.ro 3 (ps.map aG.enc),P.rds rs],.arr 1 [[.i 1],[.i 3]]]
set_option maxHeartbeats 1000000 in
theorem ahJ (ps:List aG) (rs:List P.Road) (k:Nat) (hF:fQ ps rs) (o:Int × Int) (ho:(pM ps rs)[k]?=some o):Ok 62 [P.bG ps rs,.i k] (Is (.tup [.i o.1,.i o.2])):=by
 have hpl:=hF.pl
 have hrl:=hF.rl
 have hko:k<(pM ps rs).length:=by
  rcases Nat.lt_or_ge k (pM ps rs).length with c|c
  ·exact c
  ·rw [List.getElem?_eq_none c] at ho;cases ho
 have hlen:(pM ps rs).length=ps.length+(gone ps 2 0).length+rs.length:=by
  show (pM ps rs).length=ps.length+(P.ofN ps 1 ps.length++P.ofN ps 3 ps.length).length+rs.length
  unfold pM;simp;omega
 have hgl:(gone ps 2 0).length≤12:=by
  show (P.ofN ps 1 ps.length++P.ofN ps 3 ps.length).length≤12
  have h1:=P.eZ (ps:=ps) (kind:=1) (n:=ps.length)
  have h2:=P.eZ (ps:=ps) (kind:=3) (n:=ps.length)
  rw [yas];omega
 have hkb:k≤100:=by omega
 refine ok_of lw62 (by simp) ?_
 unfold c62 P.bG P.sps
 simp -implicitDefEqProofs only [rX,↓rY,aA,cells?,↓reduceIte,Nat.reduceEqDiff,Nat.reduceAdd,reduceCtorEq,aC,cI,aT,aV,wfV,wfL,isD,Nat.reduceLT,aQ,aK]
 intro _
 cases h0:decide ((k:Int)<(ps.length:Int)) with
 | true =>
  have h0':=of_decide_eq_true h0
  rw [Mr (by omega)] at ho
  cases ho
  simp -implicitDefEqProofs only [↓rY]
 | false =>
  have h0':=of_decide_eq_false h0
  simp -implicitDefEqProofs only [↓rY]
  refine fun _=>⟨⟨by simp only [lo];omega,by simp only [Fx.hi];omega⟩,fun _=>?_⟩
  refine dB (fun q:Nat=>(⟨[(23,.i q),(22,.i 2),(21,.sl 1 0 2),(2,.ptr 0 0 0),(1,.i ((k:Int)-ps.length-(gone ps q 0).length))],h62 ps rs,2⟩:St)) (fun q=>q≤2∧ps.length+(gone ps q 0).length≤k) (fun q=>2-q) 0 ⟨by omega,by simp [gone,P.ofN];omega⟩ ?_ ?_
  ·exact ⟨by simp -implicitDefEqProofs only [rX,↓reduceIte,Nat.reduceEqDiff,leE];exact ⟨rfl,rfl,by simp [gone,P.ofN]⟩,bT _,trivial,by simp -implicitDefEqProofs only [rX,aB,wfE,wfV,h62],by simp -implicitDefEqProofs only [rX,wfB,wfV,wfL,h62,P.rds]⟩
  rintro q ⟨hq,hqk⟩ N hN
  simp only [c62l0,h62]
  simp -implicitDefEqProofs only [rX,↓rY,aA,↓reduceIte,Nat.reduceEqDiff,cR,Nat.reduceAdd,aT,aV,wfV,wfL,yao,aQ]
  cases h1:decide ((q:Int)<2) with
  | false =>
   have h1':=of_decide_eq_false h1
   obtain rfl:q=2:=by omega
   obtain ⟨a,ha⟩:∃ a,k=ps.length+(gone ps 2 0).length+a:=⟨k-(ps.length+(gone ps 2 0).length),by omega⟩
   rw [ha,Pq (by omega)] at ho
   cases ho
   simp -implicitDefEqProofs only [↓rY]
   have:(k:Int)-ps.length-(gone ps 2 0).length=(a:Int):=by omega
   rw [this]
  | true =>
   have h1':=of_decide_eq_true h1
   have hq2:q<2:=by omega
   simp -implicitDefEqProofs only [↓rY]
   refine ⟨⟨by omega,by omega⟩,by simpa using hq2,?_⟩
   have hkd:∀ h:q<[[V.i 1],[V.i 3]].length,([[V.i 1],[V.i 3]][q]'h)[0]?=some (.i (kd q)):=by
    rcases (by omega:q=0∨q=1) with rfl|rfl<;>intro h<;>rfl
   rw [hkd]
   simp -implicitDefEqProofs only [↓rY]
   intro hml
   refine dB (fun j:Nat=>(⟨[(30,.i j),(29,.i ps.length),(28,.ro 3 (ps.map aG.enc)),(7,.i (kd q)),(23,.i q),(22,.i 2),(21,.sl 1 0 2),(2,.ptr 0 0 0),(1,.i ((k:Int)-ps.length-(gone ps q j).length))],h62 ps rs,2⟩:St)) (fun j=>j≤ps.length∧ps.length+(gone ps q j).length≤k) (fun j=>ps.length-j) 0 ⟨by omega,hqk⟩ ?_ ?_
   ·exact ⟨by simp -implicitDefEqProofs only [rX,↓reduceIte,Nat.reduceEqDiff,leE];rfl,bT _,trivial,by simp -implicitDefEqProofs only [rX,aB,wfE,wfV,h62],by simp -implicitDefEqProofs only [rX,wfB,wfV,wfL,h62,P.rds]⟩
   rintro j ⟨hj,hjk⟩ N1 hN1
   simp only [c62l1,h62]
   simp -implicitDefEqProofs only [rX,↓rY,aA,cells?,splice,↓reduceIte,Nat.reduceEqDiff,Nat.reduceAdd,aC,aT,aV,wfV,wfL,yaj,yao,aY]
   cases h2:decide ((j:Int)<(ps.length:Int)) with
   | false =>
    have h2':=of_decide_eq_false h2
    obtain rfl:j=ps.length:=by omega
    rw [Zg hq2] at hjk ⊢
    simp -implicitDefEqProofs only [↓rY]
    refine ⟨⟨by simp only [lo];omega,by simp only [Fx.hi];omega⟩,hN _ (q+1) ⟨by omega,hjk⟩ (by omega) ?_⟩
    exact ⟨by simp -implicitDefEqProofs only [rX,↓reduceIte,Nat.reduceEqDiff,leE];simp,bT _,trivial,by simp -implicitDefEqProofs only [rX,aB,wfE,wfV,h62],by simp -implicitDefEqProofs only [rX,wfB,wfV,wfL,h62,P.rds]⟩
   | true =>
    have h2':=of_decide_eq_true h2
    have hj':j<ps.length:=by omega
    have hs:gone ps q (j+1)=gone ps q j++(if ps[j].kind=kd q then [j] else []):=Zf hq2 hj'
    have b0:lo IntKind.i64≤(j:Int)+1∧(j:Int)+1≤Fx.hi IntKind.i64:=⟨by simp only [lo];omega,by simp only [Fx.hi];omega⟩
    simp -implicitDefEqProofs only [rX,↓rY,yac hj',P.mN,P.iL,P.u4,P.nS]
    refine ⟨⟨by omega,by omega⟩,hj',?_⟩
    cases h3:(ps[j].kind != kd q) with
    | true =>
     have h3':=bne_iff_ne.1 h3
     rw [if_neg h3',List.append_nil] at hs
     simp -implicitDefEqProofs only [↓rY]
     refine ⟨b0,hN1 _ (j+1) ⟨by omega,by rw [hs];exact hjk⟩ (by omega) ?_⟩
     rw [hs]
     exact ⟨by simp -implicitDefEqProofs only [rX,↓reduceIte,Nat.reduceEqDiff,leE];rfl,⟨bA _,bA _,trivial⟩,trivial,by simp -implicitDefEqProofs only [rX,aB,wfE,wfV,h62],by simp -implicitDefEqProofs only [rX,wfB,wfV,wfL,h62,P.rds]⟩
    | false =>
     have h3':ps[j].kind=kd q:=by simpa using h3
     rw [if_pos h3'] at hs
     simp -implicitDefEqProofs only [↓rY]
     cases h4:((k:Int)-ps.length-(gone ps q j).length==0) with
     | true =>
      have h4':=eq_of_beq h4
      obtain ⟨r,hr⟩:=Ur (ps:=ps) hq2 (show j+1≤ps.length by omega)
      have hg:(gone ps 2 0)[(gone ps q j).length]?=some j:=by
       rw [hr,hs,List.append_assoc,List.getElem?_append_right (yak _),Nat.sub_self];rfl
      have:=Pr (rs:=rs) hg
      rw [show ps.length+(gone ps q j).length=k by omega,ho] at this
      cases this
      simp -implicitDefEqProofs only [↓rY]
     | false =>
      have h4':=ne_of_beq_false h4
      simp -implicitDefEqProofs only [↓rY]
      have hl:(gone ps q (j+1)).length=(gone ps q j).length+1:=by rw [hs];simp
      refine ⟨⟨by simp only [lo];omega,by simp only [Fx.hi];omega⟩,b0,hN1 _ (j+1) ⟨by omega,by omega⟩ (by omega) ?_⟩
      exact ⟨by simp -implicitDefEqProofs only [rX,↓reduceIte,Nat.reduceEqDiff,leE];exact ⟨by simp,by omega⟩,⟨bA _,bA _,trivial⟩,trivial,by simp -implicitDefEqProofs only [rX,aB,wfE,wfV,h62],by simp -implicitDefEqProofs only [rX,wfB,wfV,wfL,h62,P.rds]⟩
set_option maxRecDepth 20000
open Go.Fx.P (Arc aG)
theorem pF {α:Type} {r:α→α→Prop} (hi:∀ a,¬r a a) (ht:∀ a b c,r a b→r b c→r a c):∀ {l m:List α},l.Pairwise r→m.Pairwise r→(∀ x,x∈l↔x∈m)→l=m
 | [],[],_,_,_=>rfl
 | [],b::m,_,_,h=>by have:=(h b).2 (by simp);cases this
 | a::l,[],_,_,h=>by have:=(h a).1 (by simp);cases this
 | a::l,b::m,h1,h2,h=>by
  obtain ⟨h3,h4⟩:=List.pairwise_cons.1 h1
  obtain ⟨h5,h6⟩:=List.pairwise_cons.1 h2
  have hab:a=b:=by
   rcases yaa.1 ((h a).1 (by simp)) with e|e
   ·exact e
   ·rcases yaa.1 ((h b).2 (by simp)) with f|f
    ·exact f.symm
    ·exact absurd (ht _ _ _ (h3 b f) (h5 a e)) (hi a)
  subst hab
  congr 1
  refine pF hi ht h4 h6 fun x=>⟨fun hx=>?_,fun hx=>?_⟩
  ·rcases yaa.1 ((h x).1 (yal _ hx)) with e|e
   ·subst e;exact absurd (h3 _ hx) (hi _)
   ·exact e
  ·rcases yaa.1 ((h x).2 (yal _ hx)) with e|e
   ·subst e;exact absurd (h5 _ hx) (hi _)
   ·exact e
def rAt (rs:List P.Road) (j:Nat):P.Road:=rs.getD j default
def ZL (ps:List aG) (rs:List P.Road):List (Arc × Int × Int) :=
 (yab ps.length).map (fun i:Nat=>(P.aP ps i,((i:Int),(0:Int))))++(P.ofN ps 1 ps.length).map (fun i:Nat=>(P.aS ps i,((i:Int),(0:Int))))++(P.ofN ps 3 ps.length).map (fun i:Nat=>(P.aO ps i,((i:Int),(0:Int))))++(yab rs.length).map (fun j:Nat=>(P.aR (rAt rs j),((-1:Int),(j:Int))))
theorem Uf {rs:List P.Road}:(yab rs.length).map (fun j=>P.aR (rAt rs j))=rs.map P.aR:=by
 apply List.ext_getElem
 ·simp
 ·intro i h1 h2
  have:i<rs.length:=by simpa using h2
  simp [rAt,this]
theorem aeK {ps:List aG} {rs:List P.Road}:(ZL ps rs).map (·.1)=P.cC ps rs:=by
 unfold ZL P.cC P.nA4 P.nA3 P.nA2 P.nA1
 rw [←Uf]
 simp [yag,Function.comp_def]
theorem aeJ {ps:List aG} {rs:List P.Road}:(ZL ps rs).map (·.2)=pM ps rs:=by
 unfold ZL pM
 simp [yag,Function.comp_def]
def pl1 (z:Arc × Int × Int):Option Int:=if 0≤z.2.1 then some z.2.1 else none
def rd1 (z:Arc × Int × Int):Option Int:=if 0≤z.2.1 then none else some z.2.2
def fPl (Z:List (Arc × Int × Int)) (cut:List Int) (i:Nat):List Int:=((Z.take i).filter fun z=>gV cut z.1).filterMap pl1
def fRd (Z:List (Arc × Int × Int)) (cut:List Int) (i:Nat):List Int:=((Z.take i).filter fun z=>gV cut z.1).filterMap rd1
theorem f_n {Z:List (Arc × Int × Int)} {cut:List Int} {i:Nat} (h:i<Z.length) (ho:gV cut Z[i].1=false):fPl Z cut (i+1)=fPl Z cut i∧fRd Z cut (i+1)=fRd Z cut i:=by
 unfold fPl fRd
 rw [←yat h,yap,List.filter_cons_of_neg (by simp [ho])]
 simp
theorem f_p {Z:List (Arc × Int × Int)} {cut:List Int} {i:Nat} (h:i<Z.length) (ho:gV cut Z[i].1=true) (hp:0≤Z[i].2.1):fPl Z cut (i+1)=fPl Z cut i++[Z[i].2.1]∧fRd Z cut (i+1)=fRd Z cut i:=by
 unfold fPl fRd
 rw [←yat h,yap,show [Z[i]].filter (fun z=>gV cut z.1)=[Z[i]] by simp [ho]]
 simp [pl1,rd1,hp]
theorem f_r {Z:List (Arc × Int × Int)} {cut:List Int} {i:Nat} (h:i<Z.length) (ho:gV cut Z[i].1=true) (hp:Z[i].2.1<0):fPl Z cut (i+1)=fPl Z cut i∧fRd Z cut (i+1)=fRd Z cut i++[Z[i].2.2]:=by
 unfold fPl fRd
 rw [←yat h,yap,show [Z[i]].filter (fun z=>gV cut z.1)=[Z[i]] by simp [ho]]
 have:¬0≤Z[i].2.1:=by omega
 simp [pl1,rd1,this]
theorem Ww {Z:List (Arc × Int × Int)} {cut:List Int} {i:Nat}:(fPl Z cut i).length≤Z.length∧(fRd Z cut i).length≤Z.length:=by
 unfold fPl fRd
 have h1:=yaH pl1 ((Z.take i).filter fun z=>gV cut z.1)
 have h3:=yaH rd1 ((Z.take i).filter fun z=>gV cut z.1)
 have h2:=List.length_filter_le (fun z:Arc × Int × Int=>gV cut z.1) (Z.take i)
 rw [yau] at h2
 omega
def Zz (ps:List aG) (cut:List Int) (i:Nat):Bool:=hasB cut (2+2*i)&&!hasB cut (3+2*i)||P.isK ps 1 i&&!hasB cut (2+2*i)||P.isK ps 3 i&&hasB cut (3+2*i)
def adV (rs:List P.Road) (cut:List Int) (j:Nat):Bool:=hasB cut (3+2*(rAt rs j).from_)&&!hasB cut (2+2*(rAt rs j).to)
def spP (ps:List aG) (cut:List Int) (n:Nat):List Int:=((yab n).filter (Zz ps cut)).map fun i:Nat=>(i:Int)
def spR (rs:List P.Road) (cut:List Int) (n:Nat):List Int:=((yab n).filter (adV rs cut)).map fun i:Nat=>(i:Int)
theorem fV {l:List Nat} {f:Nat→Arc × Int × Int} {q:Nat→Bool} {cut:List Int} (g:Arc × Int × Int→Option Int) (h:∀ i∈l,gV cut (f i).1=q i) (hg:∀ i∈l,g (f i)=some (i:Int)):((l.map f).filter fun z=>gV cut z.1).filterMap g=(l.filter q).map fun i:Nat=>(i:Int):=by
 induction l with
 | nil=>rfl
 | cons x l ih =>
  have ih':=ih (fun i hi=>h i (yal _ hi)) (fun i hi=>hg i (yal _ hi))
  have hx:=h x yav
  have hgx:=hg x yav
  rw [yam,List.filter_cons,List.filter_cons,hx]
  cases q x with
  | true=>simp only [if_pos];rw [List.filterMap_cons,hgx,yam,ih']
  | false=>simpa using ih'
theorem fW {l:List Nat} {f:Nat→Arc × Int × Int} {cut:List Int} (g:Arc × Int × Int→Option Int) (hg:∀ i∈l,g (f i)=none):((l.map f).filter fun z=>gV cut z.1).filterMap g=[]:=by
 rw [List.filterMap_eq_nil_iff]
 intro z hz
 obtain ⟨hz,_⟩:=yaf.1 hz
 obtain ⟨i,hi,rfl⟩:=yaw.1 hz
 exact hg i hi
theorem Qz {ps:List aG} {rs:List P.Road} {cut:List Int} {n:Int} (hc:uC n cut) :
  (fPl (ZL ps rs) cut (ZL ps rs).length=(((yab ps.length).filter fun i:Nat=>hasB cut (2+2*i)&&!hasB cut (3+2*i))++((P.ofN ps 1 ps.length).filter fun i:Nat=>!hasB cut (2+2*i))++((P.ofN ps 3 ps.length).filter fun i:Nat=>hasB cut (3+2*i))).map fun i:Nat=>(i:Int))∧fRd (ZL ps rs) cut (ZL ps rs).length=spR rs cut rs.length:=by
 have h0:decide ((0:Int)∈cut)=true:=decide_eq_true (yaI hc.2.2)
 have h1:decide ((1:Int)∈cut)=false:=decide_eq_false fun h=>(hc.1 1 h).2.2 rfl
 unfold fPl fRd
 rw [List.take_length]
 unfold ZL
 simp only [yap,List.filterMap_append,yag]
 constructor
 ·rw [fV (q:=fun i:Nat=>hasB cut (2+2*i)&&!hasB cut (3+2*i)) pl1 (fun i _=>rfl) (fun i _=>by simp [pl1]),
   fV (q:=fun i:Nat=>!hasB cut (2+2*i)) pl1 (fun i _=>by unfold gV P.aS;simp only [h0,Bool.true_and];rfl) (fun i _=>by simp [pl1]),
   fV (q:=fun i:Nat=>hasB cut (3+2*i)) pl1 (fun i _=>by unfold gV P.aO;simp only [h1,Bool.not_false,Bool.and_true];rfl) (fun i _=>by simp [pl1]),
   fW pl1 (fun i _=>by simp [pl1]),List.append_nil]
 ·rw [fW rd1 (fun i _=>by simp [rd1]),fW rd1 (fun i _=>by simp [rd1]),fW rd1 (fun i _=>by simp [rd1]),
   fV (q:=adV rs cut) rd1 (fun i _=>rfl) (fun i _=>by simp [rd1])]
  rfl
theorem Jd {l:List Nat} (h:l.Nodup):(l.map fun i:Nat=>(i:Int)).Nodup:=by
 rw [List.Nodup,List.pairwise_map]
 exact h.imp fun hab he=>hab (by omega)
theorem Fe {n:Nat} {q:Nat→Bool}:(((yab n).filter q).map fun i:Nat=>(i:Int)).Pairwise (·<·):=by
 rw [List.pairwise_map]
 refine (List.Pairwise.filter q (List.pairwise_lt_range (n:=n))).imp fun h=>by omega
theorem Dg {ps:List aG} {kind:Int} {n i:Nat}:i∈P.ofN ps kind n↔i<n∧P.isK ps kind i=true:=by unfold P.ofN;simp
theorem Li {ps:List aG} {rs:List P.Road} {cut:List Int} {n:Int} (hc:uC n cut):(fPl (ZL ps rs) cut (ZL ps rs).length).Nodup:=by
 rw [(Qz (rs:=rs) hc).1]
 refine Jd ?_
 have hr:(yab ps.length).Nodup:=List.nodup_range
 have hk:∀ i,P.isK ps 1 i=true→P.isK ps 3 i=true→False:=by
  intro i h1 h3
  unfold P.isK at h1 h3
  split at h1
  ·rename_i x hx;rw [hx] at h3;simp at h1 h3;omega
  ·cases h1
 rw [List.nodup_append,List.nodup_append]
 refine ⟨⟨hr.filter _,(hr.filter _).filter _,fun a ha b hb e=>?_⟩,(hr.filter _).filter _,fun a ha b hb e=>?_⟩
 ·subst e
  have h1:=(yaf.1 ha).2
  have h2:=(yaf.1 hb).2
  simp only [yan,Bool.not_eq_true'] at h1 h2
  rw [h1.1] at h2;cases h2
 ·subst e
  have h2:=yaf.1 hb
  rcases List.mem_append.1 ha with h|h
  ·have h1:=(yaf.1 h).2
   simp only [yan,Bool.not_eq_true'] at h1
   rw [h2.2] at h1;cases h1.2
  ·have h1:=(yaf.1 h).1
   exact hk a (Dg.1 h1).2 (Dg.1 h2.1).2
theorem Xu {l:List Int} (h:l.Nodup):(srt l).Pairwise (·<·):=by
 have h1:(srt l).Nodup:=(List.mergeSort_perm l _).nodup_iff.2 h
 have h2:=Xt (l:=l)
 refine (h2.and h1).imp fun ⟨a,b⟩=>by omega
theorem adS {ps:List aG} {rs:List P.Road} {cut:List Int} {n:Int} (hc:uC n cut):srt (fPl (ZL ps rs) cut (ZL ps rs).length)=spP ps cut ps.length:=by
 refine pF (r:=fun a b:Int=>a<b) (fun a h=>by omega) (fun a b c h1 h2=>by omega) (Xu (Li hc)) Fe fun x=>?_
 rw [Uj,(Qz (rs:=rs) hc).1]
 unfold spP
 rw [yaw,yaw]
 have key:∀ i:Nat,(i∈((yab ps.length).filter fun i:Nat=>hasB cut (2+2*i)&&!hasB cut (3+2*i))++((P.ofN ps 1 ps.length).filter fun i:Nat=>!hasB cut (2+2*i))++((P.ofN ps 3 ps.length).filter fun i:Nat=>hasB cut (3+2*i)))↔i∈(yab ps.length).filter (Zz ps cut):=by
  intro i
  simp only [List.mem_append,yaf,Dg,List.mem_range,Zz,Bool.or_eq_true,yan]
  constructor
  ·rintro ((⟨a,b⟩|⟨⟨a,b⟩,c⟩)|⟨⟨a,b⟩,c⟩)
   ·exact ⟨a,.inl (.inl b)⟩
   ·exact ⟨a,.inl (.inr ⟨b,c⟩)⟩
   ·exact ⟨a,.inr ⟨b,c⟩⟩
  ·rintro ⟨a,(b|b)|b⟩
   ·exact .inl (.inl ⟨a,b⟩)
   ·exact .inl (.inr ⟨⟨a,b.1⟩,b.2⟩)
   ·exact .inr ⟨⟨a,b.1⟩,b.2⟩
 constructor
 ·rintro ⟨i,hi,rfl⟩;exact ⟨i,(key i).1 hi,rfl⟩
 ·rintro ⟨i,hi,rfl⟩;exact ⟨i,(key i).2 hi,rfl⟩
theorem f_0 {Z:List (Arc × Int × Int)} {cut:List Int}:fPl Z cut 0=[]∧fRd Z cut 0=[]:=⟨by simp [fPl],by simp [fRd]⟩
theorem aeI {ps:List aG} {rs:List P.Road} {arcs:List Arc} (ha:P.cC ps rs=arcs) {i:Nat} (h:i<arcs.length):∃ hz:i<(ZL ps rs).length,(ZL ps rs)[i].1=arcs[i]∧(pM ps rs)[i]?=some (ZL ps rs)[i].2:=by
 have hZ1:=aeK (ps:=ps) (rs:=rs)
 rw [ha] at hZ1
 have hZ2:=aeJ (ps:=ps) (rs:=rs)
 have hz:i<(ZL ps rs).length:=by rw [←hZ1,yax] at h;exact h
 refine ⟨hz,?_,?_⟩
 ·have:(yad (fun x:Arc × Int × Int=>x.1) (ZL ps rs))[i]?=some arcs[i]:=by rw [hZ1];exact yac h
  rw [yay,yac hz] at this
  exact Option.some.inj this
 ·rw [←hZ2,yay,yac hz];rfl
attribute [irreducible] fPl fRd ZL
set_option maxRecDepth 20000
open Go.Fx.P (Arc aG)
abbrev Up (ps:List aG) (rs:List P.Road) (N:Nat) (arcs:List Arc) (cut:List Int) (g:List Int × List Int):List Blk:=[.var [.ro 3 (ps.map aG.enc),(.ro 4 (rs.map P.Road.enc))],.var [.i N,.ro 4 (arcs.map Arc.enc)],.var [.sl 7 0 g.1.length],.var [.sl 8 0 g.2.length],.var [.i N,.ro 4 (arcs.map Arc.enc)],.var [.ro 1 (cut.map P.encI)],.rcd .ready [(2,.ptr 0 0 0),(7,.ptr 2 0 0),(8,.ptr 3 0 0)],.arr 1 (g.1.map P.encI),.arr 1 (g.2.map P.encI)]
theorem aiF (ps:List aG) (rs:List P.Road) (N:Nat) (arcs:List Arc) (cut:List Int):aaO (Up ps rs N arcs cut) 9 N arcs cut 6 4 5 [6]:=by
 refine ⟨fun g=>rfl,fun g tl=>rfl,fun g tl=>rfl,fun g=>⟨trivial,trivial⟩,fun g tl=>?_,fun g tl=>⟨_,_,rfl⟩⟩
 simp -implicitDefEqProofs only [rX,aB,wfE,wfB,wfV,wfL]
def Zi (ps:List aG) (cut:List Int):List Int:=if oJ (P.nN ps) cut then spP ps cut ps.length else []
def Zh (ps:List aG) (rs:List P.Road) (cut:List Int):List Int:=if oJ (P.nN ps) cut then spR rs cut rs.length else []
theorem E83.kill {N:Nat} {arcs:List Arc} {L k i:Nat} {e:Env} (he:E83 N arcs L k i e) {m:Nat} (hm:m≠L∧m≠k):E83 N arcs L k i (bU [m] e):=by
 obtain ⟨h0,h4,h23,h24,h25,h43⟩:=he
 have a:¬L=m:=fun h=>hm.1 h.symm
 have b:¬k=m:=fun h=>hm.2 h.symm
 exact ⟨by rw [eJ,h0];simp [Fx.kill,b],by rw [eJ,h4];simp [Fx.kill,a],by rw [eJ,h23];rfl,by rw [eJ,h24];rfl,by rw [eJ,h25];rfl,by rw [eJ,h43];rfl⟩
set_option maxHeartbeats 2000000 in
theorem ahX (ps:List aG) (rs:List P.Road) (cut:List Int) (hF:fQ ps rs) (hcl:cut.length≤1000000):Ok 20 [P.bG ps rs,P.li cut] (Is (.tup [P.li (Zi ps cut),P.li (Zh ps rs cut)])):=by
 have hV:=hF.net
 have hN:=hV.hn
 have hal:=hV.hl
 refine tJ (ok_of lw20 (by simp) ?_)
 unfold c20 P.bG P.sps P.rds
 simp -implicitDefEqProofs only [rX,↓rY,aA,cells?,↓reduceIte,Nat.reduceEqDiff,Nat.reduceAdd,aC,aK]
 refine aE hF.e51 ⟨⟨aZ.1,trivial⟩,aZ.2,trivial⟩ rfl trivial ?_
 unfold P.net
 simp -implicitDefEqProofs only [rX,↓rY,aA,cells?,splice,↓reduceIte,Nat.reduceEqDiff,Nat.reduceAdd,reduceCtorEq,aC,isC,aY]
 refine aE (Ym (P.nN ps) cut hcl) (by simp [aF,aJ,aW,bP,wkL,wk,wkR,wkB,P.li]) rfl trivial ?_
 unfold Zi Zh
 cases hc:oJ (P.nN ps) cut with
 | false =>
  simp -implicitDefEqProofs only [rX,↓rY,aA,↓reduceIte,Nat.reduceAdd]
  exact rK ⟨by simp [aV,wfV,wfL,get],by simp [Gv,aV,gvV,gvL,wk,wkL,wkR,P.li,get]⟩
 | true =>
  have hcP:uC (P.nN ps) cut:=of_decide_eq_true hc
  have hs:=adS (ps:=ps) (rs:=rs) hcP
  have hr:=(Qz (ps:=ps) (rs:=rs) hcP).2
  simp -implicitDefEqProofs only [rX,↓rY,aA,cells?,↓reduceIte,Nat.reduceEqDiff,Nat.reduceAdd,reduceCtorEq,aC]
  have hnd:=Li (ps:=ps) (rs:=rs) hcP
  generalize hNe:P.nN ps=N at *
  generalize hAe:P.cC ps rs=arcs at *
  have hZ1:=aeK (ps:=ps) (rs:=rs)
  rw [hAe] at hZ1
  have hZ2:=aeJ (ps:=ps) (rs:=rs)
  have hZl:(ZL ps rs).length=arcs.length:=by rw [←hZ1,yax]
  refine eW [P.net N arcs,P.li cut] (.clo 83 [.ptr 0 0 0,.ptr 1 0 0]) (.clo 83 [.ptr 4 0 0,.ptr 5 0 0]) [.var [.i N,.ro 4 (arcs.map Arc.enc)],.var [P.li cut]] [.var [.i N,.ro 4 (arcs.map Arc.enc)],.var [P.li cut]] (abY N arcs cut) (by simp [aF,aJ,aW,bP,wkL,wk,wkR,P.net,P.li]) rfl rfl trivial ?_
  simp -implicitDefEqProofs only [rX]
  refine Cw 6 rfl rfl trivial ?_
  refine Su (as':=[.itr 6,.ptr 4 0 0,.ptr 5 0 0]) (h':=Up ps rs N arcs cut ([],[])) rfl ⟨_,.virt 2 1 (by decide) (.nilB 2 [.nil] [.sl 7 0 0] rfl ⟨rfl,fun i a b h1 h2=>?_⟩ (.nilB 3 [.nil] [.sl 8 0 0] rfl ⟨rfl,fun i a b h1 h2=>?_⟩ (.refl _))),?_⟩
   (adJ (Inv:=fun i g=>g=(fPl (ZL ps rs) cut i,fRd (ZL ps rs) cut i)) (aiF ps rs N arcs cut) (by omega) (by omega) hcl (fun x hx=>⟨(hcP.1 x hx).1,(hcP.1 x hx).2.1⟩) (fun x hx=>⟨(hV.ha x hx).1,(hV.ha x hx).2.1⟩) ?_ ?_ ?_ _ ?_)
  ·match i with
   | 0=>simp at h1 h2;subst h1 h2;exact .inr ⟨rfl,_,rfl⟩
   | i+1=>simp at h1
  ·match i with
   | 0=>simp at h1 h2;subst h1 h2;exact .inr ⟨rfl,_,rfl⟩
   | i+1=>simp at h1
  ·simp -implicitDefEqProofs only [rX,↓reduceIte,Nat.reduceEqDiff,Nat.reduceAdd,reduceCtorEq,leE,leH,leB,leV,bB,aD,aB,wfE,wfB,wfV,wfL,aQ,aK,P.li,yaJ]
   exact .inr trivial
  ·rintro i g hi rfl ho
   obtain ⟨hz,z1,z2⟩:=aeI hAe hi
   rw [←z1] at ho
   rw [(f_n hz ho).1,(f_n hz ho).2]
  ·rintro i g hi rfl ho e bb Z he hZ
   obtain ⟨hz,z1,z2⟩:=aeI hAe hi
   rw [←z1] at ho
   obtain ⟨l1,l2⟩:=Ww (Z:=ZL ps rs) (cut:=cut) (i:=i)
   have e1:=he.e0;have e2:=he.e4;have e3:=he.e23;have e4:=he.e24;have e5:=he.e25;have e6:=he.e43
   generalize hP:fPl (ZL ps rs) cut i=PL at *
   generalize hR:fRd (ZL ps rs) cut i=RL at *
   have tkP:yae PL.length (yad P.encI PL)=yad P.encI PL:=yah (by simp)
   have tkR:yae RL.length (yad P.encI RL)=yad P.encI RL:=yah (by simp)
   refine Jr 11 rfl rfl rfl ?_
   unfold c20a0
   simp -implicitDefEqProofs only [rX,rZ,↓rW,↓reduceIte,Nat.reduceEqDiff,Nat.reduceAdd,aY,aQ,lF]
   unfold c20r0
   simp -implicitDefEqProofs only [rX,↓rY,↓reduceIte,Nat.reduceEqDiff,Nat.reduceAdd]
   refine aE (ahJ ps rs i hF _ z2) ⟨⟨aZ.1,trivial,trivial⟩,aZ.2,rfl,trivial⟩ rfl (by simp [aD,aB]) ?_
   cases hp:decide (0≤(ZL ps rs)[i].2.1) with
   | true =>
    have hp':=of_decide_eq_true hp
    obtain ⟨q1,q2⟩:=f_p hz ho hp'
    simp -implicitDefEqProofs only [rX,↓rY,rZ,↓rW,aA,cells?,splice,↓reduceIte,Nat.reduceEqDiff,Nat.reduceAdd,reduceCtorEq,aC,cI,bU,bD,kill,bN,St.kill,isD,isC,Nat.reduceLT,tkP,tkR,hp]
    refine ⟨by omega,?_⟩
    have hz':=hZ (bU [7] e) (PL++[(ZL ps rs)[i].2.1],RL) [.var (bN [7] arcs[i].enc),.dead,.arr 1 [[.i (ZL ps rs)[i].2.1]],.dead] (E83.kill he (by decide)) (by rw [q1,q2,hP,hR])
    simp only [Up,yag,yas,yaz,List.length_nil,yam,List.map_nil] at hz'
    exact hz'
   | false =>
    have hp':=of_decide_eq_false hp
    obtain ⟨q1,q2⟩:=f_r hz ho (by omega)
    simp -implicitDefEqProofs only [rX,↓rY,rZ,↓rW,aA,cells?,splice,↓reduceIte,Nat.reduceEqDiff,Nat.reduceAdd,reduceCtorEq,aC,cI,bU,bD,kill,bN,St.kill,isD,isC,Nat.reduceLT,tkP,tkR,hp]
    refine ⟨by omega,?_⟩
    have hz':=hZ (bU [8] e) (PL,RL++[(ZL ps rs)[i].2.2]) [.var (bN [8] arcs[i].enc),.dead,.arr 1 [[.i (ZL ps rs)[i].2.2]],.dead] (E83.kill he (by decide)) (by rw [q1,q2,hP,hR])
    simp only [Up,yag,yas,yaz,List.length_nil,yam,List.map_nil] at hz'
    exact hz'
  ·rintro g rfl
   obtain ⟨l1,l2⟩:=Ww (Z:=ZL ps rs) (cut:=cut) (i:=arcs.length)
   rw [←hZl] at l1 l2 ⊢
   rw [hr] at l2 ⊢
   generalize hP:fPl (ZL ps rs) cut (ZL ps rs).length=PL at *
   simp -implicitDefEqProofs only [rX,↓rY,rZ,↓rW,↓reduceIte,Nat.reduceEqDiff,Nat.reduceAdd,aB,wfE,wfB,wfV,wfL]
   have hpl:PL.length=(spP ps cut ps.length).length:=by rw [←hs,Kd]
   have hpb:(spP ps cut ps.length).length≤1000000:=by omega
   have o63:=ahI PL (by omega)
   rw [hs,hpl] at o63
   have o64:=ahH (spP ps cut ps.length) hpb Fe
   have w1:∀ f:Nat→Option Nat,cA f (.arr 1 (PL.map P.encI))=.arr 1 (PL.map P.encI):=fun f=>rfl
   rw [hpl]
   refine cX [7] [.sl 0 0 (spP ps cut ps.length).length] (.tup []) (.tup []) [.arr 1 (PL.map P.encI)] [.arr 1 ((spP ps cut ps.length).map P.encI)] _ o63 (by simp [aY]) rfl (by simp [aF,aJ,aW,bP,wkL,wk,pos]) (by simp) rfl rfl trivial ?_
   simp -implicitDefEqProofs only [rX,↓rY,rdK,↓reduceIte,Nat.reduceEqDiff,Nat.reduceAdd,aQ,bH,cA,List.set_cons_succ]
   refine cX [7] [.sl 0 0 (spP ps cut ps.length).length] (.sl 0 0 (spP ps cut ps.length).length) (.sl 7 0 (spP ps cut ps.length).length) [.arr 1 ((spP ps cut ps.length).map P.encI)] [.arr 1 ((spP ps cut ps.length).map P.encI)] _ o64 (by simp) rfl (by simp [aF,aJ,aW,bP,wkL,wk,pos]) (by simp) rfl rfl trivial ?_
   simp -implicitDefEqProofs only [rX,↓reduceIte,Nat.reduceEqDiff,Nat.reduceAdd,bH,cA,List.set_cons_succ]
   rw [fE]
   simp -implicitDefEqProofs only [rX,↓reduceIte,Nat.reduceEqDiff,aT,aV,aD,aB,wfV,wfL]
   have tkP:yae (spP ps cut ps.length).length (yad P.encI (spP ps cut ps.length))=yad P.encI (spP ps cut ps.length):=yah (by simp)
   have tkR:yae (spR rs cut rs.length).length (yad P.encI (spR rs cut rs.length))=yad P.encI (spR rs cut rs.length):=yah (by simp)
   refine ⟨[.dead,.dead,.dead,.dead,.dead,.dead,.dead,.arr 1 ((spP ps cut ps.length).map P.encI),.arr 1 ((spR rs cut rs.length).map P.encI)],⟨by simp [leH,leB],by simp [wfV,wfL,aB],by simp [wfB]⟩,?_⟩
   simp [Gv,gvV,gvL,wk,wkL,wkR,blk,P.li,tkP,tkR]
  ·rw [f_0.1,f_0.2]
set_option maxRecDepth 20000
open Go.Fx.P (Arc aG)
abbrev h21 (ps:List aG) (rs:List P.Road) (A B:List Int):List Blk:=[.var [.ro 3 (ps.map aG.enc),.ro 4 (rs.map P.Road.enc)],.var [.any,.any],.var [.sl 3 0 A.length,.sl 4 0 B.length],.arr 1 (A.map P.encI),.arr 1 (B.map P.encI)]
set_option maxRecDepth 20000
open Go.Fx.P (Arc aG)
theorem mR {r:Rf} (h:r.sg.length=16):r.enc.length=24:=by unfold Rf.enc;simp [oY,h]
theorem Kh {r:Rf} (h:r.sg.length=16):yae 24 r.enc=r.enc:=yah (by rw [mR h];exact yak _)
theorem agK {r:Rf}:r.enc[0]?=some (.i r.place):=rfl
theorem agJ {r:Rf}:r.enc[1]?=some (.i r.n):=rfl
theorem agI {r:Rf}:r.enc[2]?=some (.i r.win):=rfl
theorem agH {r:Rf}:r.enc[3]?=some (.i r.sent):=rfl
theorem abP {q:List Blk} {r:Rf}:wfL q r.enc:=⟨trivial,trivial,trivial,trivial,trivial,trivial,trivial,trivial,gT⟩
abbrev bR (l:List Rf):V:=.bro 24 (l.map Rf.enc)
def Bd (x y:Rf):Bool:=x.place==y.place&&x.n==y.n
def twR (l:List Rf) (x:Rf):Bool:=l.any (Bd x)
def Aq (ps:List aG) (rs:List P.Road) (l:List Rf) (k:Nat):Int :=
 match l[k]? with
 | none=>0
 | some r=>if tV ps rs r≠0 then tV ps rs r else if some r.win≠l.head?.map (·.win) then 1 else if twR (l.take k) r then 6 else if (k:Int)≥P.dem ps-r.sent then 4 else 0
def Jk (ps:List aG) (rs:List P.Road) (l:List Rf):Int × Int :=
 match (yab l.length).find? (fun k=>Aq ps rs l k != 0) with
 | none=>(-1,0)
 | some k=>(k,Aq ps rs l k)
structure AlI (ps:List aG) (rs:List P.Road) (l:List Rf) (k:Nat):Prop where
 le:k≤l.length
 h:∀ j,j<k→Aq ps rs l j=0
theorem AlI.at {ps:List aG} {rs:List P.Road} {l:List Rf} {k:Nat} (h:AlI ps rs l k) (hk:k<l.length) (he:Aq ps rs l k≠0):Jk ps rs l=((k:Int),Aq ps rs l k):=by
 unfold Jk
 have:(yab l.length).find? (fun k=>Aq ps rs l k != 0)=some k:=by
  rw [List.find?_eq_some_iff_getElem]
  refine ⟨by simpa using he,k,by simpa using hk,by simp,fun j hj=>?_⟩
  simp [h.h j hj]
 rw [this]
theorem AlI.all {ps:List aG} {rs:List P.Road} {l:List Rf} (h:AlI ps rs l l.length):Jk ps rs l=(-1,0):=by
 unfold Jk
 have:(yab l.length).find? (fun k=>Aq ps rs l k != 0)=none:=by
  rw [List.find?_eq_none]
  intro k hk
  have:=h.h k (by simpa using hk)
  simp [this]
 rw [this]
theorem AlI.next {ps:List aG} {rs:List P.Road} {l:List Rf} {k:Nat} (h:AlI ps rs l k) (hk:k<l.length) (he:Aq ps rs l k=0):AlI ps rs l (k+1):=⟨by omega,fun j hj=>by
 by_cases e:j=k
 ·subst e;exact he
 ·exact h.h j (by omega)⟩
theorem Zt {ps:List aG} {rs:List P.Road} {l:List Rf} {k:Nat} (hk:k<l.length) (h0:0<l.length):Aq ps rs l k=if tV ps rs l[k]≠0 then tV ps rs l[k] else if l[k].win≠l[0].win then 1 else if twR (l.take k) l[k] then 6 else if (k:Int)≥P.dem ps-l[k].sent then 4 else 0:=by
 unfold Aq
 rw [yac hk]
 have:l.head?.map (·.win)=some l[0].win:=by
  cases l with
  | nil=>simp at h0
  | cons x r=>rfl
 simp only [this,ne_eq,yaA]
def Ul (x:Rf):Value:=.agg #[.int .i64 x.place,.int .i64 x.n]
def tS:List Rf→Nat→List (Value × V × Nat)
 | [],_=>[]
 | x::l,i=>(Ul x,.b true,i)::tS l (i+1)
theorem Gm:∀ {l:List Rf} {i:Nat} {x:Rf},tS (l++[x]) i=tS l i++[(Ul x,.b true,i+l.length)]
 | [],i,x=>rfl
 | y::l,i,x=>by
  simp only [List.cons_append,tS,Gm,yaz]
  rw [show i+1+l.length=i+(l.length+1) by omega]
abbrev rfK:List (Nat × TypeDesc):=[(0,.int .i64),(1,.int .i64)]
theorem tR:∀ {l:List Rf} {i:Nat},o4 rfK (tS l i)
 | [],_=>fun e he=>by cases he
 | x::l,i=>fun e he=>by
  rcases yaa.1 he with rfl|he
  ·exact ⟨_,rfl,rfl,rfl⟩
  ·exact tR e he
theorem La:∀ {l:List Rf} {x:Rf} {i j:Nat},fA [.int .i64 x.place,.int .i64 x.n] (tS l i) j=if twR l x then some (j+l.findIdx (Bd x),.b true) else none
 | [],x,i,j=>rfl
 | y::l,x,i,j=>by
  simp only [tS,fA,Ul,La]
  have key:(List.zip [Value.int .i64 x.place,.int .i64 x.n] (#[Value.int .i64 y.place,.int .i64 y.n]:Array Value).toList).all (fun p=>eqK p.1 p.2)=Bd x y:=by
   simp [eqK,Bd]
  rw [key]
  cases h:Bd x y with
  | true=>simp [twR,h,List.findIdx_cons]
  | false =>
   simp only [twR,List.any_cons,h,Bool.false_or,List.findIdx_cons,yaB,if_false,cond_false]
   by_cases h2:l.any (Bd x)=true
   ·simp only [h2,if_true];congr 2;omega
   ·simp only [h2,yaB,if_false]
theorem Dz {h:List Blk}:∀ {l:List Rf} {i:Nat},wfL h ((tS l i).map fun x=>x.2.1)
 | [],_=>by simp [tS,wfL]
 | x::l,i=>by
  simp only [tS,yam,wfL]
  exact ⟨by simp [wfV],Dz⟩
theorem Sa {ps:List aG} {rs:List P.Road} {r:Rf} (h:tV ps rs r=0):i4 ps rs r=true∧∃ x,f6 ps r.place=some x∧0≤r.n∧r.n<x.cap:=by
 unfold tV at h
 split at h
 ·cases h
 ·rename_i x hx
  by_cases h1:r.n<0∨x.cap≤r.n∨Gc r.win=false
  ·rw [if_pos h1] at h;cases h
  ·rw [if_neg h1] at h
   by_cases h2:i4 ps rs r=true
   ·exact ⟨h2,x,hx,by omega,by omega⟩
   ·rw [if_neg h2] at h;cases h
theorem Tu {ps:List aG} {rs:List P.Road} {r:Rf} (hF:fQ ps rs) (h:i4 ps rs r=true):0≤r.sent∧r.sent<P.dem ps:=by
 unfold i4 at h
 simp only [yan,decide_eq_true_eq,beq_iff_eq] at h
 have:=Sh (cut:=r.cut) (fun a ha=>(hF.net.ha a ha).2.2.2.1) (yak (P.cC ps rs).length)
 have e:bnd (P.cC ps rs) r.cut=sH (P.cC ps rs) r.cut (P.cC ps rs).length:=rfl
 omega
theorem adT {ps:List aG} {rs:List P.Road} (hF:fQ ps rs):0≤P.dem ps∧P.dem ps≤10737418240:=by
 have hcap:=(P.g0 hF.ok).2.1
 have h1:=P.w5 hcap (P.ofN ps 1 ps.length)
 have h2:=P.eZ (ps:=ps) (kind:=1) (n:=ps.length)
 have:=hF.pl
 unfold P.dem
 omega
set_option maxHeartbeats 2000000 in
theorem ahV (ps:List aG) (rs:List P.Road) (l:List Rf) (hF:fQ ps rs) (hll:l.length≤1000000) (hsg:∀ r∈l,r.sg.length=16) (hcl:∀ r∈l,r.cut.length≤1000000):Ok 23 [P.bG ps rs,bR l] (Is (.tup [.i (Jk ps rs l).1,.i (Jk ps rs l).2])):=by
 have hdb:=adT hF
 refine ok_of lw23 (by simp) ?_
 unfold c23 P.bG
 simp -implicitDefEqProofs only [rX,↓rY,aA,cells?,↓reduceIte,Nat.reduceEqDiff,Nat.reduceAdd,aC,aK]
 refine aE hF.e55 ⟨⟨aZ.1,trivial⟩,aZ.2,trivial⟩ rfl trivial ?_
 simp -implicitDefEqProofs only [rX,↓rY,aA,↓reduceIte,Nat.reduceEqDiff,Nat.reduceAdd,reduceCtorEq,aC,aQ]
 intro hml
 refine dB (fun k:Nat=>(⟨[(17,.i k),(16,.i l.length),(15,bR l),(7,.mp 1),(6,.i (P.dem ps)),(2,.ptr 0 0 0),(1,bR l)],[.var [P.sps ps,P.rds rs],.map (tS (l.take k) 0) k],0⟩:St)) (AlI ps rs l) (fun k=>l.length-k) 0 ⟨yaC _,fun j h=>by omega⟩ ?_ ?_
 ·refine ⟨by simp -implicitDefEqProofs only [rX,↓reduceIte,Nat.reduceEqDiff,reduceCtorEq,leE];rfl,⟨bA _,by rw [List.take_zero];exact bA _,trivial⟩,trivial,by simp -implicitDefEqProofs only [rX,aB,wfE,wfV],by simp -implicitDefEqProofs only [rX,wfB,wfV,wfL,P.sps,P.rds];exact Dz⟩
 intro k hI N hN
 have hle:=hI.le
 have b0:lo IntKind.i64≤(k:Int)+1∧(k:Int)+1≤Fx.hi IntKind.i64:=⟨by simp only [lo];omega,by simp only [Fx.hi];omega⟩
 simp only [c23l0]
 simp -implicitDefEqProofs only [rX,↓rY,aA,cells?,splice,↓reduceIte,Nat.reduceEqDiff,Nat.reduceAdd,aC,aT,aV,wfV,wfL,yaj,yao,aY]
 cases h1:decide ((k:Int)<(l.length:Int)) with
 | false =>
  have h1':=of_decide_eq_false h1
  obtain rfl:k=l.length:=by omega
  rw [hI.all]
  simp -implicitDefEqProofs only [↓rY]
 | true =>
  have h1':=of_decide_eq_true h1
  have hk:k<l.length:=by omega
  have hs:=hsg _ (yaD hk)
  have he:=Zt (ps:=ps) (rs:=rs) hk (by omega)
  simp -implicitDefEqProofs only [rX,↓rY,yac hk,mR hs,Kh hs,Ez,At]
  refine ⟨⟨by omega,by omega⟩,hk,?_⟩
  refine aE (Yp ps rs l[k] hF (hcl _ (yaD hk))) ⟨⟨aZ.1,(fF rfl).1,trivial⟩,aZ.2,(fF rfl).2,trivial⟩ rfl trivial ?_
  cases d1:(tV ps rs l[k] != 0) with
  | true =>
   have d1':=bne_iff_ne.1 d1
   rw [if_pos d1'] at he
   rw [hI.at hk (by rw [he];exact d1'),he]
   simp -implicitDefEqProofs only [rX,↓rY,aA,cells?,splice,↓reduceIte,Nat.reduceEqDiff,Nat.reduceAdd,aC,bQ,aT,aV,wfV,wfL,Nat.reduceLeDiff,yaj,aY,d1]
  | false =>
   have d1':tV ps rs l[k]=0:=by simpa using d1
   obtain ⟨hsh,x,hx,hn1,hn2⟩:=Sa d1'
   have hsb:=Tu hF hsh
   rw [if_neg (by simp [d1'])] at he
   have h0:0<l.length:=by omega
   have hs0:=hsg _ (yaD h0)
   have e0:(l.map Rf.enc)[0]?=some l[0].enc:=by rw [yay,yac h0];rfl
   simp -implicitDefEqProofs only [rX,↓rY,aA,cells?,splice,↓reduceIte,Nat.reduceEqDiff,Nat.reduceAdd,aC,bQ,aT,aV,wfV,wfL,isC,Nat.reduceLeDiff,yaj,aY,d1,yac hk,yac h0,mR hs,mR hs0,agK,agJ,agI,agH]
   refine ⟨⟨by omega,by omega⟩,h0,?_⟩
   have t0:Int.toNat 0=0:=rfl
   simp only [t0]
   cases d2:(l[k].win != l[0].win) with
   | true =>
    have d2':=bne_iff_ne.1 d2
    rw [if_pos d2'] at he
    rw [hI.at hk (by rw [he];decide),he]
    simp only [wc]
   | false =>
    have d2':l[k].win=l[0].win:=by simpa using d2
    rw [if_neg (by simp [d2'])] at he
    simp only [wd,La]
    refine ⟨rfl,tR,?_⟩
    cases d3:twR (l.take k) l[k] with
    | true =>
     rw [if_pos d3] at he
     rw [hI.at hk (by rw [he];decide),he]
     simp [dY,brV,br]
    | false =>
     rw [if_neg (by simp [d3])] at he
     simp only [yaB,if_false,dY,aA,brV,wd]
     refine ⟨⟨by simp only [lo];omega,by simp only [Fx.hi];omega⟩,?_⟩
     cases d4:decide (P.dem ps-l[k].sent≤(k:Int)) with
     | true =>
      have d4':=of_decide_eq_true d4
      rw [if_pos (by omega)] at he
      rw [hI.at hk (by rw [he];decide),he]
      simp only [wc]
     | false =>
      have d4':=of_decide_eq_false d4
      rw [if_neg (by omega)] at he
      simp only [wd,f8]
      refine ⟨rfl,tR,b0,hN _ (k+1) (hI.next hk he) (by omega) ?_⟩
      have ent:tS (l.take (k+1)) 0=tS (l.take k) 0++[(Ul l[k],.b true,k)]:=by
       rw [List.take_succ_eq_append_getElem hk,Gm,yau,show 0+min k l.length=k by omega]
      refine ⟨by simp -implicitDefEqProofs only [rX,↓reduceIte,Nat.reduceEqDiff,leE];rfl,⟨bA _,by rw [ent];exact bA _,by unfold leH;trivial⟩,trivial,by simp -implicitDefEqProofs only [rX,aB,wfE,wfV],by simp -implicitDefEqProofs only [rX,wfB,wfV,wfL,P.sps,P.rds];exact Dz⟩
set_option maxRecDepth 20000
open Go.Fx.P (Arc aG)
theorem ahW (l:List Int) (hl:l.length≤1000000000):Ok 22 [bI' l,bI' l] (Is (.b true)):=by
 refine ok_of lw22 (by simp) ?_
 unfold c22
 simp -implicitDefEqProofs only [rX,↓rY,aA,↓reduceIte,Nat.reduceEqDiff,reduceCtorEq,aQ,aK,bne_self_eq_false]
 intros
 refine dB (fun j:Nat=>(⟨[(5,.i j),(1,bI' l),(0,bI' l)],[],0⟩:St)) (fun j=>j≤l.length) (fun j=>l.length-j) 0 (yaC _) ?_ ?_
 ·exact ⟨by simp -implicitDefEqProofs only [rX,↓reduceIte,Nat.reduceEqDiff,reduceCtorEq,leE];rfl,bT _,trivial,by simp -implicitDefEqProofs only [rX,wfE,wfV],by simp -implicitDefEqProofs only [wfB]⟩
 intro j hj N hN
 simp only [c22l0]
 simp -implicitDefEqProofs only [rX,↓rY,aA,↓reduceIte,Nat.reduceEqDiff,reduceCtorEq,aT,aV,wfV,yaj,yao]
 intro hml
 cases h1:decide ((j:Int)<(l.length:Int)) with
 | true =>
  have h1':=of_decide_eq_true h1
  have hj':j<l.length:=by omega
  have bj:0≤(j:Int)∧(j:Int)<(l.length:Int):=by omega
  simp -implicitDefEqProofs only [rX,↓rY,yac hj',P.cP,bne_self_eq_false]
  refine ⟨bj,hj',bj,hj',⟨by simp only [lo];omega,by simp only [Fx.hi];omega⟩,hN _ (j+1) (by omega) (by omega) ?_⟩
  exact ⟨by simp -implicitDefEqProofs only [rX,↓reduceIte,Nat.reduceEqDiff,reduceCtorEq,leE];rfl,bT _,trivial,by simp -implicitDefEqProofs only [rX,wfE,wfV],by simp -implicitDefEqProofs only [wfB]⟩
 | false =>
  have h1':=of_decide_eq_false h1
  simp -implicitDefEqProofs only [↓rY]
open Classical in
noncomputable def Qy (ps:List aG) (rs:List P.Road):Bool:=decide (fQ ps rs)
open Classical in
theorem ok8 (ps:List aG) (rs:List P.Road):Ok 8 [P.bG ps rs] (Is (.b (Qy ps rs))):=by
 refine ok_of lw8 (by simp) ?_
 unfold c8 P.bG P.sps P.rds Qy
 simp -implicitDefEqProofs only [rX,↓rY,aA,cells?,↓reduceIte,Nat.reduceEqDiff,Nat.reduceAdd,aC,aT,aV,wfV,aK]
 intro _
 cases h1:decide ((ps.length:Int)≤6) with
 | false =>
  have h1':=of_decide_eq_false h1
  simp -implicitDefEqProofs only [↓rY]
  rw [decide_eq_false fun q:fQ ps rs=>h1' (by have:=q.pl;omega)]
 | true =>
  have h1':=of_decide_eq_true h1
  simp -implicitDefEqProofs only [↓rY]
  intro _
  cases h2:decide ((rs.length:Int)≤20) with
  | false =>
   have h2':=of_decide_eq_false h2
   simp -implicitDefEqProofs only [↓rY]
   rw [decide_eq_false fun q:fQ ps rs=>h2' (by have:=q.rl;omega)]
  | true =>
   have h2':=of_decide_eq_true h2
   simp -implicitDefEqProofs only [↓rY]
   refine aE (P.ahR ps rs) ⟨⟨⟨trivial,trivial,trivial⟩,trivial⟩,⟨⟨rfl,rfl⟩,⟨rfl,rfl⟩,trivial⟩,trivial⟩ rfl trivial ?_
   simp -implicitDefEqProofs only [rX,↓rY,aA,↓reduceIte,Nat.reduceEqDiff,aT,aV,wfV]
   by_cases h3:P.fI ps rs=0
   ·rw [h3,decide_eq_true (⟨h3,by omega,by omega⟩:fQ ps rs)];rfl
   ·rw [decide_eq_false fun q:fQ ps rs=>h3 q.ok,beq_eq_false_iff_ne.2 h3]
def keyK (n:Int):Ky:=⟨1000+n,1,[115],0,1099511627776⟩
theorem Il (n:Int) (hn:-1000000≤n∧n≤1000000):Ok 30 [.i n] (Is (.agg (keyK n).enc)):=by
 refine ok_of lw30 (by simp) ?_
 unfold c30
 simp -implicitDefEqProofs only [rX,↓rY,aA,cells?,splice,↓reduceIte,Nat.reduceEqDiff,Nat.reduceAdd,reduceCtorEq,aC,bQ,aT,aV,wfV,wfL,isC,Nat.reduceLeDiff,aY,aK]
 exact ⟨⟨by simp only [lo];omega,by simp only [Fx.hi];omega⟩,rfl⟩
set_option maxRecDepth 20000
open Go.Fx.P (Arc aG)
def Sj (e:Env):List V→List (Nat × Nat × Operand)→Option V
 | acc,[]=>some (.agg acc)
 | acc,(off,sz,x)::r=>match cells? (ev e x) with
  | some cs=>if cs.length=sz∧off+sz≤acc.length then Sj e (splice acc off cs) r else none
  | none=>none
theorem Ls {e:Env} {K:V→Prop} {y:V}:∀ (ps:List (Nat × Nat × Operand)) (acc:List V),Sj e acc ps=some y→K y→bQ e acc ps K
 | [],acc,h,hK=>by
  simp only [Sj,yaA] at h
  subst h;exact hK
 | (off,sz,x)::r,acc,h,hK=>by
  simp only [Sj] at h
  simp only [bQ]
  cases hc:cells? (ev e x) with
  | none=>rw [hc] at h;exact absurd h (by simp)
  | some cs =>
   rw [hc] at h
   simp only at h
   split at h
   ·next q=>exact ⟨q,Ls r _ h hK⟩
   ·exact absurd h (by simp)
def Qg (e:Env) (sz:Nat):List (List V)→List (Nat × Operand)→Option (List (List V))
 | acc,[]=>some acc
 | acc,(i,x)::r=>match cells? (ev e x) with
  | some cs=>if (cs.length=sz∧i<acc.length)∧cs.all isD=true then Qg e sz (acc.set i cs) r else none
  | none=>none
theorem Ld {e:Env} {sz:Nat} {K:List (List V)→Prop} {y:List (List V)}:∀ (ps:List (Nat × Operand)) (acc:List (List V)),Qg e sz acc ps=some y→K y→cI e sz acc ps K
 | [],acc,h,hK=>by
  simp only [Qg,yaA] at h
  subst h;exact hK
 | (i,x)::r,acc,h,hK=>by
  simp only [Qg] at h
  simp only [cI]
  cases hc:cells? (ev e x) with
  | none=>rw [hc] at h;exact absurd h (by simp)
  | some cs =>
   rw [hc] at h
   simp only at h
   split at h
   ·next q=>exact ⟨q,Ld r _ h hK⟩
   ·exact absurd h (by simp)
theorem Jg {cx:Cx} {d:Option Nat} {z:List Value} {ps:List (Nat × Nat × Operand)} {r:List bL} {s:St} {Ks:St→Prop} (y:V)
  (hy:Sj s.e (z.map .v) ps=some y) (hK:eM cx r (s.put d y) Ks):eM cx (⟨d,.build z ps,none⟩::r) s Ks :=
 Ls (K:=fun y=>eM cx r (s.put d y) Ks) ps _ hy hK
theorem Qf {cx:Cx} {d:Option Nat} {z:List Value} {j sz n:Nat} {ps:List (Nat × Operand)} {r:List bL} {s:St} {Ks:St→Prop} (els:List (List V))
  (hy:Qg s.e sz (yaE n (z.map .v)) ps=some els) (hf:aC s.h (s.b+j))
  (hK:eM cx r (St.put { s with h:=s.h.set (s.b+j) (.arr sz els) } d (.sl (s.b+j) 0 n)) Ks):eM cx (⟨d,.lits j sz n z ps,none⟩::r) s Ks :=
 Ld (K:=fun els=>aC s.h (s.b+j)∧eM cx r (St.put { s with h:=s.h.set (s.b+j) (.arr sz els) } d (.sl (s.b+j) 0 n)) Ks) ps _ hy ⟨hf,hK⟩
def dX:List aG:=[⟨1,1,5⟩,⟨1,2,3⟩,⟨2,10,6⟩,⟨3,7,4⟩]
def eG:List P.Road:=[⟨0,2,9,1⟩,⟨1,2,9,2⟩,⟨2,3,9,1⟩,⟨1,3,1,5⟩]
theorem ahQ:Ok 33 [] (Is (P.bG dX eG)):=by
 refine tJ (ok_of lw33 (by simp) ?_)
 unfold c33
 simp -implicitDefEqProofs only [zc,qY,aK]
 rw [zj,zp]
 refine ⟨trivial,?_⟩
 simp -implicitDefEqProofs only [zi,zc,qY,kQ]
 iterate 4 refine Jg _ (by rfl) ?_
 refine Qf _ (by rfl) (by exact trivial) ?_
 iterate 4 refine Jg _ (by rfl) ?_
 refine Qf _ (by rfl) (by exact trivial) ?_
 refine Jg _ (by rfl) ?_
 simp -implicitDefEqProofs only [rX,↓rY,cells?,splice,↓reduceIte,Nat.reduceEqDiff,Nat.reduceAdd,reduceCtorEq,isC,aY,St.put]
 rw [fE]
 refine And.intro (by decide) ?_
 refine ⟨[.dead,.arr 3 (dX.map aG.enc),.arr 4 (eG.map P.Road.enc)],⟨⟨trivial,bA _,bA _,trivial⟩,trivial,yaC _,⟨trivial,trivial,trivial⟩,trivial⟩,?_⟩
 simp [Gv,aV,gvV,gvL,blk,wk,wkR,wkL,dX,eG,P.bG,P.sps,P.rds]
set_option maxRecDepth 20000
open Go.Fx.P (Arc aG)
theorem Ve {n:Int} {cut:List Int} (h:P.K.OkS n cut cut.length∧P.K.hasB cut 0=true∧P.K.hasB cut 1=false):uC n cut:=by
 obtain ⟨⟨hs⟩,c0,c1⟩:=h
 have:=CuS.all (n:=n) (cut:=cut) ⟨yak _,fun i hi _=>(hs i hi hi).1,fun i hi _=>by
  have:=(hs (i+1) hi hi).2 (by omega)
  rwa [Nat.add_sub_cancel,yaK,yac (by omega)] at this⟩
 rw [show hasB cut 0=true from c0,show hasB cut 1=false from c1] at this
 exact of_decide_eq_true this
def gY:List Arc:=[⟨2,3,5,0⟩,⟨4,5,3,0⟩,⟨6,7,6,0⟩,⟨8,9,4,0⟩,⟨0,2,5,0⟩,⟨0,4,3,0⟩,⟨9,1,4,0⟩,⟨3,6,9,1⟩,⟨5,6,9,2⟩,⟨7,8,9,1⟩,⟨5,8,1,5⟩]
theorem Rd:P.fI dX eG=0:=by
 rw [P.fI,if_neg (by decide),if_neg (by decide),if_pos]
 intro r hr
 rcases yaa.1 hr with rfl|hr
 ·exact ⟨by decide,by decide,by decide⟩
 rcases yaa.1 hr with rfl|hr
 ·exact ⟨by decide,by decide,by decide⟩
 rcases yaa.1 hr with rfl|hr
 ·exact ⟨by decide,by decide,by decide⟩
 rcases yaa.1 hr with rfl|hr
 ·exact ⟨by decide,by decide,by decide⟩
 ·cases hr
theorem oD:fQ dX eG:=⟨Rd,by decide,by decide⟩
def gZ:List Int:=[0,2,3,4,5,6,7,8]
theorem Dw {fr:P.Fr} (h:P.K.OkAc 10 gY 0 1 8 fr):fr.sent=4∧fr.flow=[4,0,4,4,4,0,4,4,0,4,0]:=by
 obtain ⟨sent,cost,flow,price,cut⟩:=fr
 obtain ⟨⟨hl,hp,hz⟩,hs,hv,_,⟨pl,p0,_,pa⟩,hc⟩:=h
 simp only at hl hp hz hs hv pl p0 pa hc ⊢
 match flow,hl with
 | [x0,x1,x2,x3,x4,x5,x6,x7,x8,x9,x10],_ =>
 match price,pl with
 | [q0,q1,q2,q3,q4,q5,q6,q7,q8,q9],_ =>
 have b0:=hp 0 (by simp) (by decide)
 have b1:=hp 1 (by simp) (by decide)
 have b2:=hp 2 (by simp) (by decide)
 have b3:=hp 3 (by simp) (by decide)
 have b4:=hp 4 (by simp) (by decide)
 have b5:=hp 5 (by simp) (by decide)
 have b6:=hp 6 (by simp) (by decide)
 have b7:=hp 7 (by simp) (by decide)
 have b8:=hp 8 (by simp) (by decide)
 have b9:=hp 9 (by simp) (by decide)
 have b10:=hp 10 (by simp) (by decide)
 have z2:=hz 2 (by decide) (by decide) (by decide) (by decide)
 have z3:=hz 3 (by decide) (by decide) (by decide) (by decide)
 have z4:=hz 4 (by decide) (by decide) (by decide) (by decide)
 have z5:=hz 5 (by decide) (by decide) (by decide) (by decide)
 have z6:=hz 6 (by decide) (by decide) (by decide) (by decide)
 have z7:=hz 7 (by decide) (by decide) (by decide) (by decide)
 have z8:=hz 8 (by decide) (by decide) (by decide) (by decide)
 have z9:=hz 9 (by decide) (by decide) (by decide) (by decide)
 simp [P.K.valTo,gY] at z2 z3 z4 z5 z6 z7 z8 z9 hv
 simp only [gY,yaq,yar] at b0 b1 b2 b3 b4 b5 b6 b7 b8 b9 b10
 rw [if_neg (by omega)] at hc
 obtain ⟨_,c0,c1,⟨ca⟩⟩:=hc
 have a0:=ca 0 (by decide) (by decide)
 have a1:=ca 1 (by decide) (by decide)
 have a2:=ca 2 (by decide) (by decide)
 have a3:=ca 3 (by decide) (by decide)
 have a4:=ca 4 (by decide) (by decide)
 have a5:=ca 5 (by decide) (by decide)
 have a6:=ca 6 (by decide) (by decide)
 have a7:=ca 7 (by decide) (by decide)
 have a8:=ca 8 (by decide) (by decide)
 have a9:=ca 9 (by decide) (by decide)
 have a10:=ca 10 (by decide) (by decide)
 simp only [gY,yaq,yar,yaF,yaG] at a0 a1 a2 a3 a4 a5 a6 a7 a8 a9 a10
 have e4:x6=4:=by
  apply Classical.byContradiction
  intro hne
  have n1:=c1
  have n9:P.K.hasB cut 9=false:=by
   cases e:P.K.hasB cut 9 with
   | false=>rfl
   | true=>exact absurd (a6.1 e n1) (by omega)
  have n8:P.K.hasB cut 8=false:=by
   cases e:P.K.hasB cut 8 with
   | false=>rfl
   | true=>exact absurd (a3.1 e n9) (by omega)
  have n7:P.K.hasB cut 7=false:=by
   cases e:P.K.hasB cut 7 with
   | false=>rfl
   | true=>exact absurd (a9.1 e n8) (by omega)
  have n6:P.K.hasB cut 6=false:=by
   cases e:P.K.hasB cut 6 with
   | false=>rfl
   | true=>exact absurd (a2.1 e n7) (by omega)
  have n3:P.K.hasB cut 3=false:=by
   cases e:P.K.hasB cut 3 with
   | false=>rfl
   | true=>exact absurd (a7.1 e n6) (by omega)
  have n2:P.K.hasB cut 2=false:=by
   cases e:P.K.hasB cut 2 with
   | false=>rfl
   | true=>exact absurd (a0.1 e n3) (by omega)
  exact absurd (a4.1 c0 n2) (by omega)
 have p10:=pa 0 (by decide)
 have p11:=pa 1 (by decide)
 have p12:=pa 2 (by decide)
 have p13:=pa 3 (by decide)
 have p14:=pa 4 (by decide)
 have p15:=pa 5 (by decide)
 have p16:=pa 6 (by decide)
 have p17:=pa 7 (by decide)
 have p18:=pa 8 (by decide)
 have p19:=pa 9 (by decide)
 have p20:=pa 10 (by decide)
 simp only [gY,yaq,yar,yaF,yaG,Int.reduceToNat] at p10 p11 p12 p13 p14 p15 p16 p17 p18 p19 p20
 have e1:x1=0:=by
  apply Classical.byContradiction
  intro hne
  have k4:¬(0+q0-q2<0):=fun hk=>by have:=p14.1 hk;omega
  have k0:¬(0+q2-q3<0):=fun hk=>by have:=p10.1 hk;omega
  have k7:¬(1+q3-q6<0):=fun hk=>by have:=p17.1 hk;omega
  have k5:¬(0<0+q0-q4):=fun hk=>by have:=p15.2 hk;omega
  have k1:¬(0<0+q4-q5):=fun hk=>by have:=p11.2 hk;omega
  have k9:¬(1+q7-q8<0):=fun hk=>by have:=p19.1 hk;omega
  have k2:¬(0+q6-q7<0):=fun hk=>by have:=p12.1 hk;omega
  rcases (by omega:0<x8∨0<x10) with h8|h10
  ·have k8:¬(0<2+q5-q6):=fun hk=>by have:=p18.2 hk;omega
   omega
  ·have k10:¬(0<5+q5-q8):=fun hk=>by have:=p20.2 hk;omega
   omega
 refine ⟨by omega,?_⟩
 rw [show x0=4 by omega,show x2=4 by omega,show x3=4 by omega,show x4=4 by omega,show x5=0 by omega,show x7=4 by omega,show x8=0 by omega,show x9=4 by omega,show x10=0 by omega,e1,e4]
theorem Zq {fr:P.Fr} (h:P.K.OkAc 10 gY 0 1 8 fr) (ht:P.K.Tight gY 0 8 fr):fr.cut=gZ:=by
 obtain ⟨g1,g2⟩:=Dw h
 have hc:=h.hc
 rw [if_neg (by omega)] at hc
 obtain ⟨⟨hs⟩,c0,c1,⟨ca⟩⟩:=hc
 rw [g2] at ca
 have ht:=ht (by omega)
 rw [g2] at ht
 obtain ⟨sent,cost,flow,price,cut⟩:=fr
 simp only at hs c0 c1 ca ht ⊢
 have m0:=c0
 have a0:=ca 0 (by decide) (by decide)
 have a1:=ca 1 (by decide) (by decide)
 have a2:=ca 2 (by decide) (by decide)
 have a4:=ca 4 (by decide) (by decide)
 have a5:=ca 5 (by decide) (by decide)
 have a7:=ca 7 (by decide) (by decide)
 have a9:=ca 9 (by decide) (by decide)
 simp only [gY,yaq,yar,yaF,yaG] at a0 a1 a2 a4 a5 a7 a9
 have m2:P.K.hasB cut 2=true:=by
  cases e:P.K.hasB cut 2 with
  | true=>rfl
  | false=>exact absurd (a4.1 m0 e) (by decide)
 have m3:P.K.hasB cut 3=true:=by
  cases e:P.K.hasB cut 3 with
  | true=>rfl
  | false=>exact absurd (a0.1 m2 e) (by decide)
 have m6:P.K.hasB cut 6=true:=by
  cases e:P.K.hasB cut 6 with
  | true=>rfl
  | false=>exact absurd (a7.1 m3 e) (by decide)
 have m7:P.K.hasB cut 7=true:=by
  cases e:P.K.hasB cut 7 with
  | true=>rfl
  | false=>exact absurd (a2.1 m6 e) (by decide)
 have m8:P.K.hasB cut 8=true:=by
  cases e:P.K.hasB cut 8 with
  | true=>rfl
  | false=>exact absurd (a9.1 m7 e) (by decide)
 have m4:P.K.hasB cut 4=true:=by
  cases e:P.K.hasB cut 4 with
  | true=>rfl
  | false=>exact absurd (a5.1 m0 e) (by decide)
 have m5:P.K.hasB cut 5=true:=by
  cases e:P.K.hasB cut 5 with
  | true=>rfl
  | false=>exact absurd (a1.1 m4 e) (by decide)
 have m9:(9:Int)∉cut:=by
  intro hm
  obtain ⟨i,⟨hi,hr⟩,hd,hsr⟩:=ht 9 hm (by decide)
  have hk:∀ i,i<22→0<P.K.wrm gY [4,0,4,4,4,0,4,4,0,4,0] i→(P.K.wdst gY i:Int)=9→(P.K.wsrc gY i:Int)=1:=by decide
  rw [hk i (by have:gY.length=11:=rfl;omega) hr hd] at hsr
  exact of_decide_eq_false c1 hsr
 have hP:=Ve (n:=10) ⟨⟨hs⟩,c0,c1⟩
 refine pF (r:=(·<·)) (fun a=>Int.lt_irrefl a) (fun a b c=>Int.lt_trans) hP.2.1 (by decide) fun x=>⟨fun hx=>?_,fun hx=>?_⟩
 ·have hb:=hP.1 x hx
  have h9:x≠9:=fun e=>m9 (e▸hx)
  have:x=0∨x=2∨x=3∨x=4∨x=5∨x=6∨x=7∨x=8:=by omega
  simpa [gZ] using this
 ·simp only [gZ,yaa,yai,or_false] at hx
  rcases hx with rfl|rfl|rfl|rfl|rfl|rfl|rfl|rfl
  ·exact of_decide_eq_true m0
  ·exact of_decide_eq_true m2
  ·exact of_decide_eq_true m3
  ·exact of_decide_eq_true m4
  ·exact of_decide_eq_true m5
  ·exact of_decide_eq_true m6
  ·exact of_decide_eq_true m7
  ·exact of_decide_eq_true m8
theorem Uw:Ok 29 [P.bG dX eG] (IsQ (fun fr=>P.lD dX eG fr∧P.K.Tight gY 0 8 fr) (fun fr=>.tup [fr.enc,.i 0]) (fun _=>[])):=P.acE dX eG ⟨Rd,by decide,by decide⟩
set_option maxRecDepth 20000
open Go.Fx.P (Arc aG)
structure ExP (fr:P.Fr):Prop where
 acc:P.sL dX eG fr=0
 sent:fr.sent=4
 flow:fr.flow=[4,0,4,4,4,0,4,4,0,4,0]
 cut:fr.cut=gZ
theorem ExP.of {fr:P.Fr} (h:P.lD dX eG fr∧P.K.Tight gY 0 8 fr):ExP fr:=by
 have ha:P.K.OkAc 10 gY 0 1 8 fr:=h.1.acc
 exact ⟨h.1.acc0,(Dw ha).1,(Dw ha).2,Zq ha h.2⟩
def exR (place n:Int) (s:Bs):Rf:=⟨place,n,9,4,gZ,5,6,1,s⟩
def exS (k:Int) (place n:Int):Bs:=mP (keyK k) 410 (partsOf (exR place n z16))
theorem yV {fr:P.Fr} (h:ExP fr) (k place n:Int):rf0 (keyK k) fr place n 9 5 6=exR place n z16∧rf1 (keyK k) fr place n 9 5 6=exR place n (exS k place n):=by
 have e:rf0 (keyK k) fr place n 9 5 6=exR place n z16:=by
  unfold rf0 exR keyK
  rw [h.sent,h.cut]
 refine ⟨e,?_⟩
 unfold rf1
 rw [e];rfl
theorem Iy (k place n:Int) (hk:k=place+1) (hp:place=0∧0≤n∧n<5∨place=1∧0≤n∧n<3):vE (keyK k) dX place n 9 5 6:=by
 subst hk
 rcases hp with ⟨rfl,h1,h2⟩|⟨rfl,h1,h2⟩
 ·exact ⟨⟨1,1,5⟩,by decide,by decide,by decide,by decide,by decide,h1,h2⟩
 ·exact ⟨⟨1,2,3⟩,by decide,by decide,by decide,by decide,by decide,h1,h2⟩
theorem Rc {fr:P.Fr} (h:ExP fr):mkE (keyK 1) dX eG fr 0 4 9 5 6=0∧mkR (keyK 1) dX eG fr 0 4 9 5 6=exR 0 4 (exS 1 0 4):=by
 have:=Yw (Iy 1 0 4 rfl (by decide)) h.acc (by rw [h.flow];decide)
 rw [(yV h 1 0 4).2] at this
 exact this
theorem Ra {fr:P.Fr} (h:ExP fr):mkE (keyK 1) dX eG fr 0 3 9 5 6=4∧mkR (keyK 1) dX eG fr 0 3 9 5 6=zRf:=adB (Iy 1 0 3 rfl (by decide)) h.acc (by rw [h.flow];decide)
theorem Rb {fr:P.Fr} (h:ExP fr) {n:Int} (hn:0≤n∧n<3):mkE (keyK 2) dX eG fr 1 n 9 5 6=0∧mkR (keyK 2) dX eG fr 1 n 9 5 6=exR 1 n (exS 2 1 n):=by
 have:=Yw (Iy 2 1 n rfl (.inr ⟨rfl,hn⟩)) h.acc (by rw [h.flow];simp;omega)
 rw [(yV h 2 1 n).2] at this
 exact this
theorem Dx {place n:Int} {s:Bs} (hp:0≤place∧place≤5∧0≤n∧n≤5):(exR place n s).Ok:=by
 have hc:In64 gZ∧gZ.length≤1000000:=by unfold In64;decide
 refine ⟨?_,hc.1,hc.2⟩
 intro x hx
 simp only [exR,yaa,yai,or_false] at hx
 omega
def exL:List Rf:=[exR 0 4 (exS 1 0 4),exR 1 0 (exS 2 1 0),exR 1 1 (exS 2 1 1),exR 1 2 (exS 2 1 2)]
theorem Zs:Jk dX eG exL=(-1,0):=by kernel_rfl
theorem Uy:Zi dX gZ=[3]:=by decide
theorem Ux:Zh dX eG gZ=[]:=by decide
theorem Uz:oJ 10 gZ=true:=by decide
theorem Zr:bnd gY gZ=4:=by kernel_rfl
def yW (s:Bs):Rf:=⟨0,4,9,4,[0,2,3,4,5,6,7],5,6,1,s⟩
theorem Zp (s:Bs):tV dX eG (yW s)=110:=by kernel_rfl
theorem Uv:Ad [keyK 1]:=⟨fun k hk=>by rw [List.mem_singleton.1 hk];decide,List.pairwise_singleton _ _⟩
theorem Uu:Vg [keyK 1] dX (exR 0 4 (exS 1 0 4))=0:=by
 have h1:f6 dX (exR 0 4 (exS 1 0 4)).place=some ⟨1,1,5⟩:=by decide
 have h2:o6 [keyK 1] (1000+1) 1=some (keyK 1):=by rfl
 have h3:Rw (keyK 1) 5 6=true:=by decide
 unfold Vg
 rw [h1]
 show Rz [keyK 1] (1000+1) 1 410 (partsOf (exR 0 4 (exS 1 0 4))) (exS 1 0 4) 5 6=0
 unfold Rz
 rw [h2]
 simp only [h3]
 rw [if_neg (by simp)]
 exact if_pos rfl
set_option maxRecDepth 20000
open Go.Fx.P (Arc aG)
def pt:Nat→LCode→LCode
 | 0,.seq a _=>a
 | n+1,.seq _ b=>pt n b
 | _,c=>c
theorem c9_parts:c9=.seq (pt 0 c9) (.seq (pt 1 c9) (.seq (pt 2 c9) (.seq (pt 3 c9) (.seq (pt 4 c9) (.seq (pt 5 c9) (.seq (pt 6 c9) (.seq (pt 7 c9) (.seq (pt 8 c9) (.seq (pt 9 c9) (.seq (pt 10 c9) (.seq (pt 11 c9) (.seq (pt 12 c9) (.seq (pt 13 c9) (.seq (pt 14 c9) (pt 15 c9))))))))))))))):=by rfl
abbrev cT:Cx:=cxN Tryz.prog []
structure E1 (e:Env):Prop where
 g1:get e 1=.ptr 0 0 0
 g2:get e 2=.ptr 1 0 0
 g3:get e 3=.ptr 2 0 0
abbrev exH (fr:P.Fr):List Blk:=[.var [P.sps dX,P.rds eG],.var [.i 5,.i 6],.var [.i fr.sent,.i fr.cost,P.li fr.flow,P.li fr.price,P.li fr.cut]]
section
variable {N R:St→Prop} {X:Nat→St→Prop} {e:Env} {b:Nat} {fr:P.Fr}
theorem agF (hN:N ⟨[(0,.b false)],[],0⟩):aw cT (pt 0 c9) N X R ⟨[],[],0⟩:=by
 conv=>arg 2;whnf
 simp -implicitDefEqProofs only [rX,aA]
 exact hN
theorem agE (hN:∀ e,get e 1=.ptr 0 0 0→N ⟨e,[.var [P.sps dX,P.rds eG]],0⟩):aw cT (pt 1 c9) N X R ⟨e,[],0⟩:=by
 conv=>arg 2;whnf
 simp -implicitDefEqProofs only [rX]
 refine aE ahQ ⟨trivial,trivial⟩ rfl trivial ?_
 unfold P.bG
 simp -implicitDefEqProofs only [rX,↓rY,aA,cells?,splice,↓reduceIte,Nat.reduceEqDiff,Nat.reduceAdd,aC,isC,aY]
 refine ⟨rfl,hN _ ?_⟩
 rfl
theorem agD (h1:get e 1=.ptr 0 0 0) (hN:∀ e,get e 1=.ptr 0 0 0→get e 2=.ptr 1 0 0→N ⟨e,[.var [P.sps dX,P.rds eG],.var [.i 5,.i 6]],1⟩):aw cT (pt 2 c9) N X R ⟨e,[.var [P.sps dX,P.rds eG]],0⟩:=by
 conv=>arg 2;whnf
 simp -implicitDefEqProofs only [rX,↓rY,aA,cells?,splice,↓reduceIte,Nat.reduceEqDiff,Nat.reduceAdd,aC,bQ,isC,Nat.reduceLeDiff,aY]
 refine hN _ ?_ ?_
 ·exact h1
 ·rfl
theorem agC (h1:get e 1=.ptr 0 0 0) (h2:get e 2=.ptr 1 0 0) (hN:∀ e fr,ExP fr→E1 e→get e 4=.i 0→N ⟨e,exH fr,2⟩):aw cT (pt 3 c9) N X R ⟨e,[.var [P.sps dX,P.rds eG],.var [.i 5,.i 6]],1⟩:=by
 conv=>arg 2;whnf
 simp -implicitDefEqProofs only [rX,↓rY,↓reduceIte,Nat.reduceAdd,h1]
 refine eH (fun fr=>P.lD dX eG fr∧P.K.Tight gY 0 8 fr) [] [] [] [P.bG dX eG] (fun fr=>.tup [fr.enc,.i 0]) [] (fun _=>[]) Uw ⟨by simp,by simp⟩ ⟨rfl,by simp⟩ rfl ⟨⟨aZ.1,trivial⟩,aZ.2,trivial⟩ fun fr hfr=>⟨trivial,?_⟩
 simp -implicitDefEqProofs only [rX,↓rY,aA,cells?,splice,↓reduceIte,Nat.reduceEqDiff,Nat.reduceAdd,aC,bU,bD,kill,bN,St.kill,isC,aY,P.Fr.enc,P.li,bH,ren,cJ,lY,oC]
 refine hN _ fr (ExP.of hfr) ?_ ?_
 ·exact ⟨h1,h2,rfl⟩
 ·rfl
theorem Uc {r:Rf} {f:Nat→Option Nat}:cJ f r.enc=r.enc:=by unfold Rf.enc P.li;simp [cJ,ren,mI]
theorem tA {r:Rf} {f:Nat→Option Nat} {E:Int}:ren f (.tup [.agg r.enc,.i E])=.tup [.agg r.enc,.i E]:=by simp [ren,cJ,Uc]
theorem Wq (hX:ExP fr):Ok 10 [.agg (keyK 1).enc,P.bG dX eG,fr.enc,.i 0,.i 4,.i 9,.agg [.i 5,.i 6]] (Is (.tup [.agg (exR 0 4 (exS 1 0 4)).enc,.i 0])):=by
 have:=Yr (keyK 1) dX eG fr 0 4 9 5 6 oD (by rw [(yV hX 1 0 4).1];exact Dx (by decide)) (by decide)
 rw [(Rc hX).1,(Rc hX).2] at this
 exact this
theorem Wn (hX:ExP fr):Ok 10 [.agg (keyK 1).enc,P.bG dX eG,fr.enc,.i 0,.i 3,.i 9,.agg [.i 5,.i 6]] (Is (.tup [.agg zRf.enc,.i 4])):=by
 have:=Yr (keyK 1) dX eG fr 0 3 9 5 6 oD (by rw [(yV hX 1 0 3).1];exact Dx (by decide)) (by decide)
 rw [(Ra hX).1,(Ra hX).2] at this
 exact this
theorem Wo (hX:ExP fr) {n:Int} (hn:0≤n∧n<3):Ok 10 [.agg (keyK 2).enc,P.bG dX eG,fr.enc,.i 1,.i n,.i 9,.agg [.i 5,.i 6]] (Is (.tup [.agg (exR 1 n (exS 2 1 n)).enc,.i 0])):=by
 have:=Yr (keyK 2) dX eG fr 1 n 9 5 6 oD (by rw [(yV hX 2 1 n).1];exact Dx (by omega)) (by decide)
 rw [(Rb hX hn).1,(Rb hX hn).2] at this
 exact this
theorem tL {h:List Blk} {g:Nat→Option Nat} {k:Ky} {ps:List aG} {rs:List P.Road} {place n w a b:Int}:aF h g [.agg k.enc,.agg [P.sps ps,P.rds rs],.agg [.i fr.sent,.i fr.cost,P.li fr.flow,P.li fr.price,P.li fr.cut],.i place,.i n,.i w,.agg [.i a,.i b]] ∧
  wkL [.agg k.enc,P.bG ps rs,fr.enc,.i place,.i n,.i w,.agg [.i a,.i b]] (aW h g [.agg k.enc,.agg [P.sps ps,P.rds rs],.agg [.i fr.sent,.i fr.cost,P.li fr.flow,P.li fr.price,P.li fr.cut],.i place,.i n,.i w,.agg [.i a,.i b]]) :=
 ⟨⟨gR.1,aZ.1,j5.1,trivial,trivial,trivial,⟨trivial,trivial,trivial⟩,trivial⟩,gR.2,aZ.2,j5.2,rfl,rfl,rfl,⟨rfl,rfl,trivial⟩,trivial⟩
theorem agB (hX:ExP fr) (hE:E1 e) (h4:get e 4=.i 0) (hN:∀ e,E1 e→get e 4=.i 0→get e 5=.ptr 3 0 0→get e 6=.i 0→N ⟨e,exH fr++[.var (exR 0 4 (exS 1 0 4)).enc],3⟩):aw cT (pt 4 c9) N X R ⟨e,exH fr,b⟩:=by
 obtain ⟨h1,h2,h3⟩:=hE
 have hl:(exR 0 4 (exS 1 0 4)).enc.length=24:=mR dW
 conv=>arg 2;whnf
 simp -implicitDefEqProofs only [rX,↓rY,rdK,aA,cells?,↓reduceIte,Nat.reduceEqDiff,Nat.reduceAdd,aC,aQ,h1,h2,h3]
 refine ⟨?_,?_⟩
 ·refine aE (Il 1 (by decide)) ⟨⟨trivial,trivial⟩,rfl,trivial⟩ rfl (by simp [aD,aB]) ?_
  simp -implicitDefEqProofs only [rX,↓rY,aA,cells?,↓reduceIte,Nat.reduceEqDiff,aC,aQ]
  refine ⟨?_,?_⟩ <;>
  ·refine aE (Wq hX) tL tA (by simp [aD,aB]) ?_
   simp -implicitDefEqProofs only [rX,↓rY,aA,cells?,splice,↓reduceIte,Nat.reduceEqDiff,Nat.reduceAdd,aC,aQ,hl,Ez,At]
   refine hN _ ⟨h1,h2,h3⟩ ?_ ?_ ?_
   ·exact h4
   ·rfl
   ·rfl
 ·refine aE (Il 1 (by decide)) ⟨⟨trivial,trivial⟩,rfl,trivial⟩ rfl (by simp [aD,aB]) ?_
  simp -implicitDefEqProofs only [rX,aA,↓reduceIte,Nat.reduceEqDiff,aQ]
  refine aE (Wq hX) tL tA (by simp [aD,aB]) ?_
  simp -implicitDefEqProofs only [rX,↓rY,cells?,splice,↓reduceIte,Nat.reduceEqDiff,Nat.reduceAdd,aQ,hl,Ez,At]
  refine hN _ ⟨h1,h2,h3⟩ ?_ ?_ ?_
  ·exact h4
  ·rfl
  ·rfl
abbrev exA:Rf:=exR 0 4 (exS 1 0 4)
theorem agA (hX:ExP fr) (hE:E1 e) (h4:get e 4=.i 0) (h5:get e 5=.ptr 3 0 0) (h6:get e 6=.i 0)
  (hN:∀ e,E1 e→get e 4=.i 0→get e 5=.ptr 3 0 0→get e 6=.i 0→get e 8=.i 4→N ⟨e,exH fr++[.var exA.enc,.var zRf.enc],4⟩):aw cT (pt 5 c9) N X R ⟨e,exH fr++[.var exA.enc],b⟩:=by
 obtain ⟨h1,h2,h3⟩:=hE
 have hl:zRf.enc.length=24:=mR (by simp [zRf,z16])
 conv=>arg 2;whnf
 generalize hA:exA.enc=AE at *
 simp -implicitDefEqProofs only [rX,↓rY,rdK,aA,cells?,↓reduceIte,Nat.reduceEqDiff,Nat.reduceAdd,aC,aQ,h1,h2,h3]
 refine ⟨?_,?_⟩
 ·refine aE (Il 1 (by decide)) ⟨⟨trivial,trivial⟩,rfl,trivial⟩ rfl (by simp [aD,aB]) ?_
  simp -implicitDefEqProofs only [rX,↓rY,aA,cells?,↓reduceIte,Nat.reduceEqDiff,aC,aQ]
  refine ⟨?_,?_⟩ <;>
  ·refine aE (Wn hX) tL tA (by simp [aD,aB]) ?_
   simp -implicitDefEqProofs only [rX,↓rY,aA,cells?,splice,↓reduceIte,Nat.reduceEqDiff,Nat.reduceAdd,aC,aQ,hl,Ez,At]
   refine hN _ ⟨h1,h2,h3⟩ ?_ ?_ ?_ ?_
   ·exact h4
   ·exact h5
   ·exact h6
   ·rfl
 ·refine aE (Il 1 (by decide)) ⟨⟨trivial,trivial⟩,rfl,trivial⟩ rfl (by simp [aD,aB]) ?_
  simp -implicitDefEqProofs only [rX,aA,↓reduceIte,Nat.reduceEqDiff,aQ]
  refine aE (Wn hX) tL tA (by simp [aD,aB]) ?_
  simp -implicitDefEqProofs only [rX,↓rY,cells?,splice,↓reduceIte,Nat.reduceEqDiff,Nat.reduceAdd,aQ,hl,Ez,At]
  refine hN _ ⟨h1,h2,h3⟩ ?_ ?_ ?_ ?_
  ·exact h4
  ·exact h5
  ·exact h6
  ·rfl
theorem afZ (h4:get e 4=.i 0) (h5:get e 5=.ptr 3 0 0) (h6:get e 6=.i 0) (h8:get e 8=.i 4) {h:List Blk} (hE:E1 e)
  (hN:∀ e b,E1 e→get e 5=.ptr 3 0 0→N ⟨e,h,b⟩):aw cT (pt 6 c9) N X R ⟨e,h,b⟩:=by
 obtain ⟨h1,h2,h3⟩:=hE
 conv=>arg 2;whnf
 simp -implicitDefEqProofs only [rX,↓rY,aA,↓reduceIte,Nat.reduceEqDiff,h4,h6,h8,bne_self_eq_false]
 refine hN _ _ ⟨h1,h2,h3⟩ ?_
 exact h5
theorem Yd {r:Rf}:r.enc.all isD=true:=by unfold Rf.enc P.li;simp [isD,afR]
theorem Nb {place n k a c:Int}:(exR place n (exS k a c)).enc.length=24:=mR dW
theorem Gj {place n k a c:Int}:yae 24 (exR place n (exS k a c)).enc=(exR place n (exS k a c)).enc:=Kh dW
theorem afY (hE:E1 e) (h5:get e 5=.ptr 3 0 0)
  (hN:∀ e,E1 e→get e 5=.ptr 3 0 0→get e 9=.sl 5 0 1→N ⟨e,exH fr++[.var exA.enc,.var zRf.enc,.arr 24 [exA.enc]],5⟩):aw cT (pt 7 c9) N X R ⟨e,exH fr++[.var exA.enc,.var zRf.enc],b⟩:=by
 obtain ⟨h1,h2,h3⟩:=hE
 conv=>arg 2;whnf
 simp -implicitDefEqProofs only [rX,↓rY,cells?,↓reduceIte,Nat.reduceAdd,aC,cI,Nat.reduceLT,aY,aQ,h5,rT,Dq,Dr,Iv,Gj,Nb,Yd]
 refine hN _ ⟨h1,h2,h3⟩ ?_ ?_
 ·exact h5
 ·rfl
theorem Ey {r:Rf} {l:List Nat}:bN l r.enc=r.enc:=by unfold Rf.enc P.li;simp [bN,kill,vZ]
theorem Pf {r:Rf}:bB r.enc r.enc=True:=eq_true (lX _)
theorem If {q:List Blk} {r:Rf}:wfL q r.enc=True:=eq_true abP
abbrev exB (j:Nat):Rf:=exR 1 j (exS 2 1 j)
abbrev h8 (fr:P.Fr) (j:Nat):List Blk:=exH fr++[.var exA.enc,.var zRf.enc,.arr 24 ((exL.take (j+1)).map Rf.enc)]
theorem afX (hX:ExP fr) (hE:E1 e) (h5:get e 5=.ptr 3 0 0) (h9:get e 9=.sl 5 0 1)
  (hN:∀ e b,E1 e→get e 5=.ptr 3 0 0→get e 9=.sl 5 0 4→N ⟨e,h8 fr 3,b⟩):aw cT (pt 8 c9) N X R ⟨e,h8 fr 0,b⟩:=by
 obtain ⟨h1,h2,h3⟩:=hE
 conv=>arg 2;whnf
 simp -implicitDefEqProofs only [rX,aA,Nat.reduceAdd,aQ]
 refine dB (fun j:Nat=>(⟨[(10,.i j),(9,.sl 5 0 (j+1)),(5,.ptr 3 0 0),(3,.ptr 2 0 0),(2,.ptr 1 0 0),(1,.ptr 0 0 0)],h8 fr j,0⟩:St)) (fun j=>j≤3) (fun j=>3-j) 0 (by decide) ?_ ?_
 ·simp -implicitDefEqProofs only [rX,↓reduceIte,Nat.reduceEqDiff,leE,leH,leB,leV,bB,aD,aB,wfE,wfB,wfV,wfL,h1,h2,h3,h5,h9,P.sps,P.rds,P.li,Pf,If]
  rfl
 intro j hj N' hN'
 simp only [c9l0]
 simp -implicitDefEqProofs only [rX,↓rY,rdK,aA,cells?,↓reduceIte,Nat.reduceEqDiff,Nat.reduceAdd,aC,aQ]
 cases hd:decide ((j:Int)<3) with
 | false =>
  have hd':=of_decide_eq_false hd
  have:j=3:=by omega
  subst this
  simp -implicitDefEqProofs only [↓rY,Nat.reduceAdd]
  refine hN _ _ ⟨?_,?_,?_⟩ ?_ ?_<;>rfl
 | true =>
  have hd':=of_decide_eq_true hd
  have hj3:j<3:=by omega
  have hLl:(yad Rf.enc (yae (j+1) exL)).length=j+1:=by
   rw [yax,yau]
   have:exL.length=4:=rfl
   omega
  have hLn:exL.take (j+1)++[exB j]=exL.take (j+1+1):=by
   match j,hj3 with
   | 0,_=>rfl
   | 1,_=>rfl
   | 2,_=>rfl
  have hfin:Blk.arr 24 (yae (j+1) (yad Rf.enc (yae (j+1) exL))++[(exR 1 (j:Int) (exS 2 1 j)).enc])=Blk.arr 24 (yad Rf.enc (yae (j+1+1) exL)):=by
   rw [←hLn,yag,yah (by omega)]
   rfl
  simp -implicitDefEqProofs only [↓rY]
  refine ⟨?_,?_⟩
  ·refine aE (Il 2 (by decide)) ⟨⟨trivial,trivial⟩,rfl,trivial⟩ rfl (by simp [aD,aB]) ?_
   simp -implicitDefEqProofs only [rX,↓rY,aA,cells?,↓reduceIte,Nat.reduceEqDiff,aC,aQ]
   refine ⟨?_,?_⟩ <;>
   ·refine aE (Wo hX (n:=j) (by omega)) tL tA (by simp [aD,aB]) ?_
    simp -implicitDefEqProofs only [rX,↓rY,aA,cells?,splice,↓reduceIte,Nat.reduceEqDiff,Nat.reduceAdd,reduceCtorEq,aC,cI,bU,bD,kill,bN,St.kill,Nat.reduceLT,aY,aQ,Nb,Ez,Yd,Gj,At,bne_self_eq_false,rT,Dq,Dr,Iv,hLl,Ey]
    refine ⟨by omega,⟨by simp only [lo];omega,by simp only [Fx.hi];omega⟩,hN' _ (j+1) (by omega) (by omega) ?_⟩
    simp -implicitDefEqProofs only [rX,↓reduceIte,Nat.reduceEqDiff,leE,leH,leB,leV,bB,aD,aB,wfE,wfB,wfV,wfL,kill,St.kill,P.sps,P.rds,P.li,Pf,If]
    exact ⟨by omega,hfin⟩
  ·refine aE (Il 2 (by decide)) ⟨⟨trivial,trivial⟩,rfl,trivial⟩ rfl (by simp [aD,aB]) ?_
   simp -implicitDefEqProofs only [rX,aA,↓reduceIte,Nat.reduceEqDiff,aQ]
   refine aE (Wo hX (n:=j) (by omega)) tL tA (by simp [aD,aB]) ?_
   simp -implicitDefEqProofs only [rX,↓rY,aA,cells?,splice,↓reduceIte,Nat.reduceEqDiff,Nat.reduceAdd,reduceCtorEq,aC,cI,bU,bD,kill,bN,St.kill,Nat.reduceLT,aY,aQ,Nb,Ez,Yd,Gj,At,bne_self_eq_false,rT,Dq,Dr,Iv,hLl,Ey]
   refine ⟨by omega,⟨by simp only [lo];omega,by simp only [Fx.hi];omega⟩,hN' _ (j+1) (by omega) (by omega) ?_⟩
   simp -implicitDefEqProofs only [rX,↓reduceIte,Nat.reduceEqDiff,leE,leH,leB,leV,bB,aD,aB,wfE,wfB,wfV,wfL,kill,St.kill,P.sps,P.rds,P.li,Pf,If]
   exact ⟨by omega,hfin⟩
end
set_option maxRecDepth 20000
open Go.Fx.P (Arc aG)
section
variable {N R:St→Prop} {X:Nat→St→Prop} {e:Env} {b:Nat} {fr:P.Fr}
abbrev hQ (fr:P.Fr):List Blk:=exH fr++[.var exA.enc,.var zRf.enc,.arr 24 (exL.map Rf.enc)]
theorem Fy {h:List Blk} {g:Nat→Option Nat} {ps:List aG} {rs:List P.Road} {l:List Int}:aF h g [.agg [P.sps ps,P.rds rs],P.li l]∧wkL [P.bG ps rs,P.li l] (aW h g [.agg [P.sps ps,P.rds rs],P.li l]):=⟨⟨aZ.1,trivial,trivial⟩,aZ.2,⟨rfl,rfl⟩,trivial⟩
theorem Re:exA.enc[4]?=some (P.li gZ):=rfl
theorem afW (hE:E1 e) (h5:get e 5=.ptr 3 0 0) (h9:get e 9=.sl 5 0 4)
  (hN:∀ e b,E1 e→get e 5=.ptr 3 0 0→get e 13=.i (-1)→get e 14=.i 0→N ⟨e,hQ fr,b⟩):aw cT (pt 9 c9) N X R ⟨e,hQ fr,b⟩:=by
 obtain ⟨h1,h2,h3⟩:=hE
 conv=>arg 2;whnf
 simp -implicitDefEqProofs only [rX,↓rY,↓reduceIte,Nat.reduceEqDiff,Nat.reduceAdd,h1,h9]
 have o:=ahV dX eG exL oD (by decide) (by intro r hr;simp only [exL,yaa,yai,or_false] at hr;rcases hr with rfl|rfl|rfl|rfl<;>exact dW) (by intro r hr;simp only [exL,yaa,yai,or_false] at hr;rcases hr with rfl|rfl|rfl|rfl<;>decide)
 rw [Zs] at o
 refine aE o ⟨⟨aZ.1,?_,trivial⟩,aZ.2,?_,trivial⟩ rfl trivial ?_
 ·simp [aJ,blk]
  decide
 ·simp [bP,wk,blk,wkB,aW]
  rfl
 simp -implicitDefEqProofs only [rX,↓rY,↓reduceIte,Nat.reduceEqDiff]
 refine hN _ _ ⟨h1,h2,h3⟩ ?_ ?_ ?_
 ·exact h5
 ·rfl
 ·rfl
theorem abI (hE:E1 e) (h5:get e 5=.ptr 3 0 0) (h13:get e 13=.i (-1)) (h14:get e 14=.i 0)
  (hN:∀ e b,E1 e→get e 5=.ptr 3 0 0→get e 13=.i (-1)→get e 14=.i 0→get e 15=P.li [3]→get e 16=P.li []→N ⟨e,hQ fr,b⟩):aw cT (pt 10 c9) N X R ⟨e,hQ fr,b⟩:=by
 obtain ⟨h1,h2,h3⟩:=hE
 conv=>arg 2;whnf
 simp -implicitDefEqProofs only [rX,↓rY,↓reduceIte,Nat.reduceEqDiff,Nat.reduceAdd,h1,h5,Re]
 have o:=ahX dX eG gZ oD (by decide)
 rw [Uy,Ux] at o
 refine aE o Fy rfl trivial ?_
 unfold P.li
 simp -implicitDefEqProofs only [rX,↓rY,↓reduceIte,Nat.reduceEqDiff]
 refine hN _ _ ⟨h1,h2,h3⟩ ?_ ?_ ?_ ?_ ?_
 ·exact h5
 ·exact h13
 ·exact h14
 ·rfl
 ·rfl
theorem abH (hE:E1 e) (h5:get e 5=.ptr 3 0 0) (h13:get e 13=.i (-1)) (h14:get e 14=.i 0) (h15:get e 15=P.li [3]) (h16:get e 16=P.li [])
  (hN:∀ e b,E1 e→get e 5=.ptr 3 0 0→get e 13=.i (-1)→get e 14=.i 0→get e 15=P.li [3]→get e 16=P.li []→get e 17=.i 4→get e 18=.i 0→N ⟨e,hQ fr,b⟩):aw cT (pt 11 c9) N X R ⟨e,hQ fr,b⟩:=by
 obtain ⟨h1,h2,h3⟩:=hE
 conv=>arg 2;whnf
 simp -implicitDefEqProofs only [rX,↓rY,↓reduceIte,Nat.reduceEqDiff,Nat.reduceAdd,h1,h5,Re]
 have o:=ahY dX eG gZ oD (by decide)
 rw [show oJ (P.nN dX) gZ=true from Uz,if_pos rfl,show bnd (P.cC dX eG) gZ=4 from Zr] at o
 refine aE o Fy rfl trivial ?_
 simp -implicitDefEqProofs only [rX,↓rY,↓reduceIte,Nat.reduceEqDiff]
 refine hN _ _ ⟨h1,h2,h3⟩ ?_ ?_ ?_ ?_ ?_ ?_ ?_
 ·exact h5
 ·exact h13
 ·exact h14
 ·exact h15
 ·exact h16
 ·rfl
 ·rfl
structure E2 (e:Env):Prop where
 g1:get e 1=.ptr 0 0 0
 g5:get e 5=.ptr 3 0 0
 g13:get e 13=.i (-1)
 g14:get e 14=.i 0
 g15:get e 15=P.li [3]
 g16:get e 16=P.li []
 g17:get e 17=.i 4
 g18:get e 18=.i 0
 g19:get e 19=.ptr 6 0 0
theorem abG (hE:E1 e) (h5:get e 5=.ptr 3 0 0) (h13:get e 13=.i (-1)) (h14:get e 14=.i 0) (h15:get e 15=P.li [3]) (h16:get e 16=P.li []) (h17:get e 17=.i 4) (h18:get e 18=.i 0)
  (hN:∀ e b,E2 e→N ⟨e,hQ fr++[.var exA.enc],b⟩):aw cT (pt 12 c9) N X R ⟨e,hQ fr,b⟩:=by
 obtain ⟨h1,h2,h3⟩:=hE
 conv=>arg 2;whnf
 simp -implicitDefEqProofs only [rX,↓rY,aA,cells?,splice,↓reduceIte,Nat.reduceEqDiff,Nat.reduceAdd,aC,aY,h5,Nb,Gj,Ez,At]
 refine hN _ _ ⟨?_,?_,?_,?_,?_,?_,?_,?_,?_⟩
 ·exact h1
 ·exact h5
 ·exact h13
 ·exact h14
 ·exact h15
 ·exact h16
 ·exact h17
 ·exact h18
 ·rfl
theorem abF (hE:E2 e) (hN:∀ e b,E2 e→N ⟨e,hQ fr++[.var (yW (exS 1 0 4)).enc],b⟩):aw cT (pt 13 c9) N X R ⟨e,hQ fr++[.var exA.enc],b⟩:=by
 obtain ⟨h1,h5,h13,h14,h15,h16,h17,h18,h19⟩:=hE
 conv=>arg 2;whnf
 have hl:(gZ.map P.encI).length=8:=rfl
 simp -implicitDefEqProofs only [rX,↓rY,aA,cells?,splice,↓reduceIte,Nat.reduceEqDiff,Nat.reduceAdd,dN,isC,aY,h19,Re,P.li,hl]
 intro _
 refine ⟨⟨by decide,by decide⟩,⟨⟨by decide,by decide⟩,by decide,by decide⟩,by rw [Nb];decide,?_⟩
 refine hN _ _ ⟨?_,?_,?_,?_,?_,?_,?_,?_,?_⟩
 ·exact h1
 ·exact h5
 ·exact h13
 ·exact h14
 ·exact h15
 ·exact h16
 ·exact h17
 ·exact h18
 ·exact h19
theorem abE (hE:E2 e) (hN:∀ e b h,get e 0=.b true→N ⟨e,h,b⟩):aw cT (pt 14 c9) N X R ⟨e,hQ fr++[.var (yW (exS 1 0 4)).enc],b⟩:=by
 obtain ⟨h1,h5,h13,h14,h15,h16,h17,h18,h19⟩:=hE
 conv=>arg 2;whnf
 simp -implicitDefEqProofs only [rX,↓rY,rdK,aA,cells?,↓reduceIte,Nat.reduceEqDiff,Nat.reduceAdd,aC,cI,isD,Nat.reduceLT,aQ,h1,h5,h13,h14,h15,h19,P.li,beq_self_eq_true]
 refine aE (ahW [3] (by decide)) (by simp [aF,aJ,aW,bP,wkL,wk,wkR,wkB,blk];rfl) rfl (by simp [aD,aB]) ?_
 have l1:(yW (exS 1 0 4)).enc.length=24:=mR dW
 have l2:yae 24 (yW (exS 1 0 4)).enc=(yW (exS 1 0 4)).enc:=Kh dW
 simp -implicitDefEqProofs only [rX,↓rY,rdK,aA,↓reduceIte,Nat.reduceEqDiff,Nat.reduceAdd,aQ,h1,h5,h16,h17,h18,h19,P.li,Int.natCast_zero,beq_self_eq_true,l1,l2]
 have o14:=Yp dX eG (yW (exS 1 0 4)) oD (by show (7:Nat)≤1000000;decide)
 rw [Zp] at o14
 intro _
 refine aE o14 ⟨⟨aZ.1,(fF rfl).1,trivial⟩,aZ.2,(fF rfl).2,trivial⟩ rfl (by simp [aD,aB]) ?_
 simp -implicitDefEqProofs only [rX,↓rY,rdK,aA,↓reduceIte,Nat.reduceEqDiff,Nat.reduceAdd,aQ,h1,h5,beq_self_eq_true,Nb,Gj]
 refine aE (Il 1 (by decide)) ⟨⟨trivial,trivial⟩,rfl,trivial⟩ rfl (by simp [aD,aB]) ?_
 unfold keyK Ky.enc
 simp -implicitDefEqProofs only [rX,↓rY,cells?,↓reduceIte,Nat.reduceEqDiff,Nat.reduceAdd,aC,cI,isD,Nat.reduceLT,aQ]
 have o16:=ahZ [keyK 1] dX eG exA oD (Dx (by decide)) Uv (by decide) dW
 rw [Uu] at o16
 refine aE o16 ⟨⟨?_,aZ.1,(fF rfl).1,trivial⟩,?_,aZ.2,(fF rfl).2,trivial⟩ rfl (by simp [aD,aB]) ?_
 ·simp [aJ,blk]
 ·simp [bP,wk,blk,wkB,aW,bK,keyK,Ky.enc]
 simp -implicitDefEqProofs only [rX,↓rY,aA,↓reduceIte,Nat.reduceEqDiff,beq_self_eq_true]
 refine hN _ _ _ ?_
 rfl
theorem abD {h:List Blk} (h0:get e 0=.b true):aw cT (pt 15 c9) N X (eS [] 0 [.tmp 0] (Is (.b true))) ⟨e,h,b⟩:=by
 conv=>arg 2;whnf
 simp -implicitDefEqProofs only [rX,aT,aV,wfV,h0]
end
theorem ok9:Ok 9 [] (Is (.b true)):=by
 refine ok_of lw9 (by simp) ?_
 rw [c9_parts]
 show aw cT _ _ _ _ ⟨[],[],0⟩
 rw [zc]
 refine agF ?_
 rw [zc]
 refine agE fun e h1=>?_
 rw [zc]
 refine agD h1 fun e h1 h2=>?_
 rw [zc]
 refine agC h1 h2 fun e fr hX hE h4=>?_
 rw [zc]
 refine agB hX hE h4 fun e hE h4 h5 h6=>?_
 rw [zc]
 refine agA hX hE h4 h5 h6 fun e hE h4 h5 h6 h8=>?_
 rw [zc]
 refine afZ h4 h5 h6 h8 hE fun e b hE h5=>?_
 rw [zc]
 refine afY hE h5 fun e hE h5 h9=>?_
 rw [zc]
 refine afX hX hE h5 h9 fun e b hE h5 h9=>?_
 rw [zc]
 refine afW hE h5 h9 fun e b hE h5 h13 h14=>?_
 rw [zc]
 refine abI hE h5 h13 h14 fun e b hE h5 h13 h14 h15 h16=>?_
 rw [zc]
 refine abH hE h5 h13 h14 h15 h16 fun e b hE h5 h13 h14 h15 h16 h17 h18=>?_
 rw [zc]
 refine abG hE h5 h13 h14 h15 h16 h17 h18 fun e b hE=>?_
 rw [zc]
 refine abF hE fun e b hE=>?_
 rw [zc]
 refine abE hE fun e b h h0=>?_
 exact abD h0
set_option maxRecDepth 20000
open Go.Fx.P (Arc aG)
theorem adQ {ps:List aG} {rs:List P.Road} (h:Qy ps rs=true):fQ ps rs:=by
 unfold Qy at h
 exact @of_decide_eq_true _ (Classical.propDecidable _) h
set_option maxRecDepth 20000
open Go.Fx.P (Arc aG)
theorem afQ {N:Nat} {arcs:List Arc} {x cut:List Int} (hV:P.K.Val N arcs) (hN:2≤N) (hx:P.K.OkF N arcs 0 1 x) (hc:uC N cut):P.K.valTo arcs 0 x arcs.length≤bnd arcs cut:=by
 have h0:(0:Int)∈cut:=yaI hc.2.2
 have h1:(1:Int)∉cut:=fun h=>(hc.1 1 h).2.2 rfl
 have hp:=P.K.pot_flow hV (f:=0) (t:=1) (by omega) (by omega) (by decide) x hx.hz (fun v=>if (v:Int)∈cut then 1 else 0)
 simp only [Int.toNat_zero,show Int.toNat 1=1 from rfl] at hp
 rw [if_pos (by exact h0),if_neg (by exact h1)] at hp
 rw [Int.sub_zero,Int.one_mul] at hp
 rw [←hp]
 have key:∀ k,k≤arcs.length→P.K.sm (fun j=>x.getD j 0*((if (((P.K.gA arcs j).from_.toNat:Nat):Int)∈cut then 1 else 0)-(if (((P.K.gA arcs j).to.toNat:Nat):Int)∈cut then 1 else 0))) k≤sH arcs cut k:=by
  intro k
  induction k with
  | zero=>intro _;rw [Si];exact Int.le_refl _
  | succ k ih =>
   intro hk
   have ih:=ih (by omega)
   have hkl:k<arcs.length:=by omega
   have hv:=hV.at hkl
   rw [P.K.gA_at hkl] at hv
   have hxk:0≤x.getD k 0∧x.getD k 0≤arcs[k].cap:=by
    have:=hx.hp k (by rw [hx.hl];exact hkl) hkl
    rw [yaK,yac (by rw [hx.hl];exact hkl)]
    exact this
   simp only [P.K.sm]
   rw [P.K.gA_at hkl,yaL hv.1.1,yaL hv.2.1.1]
   cases ho:gV cut arcs[k] with
   | true =>
    have ho':arcs[k].from_∈cut∧¬arcs[k].to∈cut:=by simpa [gV] using ho
    rw [Sf hkl ho,if_pos ho'.1,if_neg ho'.2]
    omega
   | false =>
    rw [Sg hkl ho]
    have ho':arcs[k].from_∈cut→arcs[k].to∈cut:=by simpa [gV] using ho
    by_cases ha:arcs[k].from_∈cut
    ·rw [if_pos ha,if_pos (ho' ha)]
     omega
    ·rw [if_neg ha]
     split<;>omega
 exact key _ (yak _)
set_option maxRecDepth 20000
open Go.Fx.P (Arc aG)
theorem aiB {ps:List aG}:2≤P.nN ps:=by unfold P.nN;omega
theorem Ni {ps:List aG} {rs:List P.Road} (hF:fQ ps rs) {r:Rf} (h:tV ps rs r=0) {x:List Int} (hx:P.K.OkF (P.nN ps) (P.cC ps rs) 0 1 x):P.K.valTo (P.cC ps rs) 0 x (P.cC ps rs).length≤r.sent∧r.sent<P.dem ps:=by
 have hs:=(Sa h).1
 unfold i4 at hs
 simp only [yan,beq_iff_eq,decide_eq_true_eq] at hs
 obtain ⟨⟨⟨h1,h2⟩,h3⟩,_⟩:=hs
 have:=afQ hF.net aiB hx (of_decide_eq_true h1)
 exact ⟨by omega,h3⟩
set_option maxHeartbeats 1000000 in
theorem ok7 (ps:List aG) (rs:List P.Road) (r:Rf) (hsg:r.sg.length=16):Ok 7 [P.bG ps rs,.agg r.enc] (Is (.b true)):=by
 refine ok_of lw7 (by simp) ?_
 have hl:=mR hsg
 have htk:=Kh hsg
 unfold c7 P.bG
 generalize hre:r.enc=re
 have h4:re[4]?=some (.ro 1 (r.cut.map P.encI)):=by rw [←hre];rfl
 rw [hre] at hl htk
 simp -implicitDefEqProofs only [rX,↓rY,aA,cells?,↓reduceIte,Nat.reduceEqDiff,Nat.reduceAdd,reduceCtorEq,aC,aK]
 refine aE (ok8 ps rs) ⟨⟨aZ.1,trivial⟩,aZ.2,trivial⟩ rfl trivial ?_
 cases hf:Qy ps rs with
 | false =>
  simp -implicitDefEqProofs only [rX,↓rY,aA,↓reduceIte,Nat.reduceEqDiff,Nat.reduceAdd]
  refine aE ok9 ⟨trivial,trivial⟩ rfl trivial ?_
  simp -implicitDefEqProofs only [rX,↓reduceIte,aT,aV,wfV]
 | true =>
 have hF:=adQ hf
 simp -implicitDefEqProofs only [rX,↓rY,aA,↓reduceIte,Nat.reduceEqDiff,Nat.reduceAdd,h4]
 intro _
 cases d1:decide (40<(r.cut.length:Int)) with
 | true =>
  simp -implicitDefEqProofs only [↓rY]
  refine aE ok9 ⟨trivial,trivial⟩ rfl trivial ?_
  simp -implicitDefEqProofs only [rX,↓reduceIte,aT,aV,wfV]
 | false =>
 have d1':=of_decide_eq_false d1
 simp -implicitDefEqProofs only [↓rY]
 refine eH (fun fr=>P.lD ps rs fr∧P.K.Tight (P.cC ps rs) 0 (P.dem ps) fr) [] [] [] [P.bG ps rs] (fun fr=>.tup [fr.enc,.i 0]) [] (fun _=>[]) (P.acE ps rs ⟨hF.ok,by have:=hF.pl;omega,by have:=hF.rl;omega⟩) ⟨by simp,by simp⟩ ⟨rfl,by simp⟩ rfl ⟨⟨aZ.1,trivial⟩,aZ.2,trivial⟩ fun fr hfr=>⟨trivial,?_⟩
 simp -implicitDefEqProofs only [rX,↓rY,rdK,aA,cells?,splice,↓reduceIte,Nat.reduceEqDiff,Nat.reduceAdd,aC,aT,aV,wfV,bU,bD,kill,bN,St.kill,isC,aY,aQ,P.Fr.enc,P.li,bH,ren,cJ,oC,gB,bne_self_eq_false]
 refine aE hF.e28 ⟨⟨aZ.1,trivial⟩,aZ.2,trivial⟩ rfl (by simp [aD,aB]) ?_
 cases d2:(fr.sent != P.dem ps) with
 | true =>
  simp -implicitDefEqProofs only [rX,↓rY,↓reduceIte,Nat.reduceEqDiff,Nat.reduceAdd,d2]
  refine aE ok9 ⟨trivial,trivial⟩ rfl trivial ?_
  simp -implicitDefEqProofs only [rX,↓reduceIte,aT,aV,wfV]
 | false =>
  have d2':fr.sent=P.dem ps:=by simpa using d2
  simp -implicitDefEqProofs only [rX,↓rY,↓reduceIte,Nat.reduceEqDiff,Nat.reduceAdd,d2]
  refine aE ok9 ⟨trivial,trivial⟩ rfl trivial ?_
  simp -implicitDefEqProofs only [rX,↓rY,↓reduceIte,Nat.reduceEqDiff,Nat.reduceAdd,hl,htk]
  refine aE (Yp ps rs r hF (by omega)) ⟨⟨aZ.1,(fF hre.symm).1,trivial⟩,aZ.2,(fF hre.symm).2,trivial⟩ rfl trivial ?_
  have hne:(tV ps rs r != 0)=true:=by
   rw [bne_iff_ne]
   intro h0
   have hv:=hfr.1.acc.hv
   obtain ⟨w1,w2⟩:=Ni hF h0 hfr.1.acc.fl
   have:P.K.valTo (P.cC ps rs) 0 fr.flow (P.cC ps rs).length=fr.sent:=hv
   omega
  simp -implicitDefEqProofs only [rX,↓rY,aA,↓reduceIte,Nat.reduceEqDiff,aT,aV,wfV,hne]
set_option maxRecDepth 20000
open Go.Fx.P (Arc aG)
theorem adP {f:FuncId} {xs:List V} (h:Ok f xs (Is (.b true))):Fn Tryz.prog f xs [] [] (fun r _=>r=.b true):=(Pu h fun r h' hr=>hr.1).2
abbrev tI:Fx.T:=.int .i64
abbrev tLi:Fx.T:=.sl 1 tI
abbrev tPl:Fx.T:=.st [.sl 3 (.st [tI,tI,tI]),.sl 4 (.st [tI,tI,tI,tI])]
abbrev tPe:Fx.T:=.st [tI,tI]
abbrev tSg:Fx.T:=.st (yaE 16 (.int .u8))
abbrev tRf:Fx.T:=.st [tI,tI,tI,tI,tLi,tPe,tI,tSg]
theorem mG {k:IntKind} {x:List V} (h:WfT (.int k) x):∃ n:Int,x=[.v (.int k n)]∧lo k≤n∧n≤hi k:=by
 simpa only [WfT] using h
theorem eY {t:Fx.T} {ts:List Fx.T} {x:List V} (h:l9 (t::ts) x):∃ a b,x=a++b∧WfT t a∧l9 ts b:=by
 rwa [l9.eq_2] at h
theorem exM {α β:Type} {g:α→β} {p:α→Prop}:∀ {els:List β},(∀ x∈els,∃ a,x=g a∧p a)→∃ l:List α,els=l.map g∧∀ a∈l,p a
 | [],_=>⟨[],rfl,by simp⟩
 | x::r,h=>by
  obtain ⟨a,rfl,ha⟩:=h x yav
  obtain ⟨l,rfl,hl⟩:=exM (els:=r) fun y hy=>h y (yal _ hy)
  exact ⟨a::l,rfl,fun b hb=>(yaa.1 hb).elim (fun e=>e▸ha) (hl b)⟩
theorem uM {n:Int} (h:lo .i64≤n∧n≤hi .i64):-9223372036854775808≤n∧n≤9223372036854775807:=h
theorem aaV {x:List V} (h:WfT tLi x):∃ l:List Int,x=[P.li l]∧In64 l:=by
 rw [WfT] at h
 obtain ⟨els,rfl,_,he⟩:=h
 obtain ⟨l,rfl,hl⟩:=exM (g:=P.encI) (p:=fun n=>-9223372036854775808≤n∧n≤9223372036854775807) fun x hx=>by
  obtain ⟨n,e,hn⟩:=mG (he x hx)
  exact ⟨n,e,uM hn⟩
 exact ⟨l,rfl,hl⟩
theorem wf_sp {x:List V} (h:WfT (.st [tI,tI,tI]) x):∃ a:aG,x=a.enc:=by
 simp only [WfT,l9] at h
 obtain ⟨_,_,rfl,⟨a,rfl,_⟩,_,_,rfl,⟨b,rfl,_⟩,_,_,rfl,⟨c,rfl,_⟩,rfl⟩:=h
 exact ⟨⟨a,b,c⟩,rfl⟩
theorem wf_rd {x:List V} (h:WfT (.st [tI,tI,tI,tI]) x):∃ a:P.Road,x=a.enc:=by
 simp only [WfT,l9] at h
 obtain ⟨_,_,rfl,⟨a,rfl,_⟩,_,_,rfl,⟨b,rfl,_⟩,_,_,rfl,⟨c,rfl,_⟩,_,_,rfl,⟨d,rfl,_⟩,rfl⟩:=h
 exact ⟨⟨a,b,c,d⟩,rfl⟩
theorem wf_plant {x:V} (h:WfV tPl x):∃ ps rs,x=P.bG ps rs:=by
 obtain ⟨cs,h,rfl⟩:=h
 obtain ⟨_,_,rfl,q0,h⟩:=eY h
 obtain ⟨_,_,rfl,q1,h⟩:=eY h
 rw [l9.eq_1] at h
 subst h
 rw [WfT] at q0 q1
 obtain ⟨els,rfl,_,he⟩:=q0
 obtain ⟨els',rfl,_,he'⟩:=q1
 obtain ⟨ps,rfl,_⟩:=exM (g:=aG.enc) (p:=fun _=>True) fun x hx=>(wf_sp (he x hx)).imp fun a e=>⟨e,trivial⟩
 obtain ⟨rs,rfl,_⟩:=exM (g:=P.Road.enc) (p:=fun _=>True) fun x hx=>(wf_rd (he' x hx)).imp fun a e=>⟨e,trivial⟩
 exact ⟨ps,rs,rfl⟩
theorem aaU {x:List V} (h:WfT tPe x):∃ a b:Int,x=[.i a,.i b]∧In64 [a,b]:=by
 rw [WfT] at h
 obtain ⟨_,_,rfl,q0,h⟩:=eY h
 obtain ⟨_,_,rfl,q1,h⟩:=eY h
 rw [l9.eq_1] at h
 subst h
 obtain ⟨n0,rfl,h0⟩:=mG q0
 obtain ⟨n1,rfl,h1⟩:=mG q1
 refine ⟨n0,n1,rfl,fun x hx=>?_⟩
 simp only [yaa,yai,or_false] at hx
 rcases hx with rfl|rfl
 ·exact uM h0
 ·exact uM h1
theorem Vy:∀ {n:Nat} {x:List V},l9 (yaE n (.int .u8)) x→∃ l:Bs,l.length=n∧x=us l
 | 0,x,h=>⟨[],rfl,by simpa [l9,us] using h⟩
 | n+1,x,h=>by
  rw [yaJ] at h
  obtain ⟨_,_,e0,q0,hr⟩:=eY h
  obtain ⟨m,rfl,h0⟩:=mG q0
  obtain ⟨l,rfl,rfl⟩:=Vy hr
  subst e0
  obtain ⟨k,rfl⟩:=Int.eq_ofNat_of_zero_le (show 0≤m from h0.1)
  have hk:k<256:=by
   have:(k:Int)≤255:=h0.2
   omega
  refine ⟨UInt8.ofNat k::l,rfl,?_⟩
  have e:(UInt8.ofNat k).toNat=k:=by simp;omega
  simp [us,u8,e]
theorem aaT {x:List V} (h:WfT tRf x):∃ r:Rf,x=r.enc∧r.sg.length=16∧In64 [r.place,r.n,r.win,r.sent,r.lo,r.hi,r.serial]∧In64 r.cut:=by
 rw [WfT] at h
 obtain ⟨_,_,rfl,q0,h⟩:=eY h
 obtain ⟨_,_,rfl,q1,h⟩:=eY h
 obtain ⟨_,_,rfl,q2,h⟩:=eY h
 obtain ⟨_,_,rfl,q3,h⟩:=eY h
 obtain ⟨_,_,rfl,q4,h⟩:=eY h
 obtain ⟨_,_,rfl,q5,h⟩:=eY h
 obtain ⟨_,_,rfl,q6,h⟩:=eY h
 obtain ⟨_,_,rfl,q7,h⟩:=eY h
 rw [l9.eq_1] at h
 subst h
 obtain ⟨n0,rfl,h0⟩:=mG q0
 obtain ⟨n1,rfl,h1⟩:=mG q1
 obtain ⟨n2,rfl,h2⟩:=mG q2
 obtain ⟨n3,rfl,h3⟩:=mG q3
 obtain ⟨l,rfl,hl⟩:=aaV q4
 obtain ⟨a,b,rfl,hab⟩:=aaU q5
 obtain ⟨n6,rfl,h6⟩:=mG q6
 rw [WfT] at q7
 obtain ⟨s,hs,rfl⟩:=Vy q7
 refine ⟨⟨n0,n1,n2,n3,l,a,b,n6,s⟩,by simp [Rf.enc],hs,fun x hx=>?_,hl⟩
 simp only [yaa,yai,or_false] at hx
 rcases hx with rfl|rfl|rfl|rfl|rfl|rfl|rfl
 ·exact uM h0
 ·exact uM h1
 ·exact uM h2
 ·exact uM h3
 ·exact hab _ (by simp)
 ·exact hab _ (by simp)
 ·exact uM h6
theorem aaQ {x:V} (h:WfV tRf x):∃ r:Rf,x=.agg r.enc∧r.sg.length=16∧In64 [r.place,r.n,r.win,r.sent,r.lo,r.hi,r.serial]∧In64 r.cut:=by
 obtain ⟨cs,h,rfl⟩:=h
 obtain ⟨r,rfl,h1⟩:=aaT (by rw [WfT];exact h)
 exact ⟨r,rfl,h1⟩
theorem fn7:∀ xs,WfA [tPl,tRf] xs→Fn Tryz.prog 7 xs [] [] (fun r _=>r=.b true):=by
 intro xs h
 obtain ⟨x1,_,rfl,h1,x2,_,rfl,h2,h⟩:=h
 obtain rfl:_=[]:=h
 obtain ⟨ps,rs,rfl⟩:=wf_plant h1
 obtain ⟨r,rfl,hr,_⟩:=aaQ h2
 exact adP (ok7 ps rs r hr)
end Go.Fx.E
