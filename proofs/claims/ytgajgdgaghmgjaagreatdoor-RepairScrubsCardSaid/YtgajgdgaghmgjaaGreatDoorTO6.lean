import Derived.Test.YtgajgdgaghmgjaaGreatDoorTE5
import Derived.Test.YtgajgdgaghmgjaaGreatDoorKCode
import Derived.Shelf.SlSortCmp.WholeK
import Derived.Shelf.SlSortCmp.NoneTotal
import Derived.Shelf.Sort.Plain
import Derived.Ground.Names2Prog
import Derived.Shelf.Slices.In.SortNone
import Derived.Shelf.SlGeneric
import Derived.Shelf.SlLaysF0
import Derived.Ground.NamesProg
import Derived.Ground.SlsfProg
import Derived.Test.YtgajgdgaghmgjaaGreatDoorProg
import Derived.Test.YtgajgdgaghmgjaaGreatDoorKLow
set_option linter.unusedVariables false
set_option linter.unusedSimpArgs false
set_option linter.unusedSectionVars false
open List renaming replicate → yaa, range' → yab, map → yac, getD_eq_getElem?_getD → yad, mem_range'_1 → yae, append_nil → yaf, getElem?_eq_getElem → yag, length_replicate → yah, length_map → yai, length_set → yaj, nil_append → yal, getElem?_append_right → yan, getElem_map → yao, map_cons → yap, length_append → yaq, getElem?_cons_succ → yar, append_assoc → yas, range → yat, reverse_cons → yau, reverse_nil → yav, map_append → yax, cons_append → yay, map_nil → yaz, take → yaA, take_of_length_le → yaB, mem_map_of_mem → yaC, set_append_right → yaD, length_nil → yaE, mem_filter → yaG, mem_cons → yaI, getElem_mem → yaJ, mem_singleton → yaK, mem_map → yaM, getElem?_eq_none → yaN, map_replicate → yaO, length_take → yaP, drop → yaQ, not_mem_nil → yaR, map_congr_left → yaT, nodup_nil → yaU, length_cons → yaW, nodup_cons → yaZ, eraseIdx_cons_succ → yba, map_set → ybb, filter_sublist → ybc, ext_getElem → ybd, mem_append → ybe, map_map → ybg, length_singleton → ybh, getElem?_map → ybi, getElem?_range → ybj, set_cons_succ → ybm, mem_iff_getElem → ybn, getElem?_replicate → ybo, getElem?_range' → ybp, getElem?_append_left → ybq, length_filter_le → ybr, replicate_succ → ybs, flatMap_append → ybt, mem_or_eq_of_mem_set → ybu, getElem?_set_ne → ybv, length_eq_zero_iff → ybw, filter_eq_nil_iff → ybx
open Int renaming toNat_natCast → yak, toNat → yaH, le_refl → ybk
open Nat renaming le_refl → yam, zero_le → yaw, add_sub_cancel_left → yaF, zero_add → yaL, add_left_cancel_iff → yaV, mul_comm → yaY, add_mul → ybl
open Array renaming replicate → yaS, getElem?_append_left → yby, getElem?_modify → ybz
open Option renaming isSome → yaX
open Bool renaming true_and → ybf
namespace Go.Fx.K
open Go Go.Fx Go.Proofs
set_option maxRecDepth 20000
def vZ (l:List Sec):Sec:=l.getLast?.getD zS
structure Syn (D D':Dk):Prop where
 n:D'.cells.length=D.cells.length
 st:D'.steps=D.steps
 af:D'.after=D.after
 dd:D'.dead=D.dead
 at_:∀ i,i<D.cells.length→(D'.op i=D.op i∧D'.cells.getD i zC=D.cells.getD i zC)∨(D.op i≠[]∧D'.op i=[]∧D'.cells.getD i zC=⟨vZ (D.op i),false⟩)
theorem Pd (S:MS) {h Y:List Blk} {e p:Env} {b b':Nat} (he:leE e p) (hh:leH h (S.bs 0++Y)) (hwe:wfE (S.bs 0++Y) p) (hwb:wfB (S.bs 0++Y) Y):leS [0,1,2] ⟨e,h,b⟩ ⟨p,S.bs 0++Y,b'⟩:=by
 refine ⟨he,hh,⟨trivial,trivial,trivial,trivial⟩,hwe,?_⟩
 have:=S.wf (p:=0) [] Y rfl (C:=Y) (by simpa using hwb)
 simpa using this
theorem Em {a b c B:Blk} {T X:List Blk} {i f:Nat} (hB:B≠.dead):wfV (a::b::c::(T++B::X)) (.ptr (T.length+3) i f):=by
 show aC _ _
 unfold aC
 rw [dQ]
 cases B<;>first|trivial|exact absurd rfl hB
theorem Ru {α β:Type}:∀ {es:List (α × β × Nat)} {e:α × β × Nat},(es.map (·.2.2)).Nodup→e∈es→es.find? (fun q=>q.2.2==e.2.2)=some e
 | x::r,e,hn,he=>by
  have hn2:=yaZ.1 hn
  rw [List.find?_cons]
  rcases yaI.1 he with rfl|h
  ·simp
  ·have:(x.2.2==e.2.2)=false:=by
    cases hb:x.2.2==e.2.2 with
    | false=>rfl
    | true =>
     have h3:x.2.2=e.2.2:=by simpa using hb
     exact absurd (by show x.2.2∈_;rw [h3];exact yaC h) hn2.1
   rw [this]
   exact Ru hn2.2 h
theorem abW {p:Nat} {D:Dk} {L:List (Nat × Nat)}:(cD p D L).map (·.2.2)=L.map (·.2):=by simp [cD]
theorem Nk {p:Nat} {D:Dk} {L:List (Nat × Nat)} {e:Value × V × Nat} (h:e∈cD p D L):∃ x∈L,e=(.int .i64 x.1,.sl (p+3+x.1) 0 (D.op x.1).length,x.2):=by
 unfold cD at h
 obtain ⟨x,hx,rfl⟩:=yaM.1 h
 exact ⟨x,hx,rfl⟩
theorem w9 {k:Nat}:∀ {L:List (Nat × Nat)} {m:Nat},(L.map (·.1)).Nodup→(L[m]?).map (·.1)=some k→L.eraseIdx m=L.filter fun e=>e.1 != k
 | [],m,_,h=>by simp at h
 | x::r,0,hn,h=>by
  have hn2:=yaZ.1 hn
  have hx:x.1=k:=by simpa using h
  rw [List.eraseIdx_cons_zero,List.filter_cons_of_neg (by simp [hx])]
  refine (List.filter_eq_self.2 fun e he=>?_).symm
  have:e.1≠k:=fun h2=>hn2.1 (by show x.1∈_;rw [hx,←h2];exact yaC he)
  simpa using this
 | x::r,m+1,hn,h=>by
  have hn2:=yaZ.1 hn
  have ih:=w9 (k:=k) (L:=r) (m:=m) hn2.2 (by simpa using h)
  have hm:k∈r.map (·.1):=by
   have h2:(r[m]?).map (·.1)=some k:=by simpa using h
   rcases Nat.lt_or_ge m r.length with h3|h3
   ·rw [yag h3] at h2
    rw [←Option.some.inj h2]
    exact yaC (yaJ h3)
   ·rw [yaN h3] at h2;cases h2
  have hx:x.1≠k:=fun h2=>hn2.1 (by show x.1∈_;rw [h2];exact hm)
  rw [yba,List.filter_cons_of_pos (by simpa using hx),ih]
theorem Io {α β:Type} {f:α→β}:∀ {l:List α} {m:Nat},(l.map f).eraseIdx m=(l.eraseIdx m).map f
 | [],_=>rfl
 | x::r,0=>rfl
 | x::r,m+1=>by rw [yap,yba,yba,yap,Io]
def Dk.durD (D:Dk) (k:Nat):Dk:={ D with cells:=D.cells.set k ⟨vZ (D.op k),false⟩,opn:=D.opn.set k [] }
theorem Pk {D:Dk} {k j:Nat} (hk:k<D.opn.length):(D.durD k).op j=if j=k then [] else D.op j:=by
 show ((D.opn.set k []).getD j [])=_
 rw [yad,List.getElem?_set]
 by_cases h:j=k
 ·subst h;rw [if_pos rfl,if_pos rfl,if_pos hk];rfl
 ·rw [if_neg (fun e=>h e.symm),if_neg h,←yad];rfl
theorem aeA {D:Dk} {k:Nat}:dkT (D.durD k)=(dkT D).set k .dead:=by
 show (D.opn.set k []).map tW=_
 rw [ybb];rfl
theorem Rz {D:Dk} {k:Nat}:(D.durD k).cells.length=D.cells.length:=by simp [Dk.durD]
theorem MOk.dur {D:Dk} {L:List (Nat × Nat)} {c k:Nat} (h:MOk D L c) (hk:k<D.n):MOk (D.durD k) (L.filter fun e=>e.1 != k) c:=by
 have hk2:k<D.opn.length:=by rw [h.len];exact hk
 refine ⟨by show (D.opn.set k []).length=(D.durD k).cells.length;rw [yaj,Rz];exact h.len,(h.nod.sublist (List.Sublist.map _ ybc)),fun i=>?_,(h.st.sublist (List.Sublist.map _ ybc)),fun e he=>h.clk e (yaG.1 he).1⟩
 show _↔i<(D.durD k).cells.length∧_
 rw [Rz,Pk hk2]
 have hki:=h.key i
 constructor
 ·intro hm
  obtain ⟨e,he,rfl⟩:=yaM.1 hm
  obtain ⟨h1,h2⟩:=yaG.1 he
  have h3:e.1≠k:=by simpa using h2
  have:=hki.1 (yaC h1)
  rw [if_neg h3];exact this
 ·rintro ⟨h1,h2⟩
  by_cases e:i=k
  ·rw [if_pos e] at h2;exact absurd rfl h2
  ·rw [if_neg e] at h2
   obtain ⟨x,hx,hxi⟩:=yaM.1 (hki.2 ⟨h1,h2⟩)
   subst hxi
   exact yaC (yaG.2 ⟨hx,by simpa using e⟩)
theorem Ym {D:Dk} {L:List (Nat × Nat)} {k:Nat} (hk:k<D.opn.length):cD 0 (D.durD k) (L.filter fun e=>e.1 != k)=cD 0 D (L.filter fun e=>e.1 != k):=by
 unfold cD
 refine yaT fun e he=>?_
 have:e.1≠k:=by simpa using (yaG.1 he).2
 rw [Pk hk,if_neg this]
theorem Rh {X:List Blk}:∀ {T:List Blk} {k:Nat},leH (T++X) (T.set k .dead++X)
 | [],_=>aU _
 | b::T,0=>⟨trivial,aU _⟩
 | b::T,k+1=>⟨aS b,Rh⟩
theorem Syn.dur {D D':Dk} {k:Nat} (h:Syn D D') (hl:D'.opn.length=D'.cells.length) (hk:k<D.cells.length) (ho:D'.op k≠[]):Syn D (D'.durD k):=by
 have hk2:k<D'.opn.length:=by rw [hl,h.n];exact hk
 refine ⟨Rz.trans h.n,h.st,h.af,h.dd,fun i hi=>?_⟩
 rw [Pk hk2]
 have e:(D'.durD k).cells.getD i zC=if i=k then ⟨vZ (D'.op k),false⟩ else D'.cells.getD i zC:=by
  show (D'.cells.set k _).getD i zC=_
  rw [yad,List.getElem?_set]
  by_cases e:i=k
  ·subst e;rw [if_pos rfl,if_pos rfl,if_pos (by rw [h.n];exact hk)];rfl
  ·rw [if_neg (fun h=>e h.symm),if_neg e,←yad]
 rw [e]
 by_cases hik:i=k
 ·subst hik
  rcases h.at_ i hi with ⟨h1,h2⟩|⟨_,h2,_⟩
  ·exact .inr ⟨h1▸ho,if_pos rfl,by rw [if_pos rfl,h1]⟩
  ·exact absurd h2 ho
 ·rw [if_neg hik,if_neg hik];exact h.at_ i hi
def Dk.allD (D:Dk):Dk:={ D with cells:=(yat D.cells.length).map fun i=>if D.op i=[] then D.cells.getD i zC else ⟨vZ (D.op i),false⟩,opn:=yaa D.cells.length [] }
theorem Syn.all {D D':Dk} (h:Syn D D') (hl:D'.opn.length=D'.cells.length) (ho:∀ i,i<D.cells.length→D'.op i=[]):D'=D.allD:=by
 have e1:D'.cells=(yat D.cells.length).map fun i=>if D.op i=[] then D.cells.getD i zC else ⟨vZ (D.op i),false⟩:=by
  apply ybd
  ·simp [h.n]
  ·intro i h1 h2
   have hi:i<D.cells.length:=by rw [←h.n];exact h1
   have e:D'.cells[i]=D'.cells.getD i zC:=by rw [yad,yag h1];rfl
   rw [yao,List.getElem_range,e]
   rcases h.at_ i hi with ⟨h3,h4⟩|⟨h3,_,h4⟩
   ·rw [if_pos (by rw [←h3];exact ho i hi),h4]
   ·rw [if_neg h3,h4]
 have e2:D'.opn=yaa D.cells.length []:=by
  apply ybd
  ·simp [hl,h.n]
  ·intro i h1 h2
   have hi:i<D.cells.length:=by rw [←h.n,←hl];exact h1
   have e:D'.opn[i]=D'.op i:=by rw [Dk.op,yad,yag h1];rfl
   rw [e,ho i hi];simp
 have h3:=h.st
 have h4:=h.af
 have h5:=h.dd
 cases D'
 simp only at e1 e2 h3 h4 h5
 subst e1 e2 h3 h4 h5
 rfl
def Dk.syE (D:Dk):Int:=if D.chk 0≠0 then D.chk 0 else D.stepE
def Dk.syD (D:Dk):Dk:=if D.chk 0≠0 then D else if D.stepE≠0 then D.stepD else D.stepD.allD
theorem akV (S:MS) (hs:S.D.steps≤1000000000000000) (ha:-1≤S.D.after∧S.D.after≤9223372036854775807):OkD 74 [.ptr 0 0 0] S (fun r S'=>S'.D=S.D.syD∧r=.i S.D.syE):=by
 refine mI lw74 (by simp) ?_
 unfold c74
 simp -implicitDefEqProofs only [rX,aA,↓reduceIte,reduceCtorEq,cxN,dkV,dkC,aO]
 refine Dh (S:=S) (Wl S 0) (fun _ _=>⟨⟨trivial,trivial⟩,rfl,trivial⟩) (by simp) (by simp) (by simp [aM,kill,yae]) ?_
 rintro r S' hn ⟨hS,rfl⟩
 subst S'
 refine ⟨fun g=>rfl,?_⟩
 simp -implicitDefEqProofs only [rX,↓rY,zY,aA,↓reduceIte,Nat.reduceEqDiff,reduceCtorEq,aF,dQ,fH,dkV,dkC]
 simp only [br,decide_eq_true_eq,decide_eq_false_iff_not,bne_iff_ne,bne_eq_false_iff_eq,beq_iff_eq,beq_eq_false_iff_ne]
 refine ⟨fun h=>?_,fun h=>?_⟩
 ·refine Dh (S:=S) (adP S hs ha) (fun _ _=>⟨trivial,trivial⟩) (by simp) (by simp) (by simp [aM,kill,yae]) ?_
  rintro r S1 hn1 ⟨hS1,rfl⟩
  refine ⟨fun g=>rfl,?_⟩
  simp -implicitDefEqProofs only [rX,↓rY,zY,aA,↓reduceIte,Nat.reduceEqDiff,reduceCtorEq,aF,dQ,fH,dkV,dkC]
  simp only [br,decide_eq_true_eq,decide_eq_false_iff_not,bne_iff_ne,bne_eq_false_iff_eq,beq_iff_eq,beq_eq_false_iff_ne]
  refine ⟨fun h2=>?_,fun h2=>?_⟩
  ·refine vI S1 (aU _) hn1 ⟨trivial,?_,?_⟩
   ·rw [Dk.syD,if_neg (by rw [h];simp),if_pos h2,hS1,Jr]
   ·show V.i S.D.stepE=_
    rw [Dk.syE,if_neg (by rw [h];simp)]
  ·refine cX (fun g:MS × List Nat=>(⟨[(19,.ptr ((dkT g.1.D).length+3) 0 0),(0,.ptr 0 0 0)],dkV 0 g.1.D::dkC g.1.D::.map (cD 0 g.1.D g.1.L) g.1.c::(dkT g.1.D++[.it (.mp 2) g.1.c g.2 g.1.c]),0⟩:St)) (fun g=>g.1.c=S1.c∧Syn S1.D g.1.D∧∀ e∈g.1.L,e.2∉g.2) (fun g=>g.1.L.length) (S1,[]) ⟨rfl,⟨rfl,rfl,rfl,rfl,fun i _=>.inl ⟨rfl,rfl⟩⟩,by simp⟩ ?_ ?_
   ·exact Pd S1 (Y:=[.it (.mp 2) S1.c [] S1.c]) ⟨rfl,rfl,trivial⟩ (aU _) ⟨Em (by simp),trivial,trivial⟩ ⟨trivial,trivial⟩
   ·rintro ⟨S2,seen⟩ ⟨hc,hsy,hse⟩
    have hc:S2.c=S1.c:=hc
    have hsy:Syn S1.D S2.D:=hsy
    have hse:∀ e∈S2.L,e.2∉seen:=hse
    unfold c74l0
    simp -implicitDefEqProofs only [rX,↓rY,zZ,ka,aA,cells?,splice,↓reduceIte,Nat.reduceEqDiff,dB,reduceCtorEq,bJ,leE,leH,leB,leV,cI,aD,aC,wfE,wfB,wfV,wfL,Nat.reduceLeDiff,↓qcm,↓qcn,yao,Ay,dQ,fH,dkV,dkC,Jh,aaY,Jg]
    refine ⟨⟨?_,yam _⟩,fun hall=>?_,fun q hq hqn=>?_⟩
    ·rw [List.all_eq_true]
     intro q hq
     obtain ⟨x,hx,rfl⟩:=Nk hq
     simpa using S2.ok.clk x hx
    ·have hL:S2.L=[]:=by
      cases hL:S2.L with
      | nil=>rfl
      | cons x r =>
       have h3:=List.all_eq_true.1 hall _ (yaC (f:=fun e:Nat × Nat=>((.int .i64 e.1,.sl (0+3+e.1) 0 (S2.D.op e.1).length,e.2):Value × V × Nat)) (show x∈S2.L by rw [hL];exact List.mem_cons_self))
       have h4:=hse x (by rw [hL];exact List.mem_cons_self)
       exact absurd (by simpa using h3) h4
     have hall2:S2.D=S1.D.allD:=hsy.all S2.ok.len fun i hi=>by
      by_cases ho:S2.D.op i=[]
      ·exact ho
      ·have:=(S2.ok.key i).2 ⟨by show i<S2.D.cells.length;rw [hsy.n];exact hi,ho⟩
       rw [hL] at this;simp at this
     refine vI S2 (dR (h:=S2.bs 0)) (hsy.n.trans hn1) ⟨trivial,?_,?_⟩
     ·rw [Dk.syD,if_neg (by rw [h];simp),if_neg (by rw [h2];simp),hall2,hS1,Jr]
     ·show V.i 0=_
      rw [Dk.syE,if_neg (by rw [h];simp),h2]
    ·obtain ⟨x,hx,rfl⟩:=Nk hq
     have hkx:=(S2.ok.key x.1).1 (yaC hx)
     have hfind:=Ru (es:=cD 0 S2.D S2.L) (by rw [abW];exact S2.ok.st) hq
     rw [List.getLast?_concat]
     simp -implicitDefEqProofs only [rX,↓rY,Nat.reduceEqDiff,dB,↓qbY,↓qcj,↓qcl,yak,hfind,↓qcj]
     rw [Rs (by rw [S2.ok.len];exact hkx.1) hkx.2]
     simp -implicitDefEqProofs only [rX,↓rY,Nat.reduceAdd,yao,cB,fL,ahL,amV,Ky,Yy,ahK,Jt,aeF,n61]
     obtain ⟨m,_,hm1,hm2,hm3⟩:=(vV (p:=0) (D:=S2.D) (k:=x.1) (L:=S2.L) (j:=0)).2 (yaC hx)
     simp only [hm3,abG]
     have hl:0<(S2.D.op x.1).length:=List.length_pos_iff.2 hkx.2
     have hkn:(x.1:Int)<(S2.D.n:Int):=by have:=hkx.1;omega
     have hlast:∀ hx',(S2.D.op x.1)[((S2.D.op x.1).length-1:Int).toNat]'hx'=vZ (S2.D.op x.1):=fun hx'=>by
      rw [vZ,List.getLast?_eq_getElem?,yag (by omega)]
      show _=(S2.D.op x.1)[(S2.D.op x.1).length-1]
      congr 1;omega
     have hko:x.1<S2.D.opn.length:=by rw [S2.ok.len];exact hkx.1
     have hfe:(cD 0 S2.D S2.L).eraseIdx m=cD 0 (S2.D.durD x.1) (S2.L.filter fun e=>e.1 != x.1):=by
      rw [Ym hko]
      unfold cD
      rw [Io,w9 (m:=m) S2.ok.nod hm2]
     have hS3:=S2.ok.dur (k:=x.1) hkx.1
     have hlt:(S2.L.filter fun e=>e.1 != x.1).length<S2.L.length:=by
      rw [List.length_filter_lt_length_iff_exists]
      exact ⟨x,hx,by simp⟩
     have hmx:x.1<S1.D.cells.length:=by rw [←hsy.n];exact hkx.1
     refine fun hml=>⟨by simp only [lo,hi];unfold maxLen at hml;omega,⟨by omega,by omega⟩,by omega,⟨by omega,hkn⟩,hkx.1,(⟨S2.D.durD x.1,S2.L.filter fun e=>e.1 != x.1,S2.c,hS3⟩,seen++[x.2]),⟨⟨hc,hsy.dur S2.ok.len hmx hkx.2,?_⟩,hlt⟩,?_,⟨?_,?_,?_,?_⟩,?_⟩
     ·intro e he
      obtain ⟨h3,h4⟩:=yaG.1 he
      rw [ybe,yaK]
      rintro (h5|h5)
      ·exact hse e h3 h5
      ·have:e=x:=by
        have hn:=S2.ok.st
        obtain ⟨a,ha,hae⟩:=ybn.1 h3
        obtain ⟨b,hb,hbe⟩:=ybn.1 hx
        have:=(List.getElem_inj (xs:=S2.L.map (·.2)) (i:=a) (j:=b) (h₀:=by simpa using ha) (h₁:=by simpa using hb) hn).1 (by simp [hae,hbe,h5])
        subst this
        rw [←hae,←hbe]
       subst this
       simp at h4
     ·show V.ptr ((dkT S2.D).length+3) 0 0=V.ptr ((dkT (S2.D.durD x.1)).length+3) 0 0
      rw [aeA,yaj]
     ·refine ⟨?_,rfl,rfl,rfl⟩
      show V.sl 1 0 S2.D.cells.length=V.sl 1 0 (S2.D.durD x.1).cells.length
      rw [Rz]
     ·show Blk.arr 65 (yac Cl.enc (S2.D.cells.set x.1 _))=Blk.arr 65 (yac Cl.enc (S2.D.durD x.1).cells)
      rw [hlast];rfl
     ·rw [hfe]
     ·show leH (dkT S2.D++_) (dkT (S2.D.durD x.1)++_)
      rw [aeA]
      exact Rh
     ·have:=(⟨S2.D.durD x.1,S2.L.filter fun e=>e.1 != x.1,S2.c,hS3⟩:MS).wf (p:=0) [] [.it (.mp 2) S2.c (seen++[x.2]) S2.c] rfl (C:=[.it (.mp 2) S2.c (seen++[x.2]) S2.c]) ⟨trivial,trivial⟩
      exact ⟨this.2.1,this.2.2⟩
 ·refine ⟨fun h2=>?_,fun h2=>absurd h2 h⟩
  refine vI S (aU _) rfl ⟨trivial,?_,?_⟩
  ·rw [Dk.syD,if_pos h]
  ·show V.i (S.D.chk 0)=_
   rw [Dk.syE,if_pos h]
set_option maxRecDepth 20000
def Th (n:Nat):Dk:=⟨yaa n zC,yaa n [],0,-1,false⟩
theorem agH {n i:Nat}:(Th n).op i=[]:=by
 unfold Dk.op Th
 rw [yad,ybo]
 split<;>rfl
def Wt (n:Nat):MS:=⟨Th n,[],0,⟨by show (yaa n ([]:List Sec)).length=(yaa n zC).length;simp,yaU,fun i=>by simp [agH],yaU,by simp⟩⟩
theorem agI {n:Nat}:dkT (Wt n).D=yaa n .dead:=by
 show (yaa n []).map tW=_
 rw [yaO];rfl
theorem abF {n p:Nat}:(Wt n).bs p=.var [.sl (p+1) 0 n,.mp (p+2),.i 0,.i (-1),.b false]::.arr 65 (yaa n zC.enc)::.map [] 0::yaa n .dead:=by
 rw [←agI]
 show Blk.var [.sl (p+1) 0 (yaa n zC).length,.mp (p+2),.i 0,.i (-1),.b false]::.arr 65 ((yaa n zC).map Cl.enc)::_=_
 rw [yah,yaO];rfl
theorem Dm {H:List Blk}:∀ {n:Nat},wfB H (yaa n .dead)
 | 0=>trivial
 | n+1=>Dm (n:=n)
def Vz (n:Int):V→List Blk→Prop:=fun r h=>if n<1∨65536<n then r=.v (.pointer none)∧h=[] else r=.ptr 2 0 0∧h=[.arr 65 (yaa n.toNat zC.enc),.map [] 0,.var [.sl 0 0 n.toNat,.mp 1,.i 0,.i (-1),.b false]]
theorem aqK (n:Int):Ok 5 [.i n] (Vz n):=by
 refine bO lw5 (by simp) ?_
 unfold c5
 simp -implicitDefEqProofs only [rX,↓rY,aA,cells?,splice,↓reduceIte,Nat.reduceEqDiff,Nat.reduceAdd,reduceCtorEq,aF,bJ,Nat.reduceLeDiff,cxN,Jh,Jg,aO]
 simp only [br,decide_eq_true_eq,decide_eq_false_iff_not,beq_iff_eq,beq_eq_false_iff_ne]
 have fin0:∀ (e:Env),get e 2=.v (.pointer none)→(n<1∨65536<n)→dD [] 0 [eK.tmp 2] (Vz n) ⟨e,[],0⟩:=by
  intro e he h
  rw [cC]
  simp only [aY,yau,yav,yal,a7,he]
  exact ⟨[],⟨trivial,trivial,yam _,trivial,trivial⟩,by rw [Vz,if_pos h];exact ⟨rfl,rfl⟩⟩
 refine ⟨fun h=>fin0 _ rfl (.inl h),fun h=>⟨fun h2=>fin0 _ rfl (.inr h2),fun h2=>⟨⟨by omega,by omega,by omega⟩,?_⟩⟩⟩
 rw [cC]
 refine ⟨[.arr 65 (yaa n.toNat zC.enc),.map [] 0,.var [.sl 0 0 n.toNat,.mp 1,.i 0,.i (-1),.b false]],⟨aU _,trivial,yaw _,trivial,⟨trivial,⟨trivial,trivial,trivial,trivial,trivial,trivial⟩,trivial⟩⟩,?_⟩
 rw [Vz,if_neg (by omega)]
 exact ⟨rfl,rfl⟩
theorem Vs {n i j:Nat}:(yaa n Blk.dead).map (mvB i j)=yaa n .dead:=by simp [mvB]
theorem vX:∀ {n:Nat} {B:Blk},leH (yaa n B) (yaa n .dead)
 | 0,_=>trivial
 | n+1,B=>⟨trivial,vX⟩
def rN (n:Int):V→List Blk→Prop:=fun r h=>if n<1∨65536<n then r=.v (.pointer none)∧h=[] else r=.ptr 3 0 0∧h=.dead::.dead::.dead::(Wt n.toNat).bs 3
set_option maxRecDepth 20000
structure Ck where
 seg:Int
 slot:Int
 seq:Int
 key:Bs
 deriving DecidableEq
def Ck.enc (c:Ck):List V:=[.i c.seg,.i c.slot,.i c.seq,sv c.key]
structure Lg where
 gens:List Int
 top:Int
 seq:Int
 found:List Ck
 seg:Int
 next:Int
 cells:List Cl
 steps:Nat
 c:Nat
def Lg.D (L:Lg):Dk:=⟨L.cells,yaa L.cells.length [],L.steps,-1,false⟩
theorem Lg.op (L:Lg) {i:Nat}:L.D.op i=[]:=by
 unfold Dk.op Lg.D
 rw [yad,ybo]
 split<;>rfl
def Lg.S (L:Lg):MS:=⟨L.D,[],L.c,⟨by show (yaa L.cells.length ([]:List Sec)).length=L.cells.length;simp,yaU,fun i=>by simp [L.op],yaU,by simp⟩⟩
abbrev Lg.n (L:Lg):Nat:=L.cells.length
theorem Lg.T (L:Lg):dkT L.S.D=yaa L.cells.length .dead:=by
 show (yaa L.cells.length []).map tW=_
 rw [yaO];rfl
def lgV (p:Nat) (L:Lg):Blk:=.var [.ptr (p+2) 0 0,.sl (p+1) 0 L.gens.length,.i L.top,.i L.seq,.sl (p+(L.cells.length+5)) 0 L.found.length,.i L.seg,.i L.next]
def lgF (L:Lg):Blk:=.arr 4 (L.found.map Ck.enc)
def lgG (L:Lg):Blk:=.arr 1 (L.gens.map encI)
def Lg.bs (L:Lg) (p:Nat):List Blk:=lgV p L::lgG L::(L.S.bs (p+2)++[lgF L])
def lgH (L:Lg):List Blk:=.var [.ptr 2 0 0,.sl 1 0 L.gens.length,.i L.top,.i L.seq,.sl (L.cells.length+5) 0 L.found.length,.i L.seg,.i L.next]::.arr 1 (L.gens.map encI)::.var [.sl 3 0 L.cells.length,.mp 4,.i L.steps,.i (-1),.b false]::.arr 65 (L.cells.map Cl.enc)::.map [] L.c::(yaa L.cells.length .dead++[.arr 4 (L.found.map Ck.enc)])
theorem Lg.bs0 (L:Lg):L.bs 0=lgH L:=by
 unfold lgH
 rw [←L.T]
 show lgV 0 L::_=_
 unfold lgV
 simp only [yaL]
 rfl
theorem Lg.len (L:Lg) {p:Nat}:(L.bs p).length=5+(L.n+1):=by
 show ((L.S.bs (p+2)++[lgF L]).length+1)+1=_
 rw [yaq,L.S.len]
 show (3+L.S.n+1)+1+1=5+(L.S.n+1)
 omega
theorem agK {p q:Nat} {L:Lg} {g:Nat→Option Nat} (hg:∀ j,j<5+(L.n+1)→g (p+j)=some (q+j)):(L.bs p).map (bA g)=L.bs q:=by
 have h1:=hg 1 (by omega)
 have h2:=hg 2 (by omega)
 have h3:=hg (L.cells.length+5) (by show L.cells.length+5<5+(L.cells.length+1);omega)
 have hS:(L.S.bs (p+2)).map (bA g)=L.S.bs (q+2):=lS L.S.ok fun j hj=>by
  have hj2:j<3+L.S.n:=hj
  have:=hg (2+j) (by show 2+j<5+(L.S.n+1);omega)
  rw [show p+2+j=p+(2+j) by omega,show q+2+j=q+(2+j) by omega]
  exact this
 rw [Lg.bs,yap,yap,yax,hS]
 simp only [lgV,lgG,lgF,bA,bZ,ren,h1,h2,h3,yap,yaz]
 rfl
theorem Ti {p c m:Nat}:(yab c m).filterMap ((yab p (c+m))[·]?)=yab (p+c) m:=by
 have h:∀ (n a:Nat),a+n≤c+m→(yab a n).filterMap ((yab p (c+m))[·]?)=yab (p+a) n:=by
  intro n
  induction n with
  | zero=>intro a _;rfl
  | succ n ih =>
   intro a ha
   rw [List.range'_succ,List.filterMap_cons,ybp (by omega),ih (a+1) (by omega)]
   simp [List.range'_succ,Nat.add_assoc]
 exact h m c (by omega)
def QF {G:Type} (bs:G→Nat→List Blk) (N:Nat) (Q:V→G→Prop):V→List Blk→Prop:=fun r h=>∃ g',((∀ p,(bs g' p).length=N)∧Q r g')∧h=bs g' 0
section
variable {cx:Cx} {f:FuncId} {e:Env} {b:Nat} {K:V→St→Prop}
theorem tX {G:Type} (bs:G→Nat→List Blk) (c m:Nat) (hren:∀ g,(∀ p,(bs g p).length=c+m)→∀ {p q:Nat} {f:Nat→Option Nat},(∀ j,j<c+m→f (p+j)=some (q+j))→(bs g p).map (bA f)=bs g q)
  (A B:List Blk) (g:G) (hg:∀ p,(bs g p).length=c+m) (hcm:0<c) (args xs:List V) (Q:V→G→Prop) (hC:cx.C f (.ptr 0 0 0::xs) (bs g 0) (yab c m) (QF bs (c+m) Q))
  (ha:aE (A++(bs g A.length++B)) (pos (yab A.length (c+m))) args∧wkL xs (aL (A++(bs g A.length++B)) (pos (yab A.length (c+m))) args))
  (hbn:∀ k∈cx.bn,k<A.length∨A.length+(c+m)≤k) (hfx:∀ k∈cx.fx,k<A.length+c∨A.length+c+m≤k)
  (hA:A.map (aK (yab (A.length+c) m))=A) (hB:B.map (aK (yab (A.length+c) m))=B)
  (h3:∀ (r:V) (g':G),(∀ p,(bs g' p).length=c+m)→Q r g'→(∀ f,ren f r=r)∧aD cx.fx (A++(bs g' A.length++B))∧K r ⟨aM (yab (A.length+c) m) e,A++(bs g' A.length++B),b⟩):aR cx f (.ptr A.length 0 0::args) ⟨e,A++(bs g A.length++B),b⟩ K:=by
 have hl:=hg A.length
 refine ⟨yab A.length (c+m),.ptr 0 0 0::xs,yab c m,QF bs (c+m) Q,⟨⟨List.nodup_range',fun k hk=>?_⟩,fun j hj k hk hkf=>?_⟩,?_,?_,?_,?_⟩
 ·rw [yae] at hk
  refine ⟨by simp only [yaq,hl];omega,fun hb=>?_⟩
  have:=hbn k hb
  omega
 ·rw [yae] at hj
  rw [ybp (by omega)] at hk
  have:=hfx k hkf
  simp only [Option.some.injEq] at hk
  omega
 ·refine ⟨?_,ha.1⟩
  simp only [aG]
 ·refine ⟨?_,ha.2⟩
  simp only [a6,eR]
  rw [if_pos (by omega),Nat.sub_self]
  exact rfl
 ·have e1:(yab A.length (c+m)).map (fun k=>bA (pos (yab A.length (c+m))) (blk (A++(bs g A.length++B)) k))=bs g 0:=by
   have h1:(bs g A.length).map (bA (pos (yab A.length (c+m))))=bs g 0:=hren g hg fun j hj=>by
    rw [eR,if_pos (by omega)];simp
   rw [←h1]
   apply ybd
   ·simp [hl]
   ·intro j h2 h3
    simp only [yao,List.getElem_range',blk]
    congr 1
    have hj:j<(bs g A.length).length:=by simpa using h3
    rw [yad,yan (by omega),show A.length+1*j-A.length=j by omega,ybq hj,yag hj];rfl
  rw [e1];exact hC
 ·rintro r h' ⟨g',⟨hn,hq⟩,rfl⟩ _
  obtain ⟨q1,q2,q3⟩:=h3 r g' hn hq
  have e2:(bs g' 0).map (bA (back (yab A.length (c+m)) (A++(bs g A.length++B)).length))=bs g' A.length:=hren g' hn fun j hj=>by
   rw [u7,if_pos (by omega)];simp
  rw [Ti,e2,yax,yax,hA,hB]
  have e3:aN (yab A.length (c+m)) (bs g' A.length) (A++((bs g A.length).map (aK (yab (A.length+c) m))++B))=A++(bs g' A.length++B):=by
   have:=iK (X:=(bs g A.length).map (aK (yab (A.length+c) m))) (Y:=bs g' A.length) (B:=B) (A:=A) (by rw [yai,hg,hn])
   rw [yai,hl] at this
   exact this
  rw [e3,q1]
  exact ⟨q2,q3⟩
end
abbrev OkL (f:FuncId) (xs:List V) (L:Lg) (Q:V→Lg→Prop):Prop:=OkN Tryz.prog f xs (L.bs 0) (yab 5 (L.n+1)) (QF Lg.bs (5+(L.n+1)) Q)
theorem q8 {f:FuncId} {l0 l:LCode} {rs:List eK} {nt:Nat} (hl:rlF Tryz.prog f l0=some (l,rs,nt)) {args:List V} {L:Lg} {Q:V→Lg→Prop} (hlen:args.length≤nt)
  (h:aw (cxN Tryz.prog [0,1,2,3,4]) l (dD [0,1,2,3,4] (5+(L.n+1)) rs (QF Lg.bs (5+(L.n+1)) Q)) (fun _ _=>False) (dD [0,1,2,3,4] (5+(L.n+1)) rs (QF Lg.bs (5+(L.n+1)) Q)) ⟨aO 0 args,lgH L,0⟩):OkL f args L Q:=by
 refine cO pol [0,1,2,3,4] hl hlen ⟨trivial,trivial,trivial,trivial,trivial,trivial⟩ (fun k hk hm=>?_) (by rw [L.len,L.bs0];exact h)
 rw [L.len] at hk
 have:¬(5≤k∧k<5+(L.n+1)):=fun h2=>hm (yae.2 h2)
 have h3:k=0∨k=1∨k=2∨k=3∨k=4:=by omega
 rcases h3 with rfl|rfl|rfl|rfl|rfl<;>simp
theorem Lg.wf (L:Lg) (A B:List Blk) {p:Nat} (hp:p=A.length) {C:List Blk} (hC:wfB (A++(L.bs p++B)) C):wfB (A++(L.bs p++B)) (L.bs p++C):=by
 have e0:A++(L.bs p++B)=(A++[lgV p L,lgG L])++(L.S.bs (p+2)++(lgF L::B)):=by simp [Lg.bs]
 have e1:L.bs p++C=lgV p L::lgG L::(L.S.bs (p+2)++(lgF L::C)):=by simp [Lg.bs]
 have hlive:∀ j,j=1∨j=2∨j=L.cells.length+5→aC (A++(L.bs p++B)) (p+j):=by
  intro j hj
  subst hp
  unfold aC
  rw [yan (by omega),ybq (by rw [L.len];show _<5+(L.cells.length+1);omega),show A.length+j-A.length=j by omega]
  rcases hj with rfl|rfl|rfl
  ·trivial
  ·trivial
  ·have:(L.bs A.length)[L.cells.length+5]?=some (lgF L):=by
    rw [Lg.bs,show L.cells.length+5=(3+L.S.n)+1+1 by show L.cells.length+5=(3+L.cells.length)+1+1;omega,yar,yar,yan (by rw [L.S.len];exact yam _),L.S.len,Nat.sub_self]
    rfl
   rw [this]
   trivial
 rw [e1]
 have h5:=hlive (L.cells.length+5) (.inr (.inr rfl))
 refine ⟨⟨hlive 2 (.inr (.inl rfl)),hlive 1 (.inl rfl),trivial,trivial,h5,trivial,trivial,trivial⟩,?_⟩
 rw [e0] at hC ⊢
 exact L.S.wf _ _ (by simp [hp]) hC
theorem Gy (L':Lg) {n b:Nat} {e:Env} {h:List Blk} {rs:List eK} {Q:V→Lg→Prop} (hh:leH h (lgH L')) (hn:L'.n=n) (hr:aY h e rs [] fun xs=>wfV (L'.bs 0) (a7 xs)∧Q (a7 xs) L'):dD [0,1,2,3,4] (5+(n+1)) rs (QF Lg.bs (5+(n+1)) Q) ⟨e,h,b⟩:=by
 rw [cC]
 refine resP_mono _ _ ?_ hr
 rintro xs ⟨h1,h2⟩
 refine ⟨L'.bs 0,⟨by rw [L'.bs0];exact hh,⟨trivial,trivial,trivial,trivial,trivial,trivial⟩,by rw [L'.len,hn];exact yam _,h1,?_⟩,L',⟨fun p=>by rw [L'.len,hn],h2⟩,rfl⟩
 have:=L'.wf (p:=0) [] [] rfl (C:=[]) trivial
 simpa using this
set_option maxRecDepth 20000
theorem uV {a b c d e:Blk} {n:Nat} {X:List Blk}:(a::b::c::d::e::(yaa n Blk.dead++X))[n+5]?=X[0]?:=by
 have:(a::b::c::d::e::(yaa n Blk.dead++X))[n+5]?=(yaa n Blk.dead++X)[n+0]?:=rfl
 rw [this,yan (by simp),yah];congr 1;omega
theorem aeZ {a b c d e B:Blk} {n:Nat} {X:List Blk}:(a::b::c::d::e::(yaa n Blk.dead++X)).set (n+5) B=a::b::c::d::e::(yaa n Blk.dead++X.set 0 B):=by
 have:(a::b::c::d::e::(yaa n Blk.dead++X)).set (n+5) B=a::b::c::d::e::((yaa n Blk.dead++X).set (n+0) B):=rfl
 rw [this,yaD _ _ (by simp),yah,show n+0-n=0 by omega]
theorem Zf {a b c d e:Blk} {n:Nat} {X:List Blk}:blk (a::b::c::d::e::(yaa n Blk.dead++X)) (n+5)=blk X 0:=by
 rw [blk,blk,yad,yad,uV]
theorem eN {a b c d e:Blk} {n:Nat} {X:List Blk}:(a::b::c::d::e::(yaa n Blk.dead++X))[n+6]?=X[1]?:=by
 have:(a::b::c::d::e::(yaa n Blk.dead++X))[n+6]?=(yaa n Blk.dead++X)[n+1]?:=rfl
 rw [this,yan (by simp),yah];congr 1;omega
theorem k8 {a b c d e B:Blk} {n:Nat} {X:List Blk}:(a::b::c::d::e::(yaa n Blk.dead++X)).set (n+6) B=a::b::c::d::e::(yaa n Blk.dead++X.set 1 B):=by
 have:(a::b::c::d::e::(yaa n Blk.dead++X)).set (n+6) B=a::b::c::d::e::((yaa n Blk.dead++X).set (n+1) B):=rfl
 rw [this,yaD _ _ (by simp),yah,show n+1-n=1 by omega]
theorem Pr {a b c d e:Blk} {n:Nat} {X:List Blk}:blk (a::b::c::d::e::(yaa n Blk.dead++X)) (n+6)=blk X 1:=by
 rw [blk,blk,yad,yad,eN]
theorem fJ {a b c d e:Blk} {n:Nat} {X:List Blk}:(a::b::c::d::e::(yaa n Blk.dead++X))[n+7]?=X[2]?:=by
 have:(a::b::c::d::e::(yaa n Blk.dead++X))[n+7]?=(yaa n Blk.dead++X)[n+2]?:=rfl
 rw [this,yan (by simp),yah];congr 1;omega
theorem o5 {a b c d e B:Blk} {n:Nat} {X:List Blk}:(a::b::c::d::e::(yaa n Blk.dead++X)).set (n+7) B=a::b::c::d::e::(yaa n Blk.dead++X.set 2 B):=by
 have:(a::b::c::d::e::(yaa n Blk.dead++X)).set (n+7) B=a::b::c::d::e::((yaa n Blk.dead++X).set (n+2) B):=rfl
 rw [this,yaD _ _ (by simp),yah,show n+2-n=2 by omega]
theorem ahR {a b c d e:Blk} {n:Nat} {X:List Blk}:blk (a::b::c::d::e::(yaa n Blk.dead++X)) (n+7)=blk X 2:=by
 rw [blk,blk,yad,yad,fJ]
theorem mJ {a b c d e:Blk} {n:Nat} {X:List Blk}:(a::b::c::d::e::(yaa n Blk.dead++X))[n+8]?=X[3]?:=by
 have:(a::b::c::d::e::(yaa n Blk.dead++X))[n+8]?=(yaa n Blk.dead++X)[n+3]?:=rfl
 rw [this,yan (by simp),yah];congr 1;omega
theorem Ac {a b c d e B:Blk} {n:Nat} {X:List Blk}:(a::b::c::d::e::(yaa n Blk.dead++X)).set (n+8) B=a::b::c::d::e::(yaa n Blk.dead++X.set 3 B):=by
 have:(a::b::c::d::e::(yaa n Blk.dead++X)).set (n+8) B=a::b::c::d::e::((yaa n Blk.dead++X).set (n+3) B):=rfl
 rw [this,yaD _ _ (by simp),yah,show n+3-n=3 by omega]
theorem Xv {a b c d e:Blk} {n:Nat} {X:List Blk}:(a::b::c::d::e::(yaa n Blk.dead++X))[n+9]?=X[4]?:=by
 have:(a::b::c::d::e::(yaa n Blk.dead++X))[n+9]?=(yaa n Blk.dead++X)[n+4]?:=rfl
 rw [this,yan (by simp),yah];congr 1;omega
theorem Vg {a b c d e B:Blk} {n:Nat} {X:List Blk}:(a::b::c::d::e::(yaa n Blk.dead++X)).set (n+9) B=a::b::c::d::e::(yaa n Blk.dead++X.set 4 B):=by
 have:(a::b::c::d::e::(yaa n Blk.dead++X)).set (n+9) B=a::b::c::d::e::((yaa n Blk.dead++X).set (n+4) B):=rfl
 rw [this,yaD _ _ (by simp),yah,show n+4-n=4 by omega]
theorem Xu {a b c d e:Blk} {n:Nat} {X:List Blk}:(a::b::c::d::e::(yaa n Blk.dead++X))[n+10]?=X[5]?:=by
 have:(a::b::c::d::e::(yaa n Blk.dead++X))[n+10]?=(yaa n Blk.dead++X)[n+5]?:=rfl
 rw [this,yan (by simp),yah];congr 1;omega
theorem Vf {a b c d e B:Blk} {n:Nat} {X:List Blk}:(a::b::c::d::e::(yaa n Blk.dead++X)).set (n+10) B=a::b::c::d::e::(yaa n Blk.dead++X.set 5 B):=by
 have:(a::b::c::d::e::(yaa n Blk.dead++X)).set (n+10) B=a::b::c::d::e::((yaa n Blk.dead++X).set (n+5) B):=rfl
 rw [this,yaD _ _ (by simp),yah,show n+5-n=5 by omega]
theorem dX {n:Nat} {X Y:List Blk}:yaa n Blk.dead++X++Y=yaa n Blk.dead++(X++Y):=yas ..
theorem tV {n:Nat} {X:List Blk} {M:List Nat}:yac (aK M) (yaa n Blk.dead++X)=yaa n Blk.dead++X.map (aK M):=by
 rw [yax,yaO];rfl
theorem La (c:Ck):c.enc.length=4:=rfl
theorem arH (c:Ck):c.enc[0]?=some (.i c.seg):=rfl
theorem Kz (c:Ck):yaA 4 c.enc=c.enc:=rfl
theorem arG (c:Ck):c.enc.all isD=true:=rfl
theorem amW (c:Ck):c.enc.all isC=true:=rfl
theorem Sf {c:Ck} {M:List Nat}:bD M c.enc=c.enc:=rfl
def inL (l:List Ck) (s:Int):List Ck:=l.filter fun c=>c.seg==s
theorem Fj {l:List Ck} {s:Int} {k:Nat} (h:k<l.length):inL (l.take (k+1)) s=inL (l.take k) s++(if l[k].seg=s then [l[k]] else []):=by
 unfold inL
 rw [List.take_add_one,yag h,List.filter_append]
 congr 1
 simp only [Option.toList,List.filter_cons,List.filter_nil,beq_iff_eq]
theorem agQ {l:List Ck} {s:Int}:(inL l s).length≤l.length:=ybr ..
set_option maxRecDepth 20000
theorem Cy {X Y:List Blk}:∀ {n:Nat},leH X Y→leH (yaa n Blk.dead++X) (yaa n Blk.dead++Y)
 | 0,h=>h
 | n+1,h=>⟨trivial,Cy (n:=n) h⟩
theorem vC {H X:List Blk}:∀ {n:Nat},wfB H X→wfB H (yaa n Blk.dead++X)
 | 0,h=>h
 | n+1,h=>vC (n:=n) h
theorem alX {L:Lg} {X:List Blk}:aC (lgH L++X) (L.cells.length+5):=by
 unfold aC
 have e:(lgH L++X)[L.cells.length+5]?=some (.arr 4 (L.found.map Ck.enc)):=by
  show (_::_::_::_::_::((yaa L.cells.length Blk.dead++[.arr 4 (L.found.map Ck.enc)])++X))[L.cells.length+5]?=_
  rw [yas,uV]
  rfl
 rw [e]
 trivial
theorem adR {L:Lg} {X:List Blk} {sz:Nat} {els:List (List V)}:aC (lgH L++.arr sz els::X) (L.cells.length+6):=by
 unfold aC
 have e:(lgH L++.arr sz els::X)[L.cells.length+6]?=some (.arr sz els):=by
  show (_::_::_::_::_::((yaa L.cells.length Blk.dead++[.arr 4 (L.found.map Ck.enc)])++.arr sz els::X))[L.cells.length+6]?=_
  rw [yas,eN]
  rfl
 rw [e]
 trivial
theorem Am {L:Lg} {X:List Blk} (hX:wfB (lgH L++X) X):wfB (lgH L++X) (lgH L++X):=by
 have:=L.wf (p:=0) [] X rfl (C:=X) (by rw [L.bs0];exact hX)
 rw [L.bs0] at this
 exact this
theorem Rf {L:Lg}:(lgH L).length=5+(L.n+1):=by rw [←L.bs0,L.len]
theorem tS {L:Lg} {X:List Blk}:aD [0,1,2,3,4] (lgH L++X):=by
 unfold lgH
 exact ⟨trivial,trivial,trivial,trivial,trivial,trivial⟩
def akA (L:Lg) (l:List Ck):V→List Blk→Prop:=fun r h=>h=lgH L++[.arr 4 (l.map Ck.enc)]∧r=.sl (L.cells.length+6) 0 l.length
theorem agB (L:Lg) (s:Int) (hl:L.found.length≤100000):OkN Tryz.prog 108 [.ptr 0 0 0,.i s] (L.bs 0) (yab 5 (L.n+1)) (akA L (inL L.found s)):=by
 refine cO pol [0,1,2,3,4] lw108 (by simp) ⟨trivial,trivial,trivial,trivial,trivial,trivial⟩ (fun k hk hm=>?_) ?_
 ·rw [L.len] at hk
  have:¬(5≤k∧k<5+(L.n+1)):=fun h2=>hm (yae.2 h2)
  have h3:k=0∨k=1∨k=2∨k=3∨k=4:=by omega
  rcases h3 with rfl|rfl|rfl|rfl|rfl<;>simp
 rw [L.len,L.bs0]
 unfold c108
 simp -implicitDefEqProofs only [rX,↓rY,aA,↓reduceIte,reduceCtorEq,cxN,lgH,aO]
 intro hml
 refine fS (.virt 1 4 (by decide) (.nilE 5 (L.cells.length+6) rfl (.refl _))) (fun k:Nat=>(⟨[(13,.i k),(12,.i L.found.length),(11,.sl (L.cells.length+5) 0 L.found.length),(5,.sl (L.cells.length+6) 0 (inL (L.found.take k) s).length),(1,.i s)],lgH L++[.arr 4 ((inL (L.found.take k) s).map Ck.enc)],0⟩:St)) (fun k=>k≤L.found.length) (fun k=>L.found.length-k) 0 (yaw _) ?_ ?_
 ·refine ⟨⟨rfl,rfl,rfl,rfl,rfl,trivial⟩,?_,⟨trivial,trivial,trivial,trivial,trivial,trivial⟩,?_,?_⟩
  ·exact aU _
  ·exact ⟨trivial,trivial,alX,adR,trivial,trivial⟩
  ·exact Am trivial
 intro k hk
 unfold c108l0
 simp -implicitDefEqProofs only [rX,↓rY,aA,cells?,splice,↓reduceIte,Nat.reduceEqDiff,dB,Nat.reduceAdd,reduceCtorEq,aF,bR,leE,leH,leB,leV,cI,aD,aC,wfE,wfB,wfV,wfL,aM,aK,kill,bD,St.kill,Nat.reduceLT,yao,yak,dC,uV,eN,k8,fJ,o5,mJ,Ac,dX,tV,La,arH,Kz,arG,amW,Sf,lgH,yaV,Nat.reduceEqDiff]
 cases hd:decide ((k:Int)<(L.found.length:Int)) with
 | true =>
  rw [we]
  have hk2:k<L.found.length:=by have:=of_decide_eq_true hd;omega
  have hin:(inL (L.found.take k) s).length≤L.found.length:=Nat.le_trans agQ (by rw [yaP];omega)
  refine ⟨⟨by omega,by omega⟩,hk2,?_⟩
  cases hc:L.found[k].seg==s with
  | true =>
   have hc':L.found[k].seg=s:=by simpa using hc
   rw [we]
   refine ⟨by omega,⟨by simp only [lo];omega,by simp only [hi];omega⟩,k+1,⟨by omega,by omega⟩,⟨by omega,?_⟩,?_,?_⟩
   ·rw [Fj hk2,if_pos hc',yaq];rfl
   ·refine Cy ⟨aS _,?_,trivial⟩
    rw [Fj hk2,if_pos hc',yaB (by rw [yai];exact yam _),yax]
    exact aS _
   ·exact vC trivial
  | false =>
   have hc':¬L.found[k].seg=s:=by simpa using hc
   rw [wg]
   have e:inL (L.found.take (k+1)) s=inL (L.found.take k) s:=by rw [Fj hk2,if_neg hc',yaf]
   refine ⟨⟨by simp only [lo];omega,by simp only [hi];omega⟩,k+1,⟨by omega,by omega⟩,⟨by omega,by rw [e]⟩,?_,?_⟩
   ·rw [e]
    exact Cy ⟨aS _,aS _,trivial⟩
   ·exact vC trivial
 | false =>
  rw [wg]
  have hk2:k=L.found.length:=by have:=of_decide_eq_false hd;omega
  subst hk2
  rw [List.take_length]
  rw [cC]
  have hlen:5+(L.n+1)≤(lgH L++[Blk.arr 4 ((inL L.found s).map Ck.enc)]).length:=by
   rw [yaq,Rf]
   exact Nat.le_add_right _ _
  have hl6:aC (lgH L++[Blk.arr 4 ((inL L.found s).map Ck.enc)]) (L.cells.length+6):=adR
  have hwf:wfB (lgH L++[Blk.arr 4 ((inL L.found s).map Ck.enc)]) (lgH L++[Blk.arr 4 ((inL L.found s).map Ck.enc)]):=Am trivial
  exact ⟨lgH L++[Blk.arr 4 ((inL L.found s).map Ck.enc)],⟨by unfold lgH;simp only [yay,yas];exact aU _,tS,hlen,hl6,hwf⟩,rfl,rfl⟩
set_option maxRecDepth 20000
theorem Ro {M:Nat→Bool} {h X:List Blk}:∀ {n k:Nat},gvH M h k (yaa n Blk.dead++X)=yaa n Blk.dead++gvH M h (k+n) X
 | 0,k=>rfl
 | n+1,k=>by
  have:=Ro (M:=M) (h:=h) (X:=X) (n:=n) (k:=k+1)
  rw [ybs,yay,yay]
  show (if M k=true then Blk.dead else Blk.dead)::gvH M h (k+1) _=_
  rw [this,ite_self,show k+1+n=k+(n+1) by omega]
theorem adW {L:Lg} {M:Nat→Bool} {h X:List Blk} (hM:∀ j,j<L.cells.length+6→M j=false):gvH M h 0 (lgH L++X)=lgH L++gvH M h (L.cells.length+6) X:=by
 have m0:=hM 0 (by omega)
 have m1:=hM 1 (by omega)
 have m2:=hM 2 (by omega)
 have m3:=hM 3 (by omega)
 have m4:=hM 4 (by omega)
 have m5:=hM (L.cells.length+5) (by omega)
 unfold lgH
 simp only [yay,yas,gvH,m0,m1,m2,m3,m4,Bool.false_eq_true,if_false,yaL,Ro,yal]
 rw [show 0+1+1+1+1+1+L.cells.length=L.cells.length+5 by omega]
 simp only [m5,Bool.false_eq_true,if_false,gvB,gvL,gvV,m1,m2,m3,m4,yaz]
theorem Ze {L:Lg} {X:List Blk} {B:Blk}:blk (lgH L++B::X) (L.cells.length+6)=B:=by
 show blk (_::_::_::_::_::((yaa L.cells.length Blk.dead++[.arr 4 (L.found.map Ck.enc)])++B::X)) (L.cells.length+6)=_
 rw [yas,Pr]
 rfl
theorem abQ {L:Lg} {sz:Nat} {els:List (List V)}:leG [0,1,2,3,4] ⟨[(0,.sl (L.cells.length+6) 0 els.length)],lgH L++[.arr sz els],0⟩ ⟨[(0,.ro sz els)],lgH L,0⟩:=by
 refine ⟨_,.give (fun k=>k==L.cells.length+6) (fun k hk=>?_) (.refl _),?_⟩
 ·simp at hk
  simp;omega
 ·show leS [0,1,2,3,4] ⟨[(0,gvV _ _ _)],gvH _ _ 0 (lgH L++_),0⟩ _
  rw [adW fun j hj=>by simp;omega]
  have e2:gvV (fun k=>k==L.cells.length+6) (lgH L++[.arr sz els]) (.sl (L.cells.length+6) 0 els.length)=.ro sz els:=by
   simp only [gvV,beq_self_eq_true,if_true,Ze,yaL,yam,List.drop_zero]
   rw [yaB (by simp)]
  have hk:=tS (L:=L) (X:=[])
  have hw:=Am (L:=L) (X:=[]) trivial
  rw [yaf] at hk hw
  exact ⟨⟨by simp only [get,if_true];exact e2,trivial⟩,dR,hk,⟨trivial,trivial⟩,hw⟩
theorem Hx {f:FuncId} {xs:List V} {L:Lg} {R:V→List Blk→Prop} {Q:V→Lg→Prop} (h:OkN Tryz.prog f xs (L.bs 0) (yab 5 (L.n+1)) R)
  (hR:∀ r hs,R r hs→aD [0,1,2,3,4] hs∧∃ r' L',L'.n=L.n∧Q r' L'∧leG [0,1,2,3,4] ⟨[(0,r)],hs,0⟩ ⟨[(0,r')],lgH L',0⟩):OkL f xs L Q:=by
 refine ⟨h.1,Jf [0,1,2,3,4] (fun k hk hm=>?_) (fun k hk=>?_) h.2 ?_⟩
 ·rw [L.len] at hk
  have:¬(5≤k∧k<5+(L.n+1)):=fun h2=>hm (yae.2 h2)
  have h3:k=0∨k=1∨k=2∨k=3∨k=4:=by omega
  rcases h3 with rfl|rfl|rfl|rfl|rfl<;>simp
 ·rw [L.len,yae]
  simp at hk;omega
 intro r hs hh
 obtain ⟨h1,r',L',h2,h3,h4⟩:=hR r hs hh
 refine ⟨h1,r',L'.bs 0,⟨L',⟨fun p=>by rw [L'.len,h2],h3⟩,rfl⟩,by rw [L.len,L'.len,h2];exact yam _,?_⟩
 rw [L'.bs0]
 exact h4
theorem alP (L:Lg) (s:Int) (hl:L.found.length≤100000):OkL 108 [.ptr 0 0 0,.i s] L (fun r L'=>L'=L∧r=.ro 4 ((inL L.found s).map Ck.enc)):=by
 refine Hx (agB L s hl) ?_
 rintro r hs ⟨rfl,rfl⟩
 refine ⟨tS,_,L,rfl,⟨rfl,rfl⟩,?_⟩
 have:=abQ (L:=L) (sz:=4) (els:=(inL L.found s).map Ck.enc)
 rw [yai] at this
 exact this
def lgX (L:Lg) (B:List Blk):List Blk:=.var [.ptr 2 0 0,.sl 1 0 L.gens.length,.i L.top,.i L.seq,.sl (L.cells.length+5) 0 L.found.length,.i L.seg,.i L.next]::.arr 1 (L.gens.map encI)::.var [.sl 3 0 L.cells.length,.mp 4,.i L.steps,.i (-1),.b false]::.arr 65 (L.cells.map Cl.enc)::.map [] L.c::(yaa L.cells.length .dead++.arr 4 (L.found.map Ck.enc)::B)
theorem iE {L:Lg} {B:List Blk}:lgH L++B=lgX L B:=by
 unfold lgH lgX
 simp only [yay,yas,yal]
section
variable {cx:Cx} {f:FuncId} {e:Env} {b:Nat} {K:V→St→Prop}
theorem lZ (B:List Blk) (L:Lg) (args xs:List V) (Q:V→Lg→Prop) (hC:cx.C f (.ptr 0 0 0::xs) (L.bs 0) (yab 5 (L.n+1)) (QF Lg.bs (5+(L.n+1)) Q))
  (ha:aE (lgX L B) (pos (yab 0 (5+(L.n+1)))) args∧wkL xs (aL (lgX L B) (pos (yab 0 (5+(L.n+1)))) args))
  (hbn:cx.bn=[]) (hfx:cx.fx=[0,1,2,3,4])
  (hB:B.map (aK (yab 5 (L.n+1)))=B)
  (h3:∀ (r:V) (L':Lg),L'.n=L.n→Q r L'→(∀ f,ren f r=r)∧K r ⟨aM (yab 5 (L.n+1)) e,lgX L' B,b⟩):aR cx f (.ptr 0 0 0::args) ⟨e,lgX L B,b⟩ K:=by
 have h:=tX (cx:=cx) (f:=f) (e:=e) (b:=b) (K:=K) Lg.bs 5 (L.n+1) (fun g hg p q f hf=>agK (by
  have:=hg 0
  rw [g.len] at this
  intro j hj
  exact hf j (by omega))) [] B L (fun p=>L.len) (by decide) args xs Q hC (by simp only [yaE,yal,L.bs0,iE];exact ha) (by rw [hbn];simp) (by rw [hfx];intro k hk;left;simp at hk;simp;omega) rfl (by simpa using hB) (fun r L' hn hq=>?_)
 ·simp only [yaE,yal,L.bs0,iE] at h
  exact h
 ·have hn':L'.n=L.n:=by have:=hn 0;rw [L'.len] at this;omega
  obtain ⟨q1,q2⟩:=h3 r L' hn' hq
  refine ⟨q1,?_,?_⟩
  ·simp only [yaE,yal,L'.bs0,hfx]
   exact tS
  ·simp only [yaE,yal,L'.bs0,iE,yaL]
   exact q2
theorem Lh (B:List Blk) (L:Lg) (args xs:List V) (Q:V→Lg→Prop) (hC:cx.C f (.ptr 0 0 0::xs) (L.bs 0) (yab 5 (L.n+1)) (QF Lg.bs (5+(L.n+1)) Q))
  (ha:aE (lgX L B) (pos (yab 0 (5+(L.n+1)))) args∧wkL xs (aL (lgX L B) (pos (yab 0 (5+(L.n+1)))) args))
  (hbn:cx.bn=[]) (hfx:cx.fx=[0,1,2,3,4])
  (hB:B.map (aK (yab 5 (L.n+1)))=B) (hE:aM (yab 5 (L.n+1)) e=e)
  (h3:∀ (r:V) (L':Lg),L'.n=L.n→Q r L'→(∀ f,ren f r=r)∧K r ⟨e,lgX L' B,b⟩):aR cx f (.ptr 0 0 0::args) ⟨e,lgX L B,b⟩ K :=
 lZ B L args xs Q hC ha hbn hfx hB (by rw [hE];exact h3)
end
def Lg.free (L:Lg) (s:Int):Bool:=s != L.seg&&(inL L.found s).length==0
theorem aqH (L:Lg) (s:Int) (hl:L.found.length≤100000):OkL 70 [.ptr 0 0 0,.i s] L (fun r L'=>L'=L∧r=.b (L.free s)):=by
 refine q8 lw70 (by simp) ?_
 unfold c70
 simp -implicitDefEqProofs only [rX,↓rY,aA,↓reduceIte,Nat.reduceEqDiff,reduceCtorEq,cxN,lgH,aO,Nat.reduceEqDiff]
 cases hs:s != L.seg with
 | true =>
  rw [we]
  refine Lh [] L [.i s] [.i s] _ (alP L s hl) ⟨⟨trivial,trivial⟩,⟨rfl,trivial⟩⟩ rfl rfl rfl (by simp [aM,kill]) ?_
  rintro r L'-⟨rfl,rfl⟩
  refine ⟨fun f=>rfl,?_⟩
  unfold lgX
  simp -implicitDefEqProofs only [rX,↓rY,aA,↓reduceIte,Nat.reduceEqDiff,Nat.reduceEqDiff]
  intro hm
  refine Gy L' (aU _) rfl ?_
  simp only [aY,yau,yav,yal,a7]
  refine ⟨trivial,trivial,?_⟩
  unfold Lg.free
  rw [hs,ybf]
  have:(((inL L'.found s).length:Int)==0)=((inL L'.found s).length==0):=by
   rw [Bool.eq_iff_iff];simp
  exact congrArg V.b this
 | false =>
  rw [wg]
  refine Gy L (aU _) rfl ?_
  simp only [aY,yau,yav,yal,a7]
  refine ⟨trivial,trivial,?_⟩
  unfold Lg.free
  rw [hs];rfl
set_option maxRecDepth 20000
theorem adS {a b c d e:Blk} {n sz m:Nat} {X:List Blk} {rows:List (List V)} (hm:m=rows.length):aG (a::b::c::d::e::(yaa n Blk.dead++.arr sz rows::X)) (fun _=>none) (.sl (n+5) 0 m)∧a6 (a::b::c::d::e::(yaa n Blk.dead++.arr sz rows::X)) (fun _=>none) (.sl (n+5) 0 m)=.bro sz rows:=by
 subst hm
 have e1:blk (a::b::c::d::e::(yaa n Blk.dead++.arr sz rows::X)) (n+5)=.arr sz rows:=by rw [Zf];rfl
 constructor
 ·simp [aG,e1]
 ·simp [a6,e1]
theorem akB (l:List Ck) (hl:l.length≤100000):Ok 75 [.bro 4 (l.map Ck.enc)] (fun r h=>IsA (.sl 0 0 l.length) [.arr 4 (l.map Ck.enc)] r h∨(l=[]∧IsA .nil [] r h)):=by
 refine bO lw75 (by simp) ?_
 unfold c75
 simp -implicitDefEqProofs only [rX,↓rY,aA,↓reduceIte,Nat.reduceEqDiff,reduceCtorEq,aF,bR,aM,aK,kill,St.kill,↓qbo,cxN,dC,aO,Nat.reduceEqDiff]
 have hA:∀ {x:V},dD [] 0 [eK.tmp 2] (fun r h=>IsA (.sl 0 0 l.length) [.arr 4 (l.map Ck.enc)] r h∨(l=[]∧IsA .nil [] r h)) ⟨[(2,V.sl 0 0 l.length),(7,V.sl 0 0 l.length),(6,V.bro 4 (yac Ck.enc l)),(5,V.any),(4,V.b false),(3,V.bro 4 (yac Ck.enc l)),(2,V.v (Value.slice none 0 0)),(0,V.bro 4 (yac Ck.enc l))],[Blk.arr 4 (yac Ck.enc l),Blk.dead],0⟩:=by
  intro x
  rw [cC]
  simp -implicitDefEqProofs only [rX,↓reduceIte,aY,a7,aD,aC,wfV]
  exact ⟨[.arr 4 (l.map Ck.enc)],⟨by simp [leH,leB],by simp [wfV,wfL,aC],by simp [wfB]⟩,.inl ⟨rfl,rfl⟩⟩
 refine ⟨fun _=>⟨.inr trivial,by omega,hA (x:=.any)⟩,fun h=>⟨?_,.inr trivial,by omega,hA (x:=.any)⟩⟩
 have h0:l=[]:=by simpa using h
 rw [cC]
 simp -implicitDefEqProofs only [rX,↓reduceIte,aY,a7,aD,wfV]
 exact ⟨[],⟨by simp [leH],by simp,by simp [wfB]⟩,.inr ⟨h0,rfl,rfl⟩⟩
theorem akU (l:List Ck) (hl:l.length≤100000):Ok 75 [.bro 4 (l.map Ck.enc)] (IsA (.sl 0 0 l.length) [.arr 4 (l.map Ck.enc)]):=by
 refine Hw (akB l hl) ?_
 rintro r h (⟨rfl,rfl⟩|⟨rfl,rfl,rfl⟩)
 ·exact ⟨_,_,⟨rfl,rfl⟩,_,.refl _,by simp -implicitDefEqProofs only [rX,↓reduceIte,leE,leH,leB,aD,aC,wfE,wfB,wfV]⟩
 ·refine ⟨_,_,⟨rfl,rfl⟩,_,.virt 1 4 (by decide) (.nilE 0 0 rfl (.refl _)),?_⟩
  simp -implicitDefEqProofs only [rX,↓reduceIte,leE,leH,leB,aD,aC,wfE,wfB,wfV,ybs]
theorem aqF (l:List Ck) (hl:l.length≤100000):Ok 75 [.bro 4 (l.map Ck.enc)] (Is (.ro 4 (l.map Ck.enc))):=by
 refine ⟨o6 lw75,Sk (R:=fun q hs=>wk (.ro 4 (l.map Ck.enc)) (gvV (fun _=>true) hs q)) ?_ fun _ _ h=>h⟩
 refine (f9 (akU l hl) ?_).2
 rintro r h ⟨rfl,rfl⟩
 have ht:yaA l.length (l.map Ck.enc)=l.map Ck.enc:=yaB (by simp)
 simp [gvV,gvL,wk,wkL,wkR,blk,ht]
theorem aqO (L:Lg) (hl:L.found.length≤100000):OkL 38 [.ptr 0 0 0] L (fun r L'=>L'=L∧r=.ro 4 (L.found.map Ck.enc)):=by
 refine q8 lw38 (by simp) ?_
 unfold c38
 simp -implicitDefEqProofs only [rX,↓rY,aA,↓reduceIte,reduceCtorEq,cxN,lgH,aO]
 have hle:L.found.length=(L.found.map Ck.enc).length:=by rw [yai]
 refine aJ (aqF L.found hl) ⟨⟨(adS hle).1,trivial⟩,⟨?_,trivial⟩⟩ rfl ⟨trivial,trivial,trivial,trivial,trivial,trivial⟩ ?_
 ·rw [(adS hle).2]
  exact ⟨rfl,rfl⟩
 simp -implicitDefEqProofs only [rX,↓reduceIte]
 refine Gy L (aU _) rfl ?_
 simp only [aY,yau,yav,yal,a7]
 exact ⟨trivial,trivial,rfl⟩
set_option maxRecDepth 20000
def p6 (s:Sec):Bs:=s.l.map UInt8.ofBitVec
theorem Lz {s:Sec}:(p6 s).length=64:=by unfold p6;rw [yai,s.h]
theorem vD {s:Sec}:us (p6 s)=s.enc:=by
 unfold us p6 Sec.enc
 rw [ybg]
 rfl
def acQ (b:Bs) (h:b.length=64):Sec:=⟨b.map UInt8.toBitVec,by rw [yai,h]⟩
theorem Og {b:Bs} {h:b.length=64}:p6 (acQ b h)=b:=by
 unfold p6 acQ
 rw [ybg]
 exact List.map_id _
def flB (ss:List Sec):Bs:=ss.flatMap p6
theorem Dc:∀ {ss:List Sec},(flB ss).length=64*ss.length
 | []=>rfl
 | s::r=>by
  have:=Dc (ss:=r)
  unfold flB at this ⊢
  rw [List.flatMap_cons,yaq,Lz,this,yaW]
  omega
def rdA (ss:List Sec) (k:Nat):Bs:=flB (ss.take k)++yaa (512-64*k) 0
theorem vL {ss:List Sec} {k:Nat} (h:ss.length=8) (hk:k≤8):(rdA ss k).length=512:=by
 unfold rdA
 rw [yaq,Dc,yaP,yah,h]
 omega
theorem Qu {ss:List Sec} {k:Nat} (h:ss.length=8) (hk:k<8):l9 (rdA ss k) (64*k) (p6 (ss[k]'(by omega)))=rdA ss (k+1):=by
 have e1:yaa (512-64*k) (0:UInt8)=yaa 64 0++yaa (512-64*(k+1)) 0:=by
  rw [List.replicate_append_replicate];congr 1;omega
 have e2:flB (ss.take (k+1))=flB (ss.take k)++p6 (ss[k]'(by omega)):=by
  unfold flB
  rw [List.take_add_one,yag (by omega),ybt]
  simp
 have e3:(flB (ss.take k)).length=64*k:=by rw [Dc,yaP];omega
 unfold rdA
 rw [e1,e2,←e3,tN (by rw [yah,Lz]),yas]
theorem vY {a b:Blk}:∀ {T:List Blk},leH (T++[a,b]) (T++[a])
 | []=>⟨aS a,trivial⟩
 | x::T=>⟨aS x,vY⟩
theorem alG (S:MS) (seg k:Int) (ss:List Sec) (hs:0≤seg∧seg≤100000) (hk:0≤k∧k≤100000) (hl:ss.length=8) (hr:∀ (j:Nat) (h:j<8),S.D.rd (seg*129+1+k*8+(j:Int))=(ss[j]'(by omega),0)) :
  OkD 29 [.ptr 0 0 0,.i seg,.i k] S (fun r S'=>S'=S∧r=.tup [.agg (us (flB ss)),.i 0]):=by
 refine mI lw29 (by simp) ?_
 unfold c29
 simp -implicitDefEqProofs only [rX,↓rY,aA,cells?,Nat.reduceAdd,aF,cxN,dQ,fH,dkV,dkC,aO]
 refine cX (fun i:Nat=>(⟨[(11,.i i),(6,.ptr ((dkT S.D).length+3) 0 0),(7,.i 0),(0,.ptr 0 0 0),(1,.i seg),(2,.i k)],dkV 0 S.D::dkC S.D::.map (cD 0 S.D S.L) S.c::(dkT S.D++[.var (us (rdA ss i))]),0⟩:St)) (fun i=>i≤8) (fun i=>8-i) 0 (yaw _) ?_ ?_
 ·rw [zU 512]
  refine Pd S (Y:=[.var (us (rdA ss 0))]) ⟨rfl,rfl,rfl,rfl,rfl,rfl,trivial⟩ ?_ ⟨trivial,Em (by simp),trivial,trivial,trivial,trivial,trivial⟩ ⟨eD,trivial⟩
  have e:rdA ss 0=yaa 512 0:=rfl
  rw [e]
  exact aU _
 intro i hi
 unfold c29l0
 simp -implicitDefEqProofs only [rX,↓rY,aA,cells?,splice,↓reduceIte,Nat.reduceEqDiff,reduceCtorEq,dQ,fH,dkV,dkC,mF]
 cases hd:decide ((i:Int)<8) with
 | true =>
  have hi2:i<8:=by have:=of_decide_eq_true hd;omega
  rw [we]
  refine aJ (abD seg k hs hk) ⟨⟨trivial,trivial,trivial⟩,rfl,rfl,trivial⟩ rfl ⟨trivial,trivial,trivial,trivial⟩ ?_
  simp -implicitDefEqProofs only [rX,↓rY,↓reduceIte,Nat.reduceEqDiff]
  refine ⟨by simp only [lo,Fx.hi];omega,?_⟩
  refine Az (B:=[.var (us (rdA ss i)),.dead]) (S:=S) (agA S (seg*129+1+k*8+i)) (fun _ _=>⟨⟨trivial,trivial⟩,rfl,trivial⟩) (by simp) (by simp) (by simp [aK,fZ]) (by simp [aM,kill,yae,S.T_len];omega) ?_
  rintro r S' hn ⟨rfl,rfl⟩
  rw [hr i hi2]
  refine ⟨fun g=>?_,?_⟩
  ·simp [ren,bZ,Cr]
  simp -implicitDefEqProofs only [rX,↓rY,aA,cells?,splice,↓reduceIte,Nat.reduceEqDiff,Nat.reduceAdd,reduceCtorEq,aF,bN,leE,leH,leB,leV,cI,aD,aC,wfE,wfB,wfV,wfL,↓qbx,yak,Iy,cB,Bi,dQ,fH,pD,pZ,dkV,dkC,gY]
  have h0:((0:Int) != 0)=false:=rfl
  rw [h0,wg]
  have hz:((i:Int)*64).toNat=64*i:=by omega
  have t1:yaA (64-yaH 0) (yaQ (yaH 0) ss[i].enc)=ss[i].enc:=fL _
  have t2:yaA (512-64*i) (yac (fun c=>[c]) ss[i].enc)=yac (fun c=>[c]) ss[i].enc:=yaB (by rw [yai,cB];omega)
  have hA:=vL (k:=i) hl (by omega)
  rw [hz,t1,t2,rE,←vD,tJ,fK,hA,Qu hl hi2]
  refine ⟨⟨by simp only [lo];omega,by simp only [Fx.hi];omega⟩,⟨by omega,⟨by omega,by omega⟩,by omega⟩,⟨⟨by omega,by omega⟩,by omega⟩,⟨by decide,Sn⟩,.inr trivial,by omega,⟨by simp only [lo];omega,by simp only [Fx.hi];omega⟩,i+1,⟨by omega,by omega⟩,by omega,?_,?_⟩
  ·exact vY
  ·have:=S'.wf (p:=0) [] [.var (us (rdA ss (i+1)))] rfl (C:=[.var (us (rdA ss (i+1)))]) ⟨eD,trivial⟩
   exact ⟨this.2.1,this.2.2⟩
 | false =>
  have hi2:i=8:=by have:=of_decide_eq_false hd;omega
  subst hi2
  rw [wg]
  have hA:=vL (k:=8) hl (by omega)
  have h8:rdA ss 8=flB ss:=by
   unfold rdA
   rw [yaB (by omega),List.replicate_zero,yaf]
  rw [h8] at hA ⊢
  obtain ⟨u1,u2,u3⟩:=t8 hA
  rw [u2,u1,u3,yaf,nR]
  refine ⟨yam _,rfl,rfl,yam _,?_⟩
  refine vI S (dR (h:=S.bs 0) (X:=[.var (us (flB ss))])) rfl ?_
  simp -implicitDefEqProofs only [rX,↓rY,↓reduceIte,Nat.reduceEqDiff,aY,a7,wfV,wfL,dQ,aY,a7,u1,u2]
  exact eD
set_option maxRecDepth 20000
theorem agZ {a b:Blk} {T X:List Blk}:(a::b::(T++X))[T.length+2]?=X[0]?:=by
 have:(a::b::(T++X))[T.length+2]?=(T++X)[T.length+0]?:=rfl
 rw [this,yan (by omega)];congr 1;omega
theorem agY {a b:Blk} {T X:List Blk}:(a::b::(T++X))[T.length+3]?=X[1]?:=by
 have:(a::b::(T++X))[T.length+3]?=(T++X)[T.length+1]?:=rfl
 rw [this,yan (by omega)];congr 1;omega
theorem afB {a b B:Blk} {T X:List Blk}:(a::b::(T++X)).set (T.length+3) B=a::b::(T++X.set 1 B):=by
 have:(a::b::(T++X)).set (T.length+3) B=a::b::((T++X).set (T.length+1) B):=rfl
 rw [this,yaD _ _ (by omega)];congr 4;omega
theorem ahQ {S:MS} {X Y:List Blk}:S.bs 2++X++Y=S.bs 2++(X++Y):=yas ..
def lgM (L:Lg) (S:MS) (B:List Blk):List Blk:=.var [.ptr 2 0 0,.sl 1 0 L.gens.length,.i L.top,.i L.seq,.sl (L.cells.length+5) 0 L.found.length,.i L.seg,.i L.next]::.arr 1 (L.gens.map encI)::(S.bs 2++.arr 4 (L.found.map Ck.enc)::B)
theorem vW {L:Lg} {B:List Blk}:lgX L B=lgM L L.S B:=by
 unfold lgX lgM
 rw [←L.T]
 rfl
theorem Xd {L:Lg}:lgH L=lgM L L.S []:=by
 rw [←vW,←iE,yaf]
theorem tL {s:Sec} {H:List Blk} {g:Nat→Option Nat}:aE H g s.enc∧wkL s.enc (aL H g s.enc):=by
 unfold Sec.enc
 generalize s.l=l
 induction l with
 | nil=>exact ⟨trivial,trivial⟩
 | cons x r ih=>exact ⟨⟨trivial,ih.1⟩,rfl,ih.2⟩
structure Wr (D:Dk) (f:Nat) (ss:List Sec) (k:Nat) (D':Dk):Prop where
 cells:D'.cells=D.cells
 after:D'.after=-1
 dead:D'.dead=false
 steps:D'.steps=D.steps+k
 op:∀ i,D'.op i=if f≤i∧i<f+k then [ss.getD (i-f) zS] else []
theorem Wr.zero {L:Lg} {f:Nat} {ss:List Sec}:Wr L.D f ss 0 L.D:=⟨rfl,rfl,rfl,rfl,fun i=>by rw [L.op,if_neg (by omega)]⟩
theorem Wr.chk {D D':Dk} {f k:Nat} {ss:List Sec} (h:Wr D f ss k D') {i:Int} (h0:0≤i) (h1:i<D.cells.length):D'.chk i=0:=by
 unfold Dk.chk
 have hn:(D'.n:Int)=D.cells.length:=by show (D'.cells.length:Int)=_;rw [h.cells]
 rw [if_neg (by rw [h.dead];decide),if_neg (by omega)]
theorem Wr.step {D D':Dk} {f k:Nat} {ss:List Sec} (h:Wr D f ss k D') (ho:D'.opn.length=D'.cells.length) (hk:f+k<D.cells.length):Wr D f ss (k+1) (D'.wrD ((f+k:Nat):Int) (ss.getD k zS))∧D'.wrE ((f+k:Nat):Int)=0:=by
 have hc:=h.chk (i:=((f+k:Nat):Int)) (by omega) (by omega)
 have hst:D'.stepE=0:=by unfold Dk.stepE;rw [if_neg (by rw [h.after];decide)]
 have hsD:D'.stepD={ D' with steps:=D'.steps+1 }:=by
  unfold Dk.stepD
  rw [if_neg (by rw [h.after];decide),h.after]
  rw [if_neg (by decide)]
 constructor
 ·have hw:D'.wrD ((f+k:Nat):Int) (ss.getD k zS)=D'.stepD.addD (f+k) (ss.getD k zS):=by
   unfold Dk.wrD
   rw [if_neg (by rw [hc];simp),if_neg (by rw [hst];simp),yak]
  rw [hw,hsD]
  refine ⟨h.cells,h.after,h.dead,by show D'.steps+1=_;rw [h.steps];omega,fun i=>?_⟩
  rw [rP (by show _<D'.opn.length;rw [ho,h.cells];omega)]
  have e:∀ j,({ D' with steps:=D'.steps+1 }:Dk).op j=D'.op j:=fun j=>rfl
  rw [e,e]
  by_cases hi:i=f+k
  ·subst hi
   rw [if_pos rfl,if_pos (by omega),h.op,if_neg (by omega),yaF]
   rfl
  ·rw [if_neg hi,h.op]
   by_cases h2:f≤i∧i<f+k
   ·rw [if_pos h2,if_pos (by omega)]
   ·rw [if_neg h2,if_neg (by omega)]
 ·unfold Dk.wrE
  rw [if_neg (by rw [hc];simp),hst]
def vP (cs:List Cl) (f:Nat) (ss:List Sec):List Cl:=(yat cs.length).map fun i=>if f≤i∧i<f+ss.length then ⟨ss.getD (i-f) zS,false⟩ else cs.getD i zC
theorem e6 {cs:List Cl} {f:Nat} {ss:List Sec}:(vP cs f ss).length=cs.length:=by unfold vP;simp
def Lg.wrote (L:Lg) (f:Nat) (ss:List Sec) (c:Nat):Lg:={ L with cells:=vP L.cells f ss,steps:=L.steps+ss.length+1,c:=c }
theorem Wr.sync {L:Lg} {f:Nat} {ss:List Sec} {S S':MS} (h:Wr L.D f ss ss.length S.D) (hn:0<L.cells.length) (hs:S'.D=S.D.syD):S.D.syE=0∧S'=(L.wrote f ss S'.c).S:=by
 have hc:=h.chk (i:=0) (by omega) (by show (0:Int)<L.cells.length;omega)
 have hst:S.D.stepE=0:=by unfold Dk.stepE;rw [if_neg (by rw [h.after];decide)]
 have hsD:S.D.stepD={ S.D with steps:=S.D.steps+1 }:=by
  have:=h.after
  unfold Dk.stepD
  rw [if_neg (by rw [h.after];decide),h.after]
  rw [if_neg (by decide)]
  cases hD:S.D
  rw [hD] at this
  simp only at this
  subst this
  rfl
 refine ⟨by unfold Dk.syE;rw [if_neg (by rw [hc];simp),hst],?_⟩
 have e1:S'.D=(L.wrote f ss S'.c).D:=by
  rw [hs]
  unfold Dk.syD
  rw [if_neg (by rw [hc];simp),if_neg (by rw [hst];simp),hsD]
  unfold Dk.allD Lg.wrote Lg.D
  have hcell:S.D.cells=L.cells:=h.cells
  have e2:∀ j,({ S.D with steps:=S.D.steps+1 }:Dk).op j=S.D.op j:=fun j=>rfl
  have e3:((yat S.D.cells.length).map fun i=>if S.D.op i=[] then S.D.cells.getD i zC else ⟨vZ (S.D.op i),false⟩)=vP L.cells f ss:=by
   unfold vP
   rw [hcell]
   refine yaT fun i _=>?_
   rw [h.op]
   by_cases h2:f≤i∧i<f+ss.length
   ·rw [if_pos h2,if_pos h2,if_neg (by simp)];rfl
   ·rw [if_neg h2,if_neg h2,if_pos rfl]
  simp only [e2]
  rw [e3,h.after,h.dead,e6,hcell,h.steps]
  rfl
 have e4:S'.L=[]:=by
  cases hL:S'.L with
  | nil=>rfl
  | cons x r =>
   have:=((S'.ok.key x.1).1 (by rw [hL];simp)).2
   rw [e1,Lg.op] at this
   exact absurd rfl this
 obtain ⟨D',L',c',ok'⟩:=S'
 simp only at e1 e4
 subst e4
 have:(L.wrote f ss c').S=⟨(L.wrote f ss c').D,[],c',(L.wrote f ss c').S.ok⟩:=rfl
 rw [this]
 congr 1
section
variable {cx:Cx} {f:FuncId} {e:Env} {b:Nat} {K:V→St→Prop}
theorem Di (L:Lg) (S:MS) (B:List Blk) (args xs:List V) (Q:V→MS→Prop) (hC:cx.C f (.ptr 0 0 0::xs) (S.bs 0) (yab 3 S.n) (QM S.n Q))
  (ha:∀ (H:List Blk) (g:Nat→Option Nat),aE H g args∧wkL xs (aL H g args)) (hn:S.n=L.cells.length)
  (hbn:∀ k∈cx.bn,k<2) (hfx:cx.fx=[0,1,2,3,4])
  (hB:B.map (aK (yab 5 S.n))=B) (hE:aM (yab 5 S.n) e=e)
  (h3:∀ (r:V) (S':MS),S'.n=S.n→Q r S'→(∀ g,ren g r=r)∧K r ⟨e,lgM L S' B,b⟩):aR cx f (.ptr 2 0 0::args) ⟨e,lgM L S B,b⟩ K:=by
 refine Sh [.var [.ptr 2 0 0,.sl 1 0 L.gens.length,.i L.top,.i L.seq,.sl (L.cells.length+5) 0 L.found.length,.i L.seg,.i L.next],.arr 1 (L.gens.map encI)] (.arr 4 (L.found.map Ck.enc)::B) S args xs Q hC (ha _ _) (fun k hk=>.inl (hbn k hk)) (by rw [hfx];intro k hk;left;simp at hk;simp;omega) ?_ ?_ hE fun r S' h1 h2=>?_
 ·have h2:(2:Nat)∉yab (2+3) S.n:=fun h=>by have:=yae.1 h;omega
  have h1:(1:Nat)∉yab (2+3) S.n:=fun h=>by have:=yae.1 h;omega
  have h5:(L.cells.length+5:Nat)∉yab (2+3) S.n:=fun h=>by have:=yae.1 h;omega
  show [aK (yab (2+3) S.n) _,aK (yab (2+3) S.n) _]=_
  simp only [aK,bD,kill,if_neg h2,if_neg h1,if_neg h5]
 ·rw [yap]
  show aK _ (.arr 4 _)::B.map (aK (yab (2+3) S.n))=_
  rw [show 2+3=5 from rfl,hB]
  rfl
 ·obtain ⟨q1,q2⟩:=h3 r S' h1 h2
  refine ⟨q1,?_,q2⟩
  rw [hfx]
  exact ⟨trivial,trivial,trivial,trivial,trivial,trivial⟩
end
theorem Pe {L:Lg} {S:MS} {X:List Blk}:aD [0,1,2,3,4] (lgM L S X):=⟨trivial,trivial,trivial,trivial,trivial,trivial⟩
theorem Pa {L:Lg} {S:MS} {X:List Blk} (hn:S.n=L.cells.length):aC (lgM L S X) (L.cells.length+5):=by
 have e:L.cells.length+5=(S.bs 2).length+2:=by rw [S.len];omega
 unfold aC
 rw [e]
 show (match (_::_::(S.bs 2++.arr 4 (L.found.map Ck.enc)::X))[(S.bs 2).length+2]? with|some .dead=>False|some _=>True|none=>False)
 rw [agZ]
 trivial
theorem ahV {L:Lg} {S:MS} {X:List Blk} (hn:S.n=L.cells.length) (hX:wfB (lgM L S X) X):wfB (lgM L S X) (lgM L S X):=by
 refine ⟨⟨trivial,trivial,trivial,trivial,Pa hn,trivial,trivial,trivial⟩,?_⟩
 exact S.wf [.var [.ptr 2 0 0,.sl 1 0 L.gens.length,.i L.top,.i L.seq,.sl (L.cells.length+5) 0 L.found.length,.i L.seg,.i L.next],.arr 1 (L.gens.map encI)] (.arr 4 (L.found.map Ck.enc)::X) rfl hX
theorem adT {L:Lg} {S:MS} {h Y:List Blk} {e p:Env} {b b':Nat} (hn:S.n=L.cells.length) (he:leE e p) (hh:leH h (lgM L S Y)) (hwe:wfE (lgM L S Y) p) (hwb:wfB (lgM L S Y) Y):leS [0,1,2,3,4] ⟨e,h,b⟩ ⟨p,lgM L S Y,b'⟩:=⟨he,hh,Pe,hwe,ahV hn hwb⟩
theorem alC (L:Lg) (f:Nat) (ss:List Sec) (hn:0<L.cells.length) (hf:f+ss.length≤L.cells.length) (hl:L.cells.length≤100000) (hs:L.steps≤1000000000000):OkL 36 [.ptr 0 0 0,.i f,.bro 64 (ss.map Sec.enc)] L (fun r L'=>(∃ c,L'=L.wrote f ss c)∧r=.i 0):=by
 refine q8 lw36 (by simp) ?_
 rw [Xd]
 unfold c36
 simp -implicitDefEqProofs only [rX,↓rY,aA,↓reduceIte,Nat.reduceEqDiff,Nat.reduceAdd,reduceCtorEq,cxN,lgM,aO,Nat.reduceEqDiff]
 intro hm
 refine cX (fun g:Nat × MS=>(⟨[(12,.i g.1),(11,.i ss.length),(10,.bro 64 (ss.map Sec.enc)),(0,.ptr 0 0 0),(1,.i f)],lgM L g.2 [],0⟩:St)) (fun g=>g.1≤ss.length∧g.2.n=L.cells.length∧Wr L.D f ss g.1 g.2.D) (fun g=>ss.length-g.1) (0,L.S) ⟨yaw _,rfl,Wr.zero⟩ ?_ ?_
 ·exact adT rfl ⟨rfl,rfl,rfl,rfl,rfl,trivial⟩ (aU _) ⟨trivial,trivial,trivial,trivial,trivial,trivial⟩ trivial
 rintro ⟨k,S⟩ ⟨hk,hSn,hW⟩
 unfold c36l0
 simp -implicitDefEqProofs only [rX,↓rY,aA,cells?,splice,↓reduceIte,Nat.reduceEqDiff,Nat.reduceAdd,reduceCtorEq,aF,yao,yak,agY,afB,ahQ,lgM,cB,fL,Bi,gY,Iy,Nat.reduceEqDiff]
 cases hd:decide ((k:Int)<(ss.length:Int)) with
 | true =>
  have hk2:k<ss.length:=by have:=of_decide_eq_true hd;omega
  rw [we]
  have hgd:ss.getD k zS=ss[k]:=by rw [yad,yag hk2];rfl
  obtain ⟨hW2,hE2⟩:=hW.step (S.ok.len) (by show f+k<L.cells.length;omega)
  rw [hgd] at hW2
  have hsl:S.D.steps=L.steps+k:=hW.steps
  refine ⟨⟨by omega,by omega⟩,hk2,⟨by simp only [lo];omega,by simp only [hi];omega⟩,?_⟩
  rw [show (f:Int)+(k:Int)=((f+k:Nat):Int) by omega]
  refine Di L S [.var ss[k].enc] [.i ((f+k:Nat):Int),.agg ss[k].enc] [.i ((f+k:Nat):Int),.agg ss[k].enc] _ (akX S ((f+k:Nat):Int) ss[k] (by omega) (by rw [hW.after];decide) (fun j=>by rw [hW.op];split<;>simp)) (fun _ _=>⟨⟨trivial,tL.1,trivial⟩,rfl,tL.2,trivial⟩) hSn (by simp) rfl (by simp [aK,f8]) ?_ ?_
  ·simp [aM,kill,f8,yae,S.len]
   omega
  rintro r S' hn' ⟨hD',rfl⟩
  rw [hE2]
  refine ⟨fun g=>rfl,?_⟩
  simp -implicitDefEqProofs only [rX,↓rY,aA,↓reduceIte,Nat.reduceEqDiff,Nat.reduceAdd,reduceCtorEq,leE,leH,leB,leV,cI,aD,aC,wfE,wfB,wfV,wfL,lgM,Nat.reduceEqDiff]
  rw [show ((0:Int) != 0)=false from rfl,wg]
  refine ⟨⟨by simp only [lo];omega,by simp only [hi];omega⟩,(k+1,S'),⟨⟨by show k+1≤_;omega,by show S'.n=_;rw [hn',hSn],by show Wr L.D f ss (k+1) S'.D;rw [hD'];exact hW2⟩,by show _-(k+1)<_;omega⟩,?_⟩
  have hn2:S'.n=L.cells.length:=by rw [hn',hSn]
  have hkp:=Pe (L:=L) (S:=S') (X:=[])
  have hw:=ahV (L:=L) (S:=S') (X:=[]) hn2 trivial
  exact ⟨by show (k:Int)+1=((k+1:Nat):Int);omega,vY,⟨hkp.2.2.1,hkp.2.2.2.1,hkp.2.2.2.2.1⟩,⟨hw.1.1,Pa hn2⟩,hw.2⟩
 | false =>
  rw [wg]
  have hk2:k=ss.length:=by have:=of_decide_eq_false hd;omega
  subst hk2
  obtain ⟨-,hsE⟩:True∧S.D.steps=L.steps+ss.length:=⟨trivial,hW.steps⟩
  refine Di L S [] [] [] _ (akV S (by omega) (by rw [hW.after];decide)) (fun _ _=>⟨trivial,trivial⟩) hSn (by simp) rfl rfl (by simp [aM,kill,yae]) ?_
  rintro r S' hn' ⟨hD',rfl⟩
  obtain ⟨hE,hS'⟩:=hW.sync hn hD'
  rw [hE]
  refine ⟨fun g=>rfl,?_⟩
  simp -implicitDefEqProofs only [rX,↓reduceIte]
  have hM:lgM L S' []=lgM (L.wrote f ss S'.c) (L.wrote f ss S'.c).S []:=by
   rw [←hS']
   unfold lgM Lg.wrote
   simp only [e6]
  rw [hM,←Xd]
  have hn5:(L.wrote f ss S'.c).n=L.n:=e6
  refine Gy (L.wrote f ss S'.c) (aU _) hn5 ?_
  simp only [aY,yau,yav,yal,a7]
  exact ⟨trivial,⟨_,rfl⟩,rfl⟩
set_option maxRecDepth 20000
structure WrG (D:Dk) (o:Nat→Option Sec) (k:Nat) (D':Dk):Prop where
 cells:D'.cells=D.cells
 after:D'.after=-1
 dead:D'.dead=false
 steps:D'.steps=D.steps+k
 op:∀ i,D'.op i=(o i).toList
theorem WrG.zero {L:Lg}:WrG L.D (fun _=>none) 0 L.D:=⟨rfl,rfl,rfl,rfl,fun i=>by rw [L.op];rfl⟩
theorem WrG.chk {D D':Dk} {k:Nat} {o:Nat→Option Sec} (h:WrG D o k D') {i:Int} (h0:0≤i) (h1:i<D.cells.length):D'.chk i=0:=by
 unfold Dk.chk
 have hn:(D'.n:Int)=D.cells.length:=by show (D'.cells.length:Int)=_;rw [h.cells]
 rw [if_neg (by rw [h.dead];decide),if_neg (by omega)]
theorem WrG.stepD {D D':Dk} {k:Nat} {o:Nat→Option Sec} (h:WrG D o k D'):D'.stepE=0∧D'.stepD={ D' with steps:=D'.steps+1 }:=by
 refine ⟨by unfold Dk.stepE;rw [if_neg (by rw [h.after];decide)],?_⟩
 unfold Dk.stepD
 rw [if_neg (by rw [h.after];decide),h.after]
 rw [if_neg (by decide)]
theorem WrG.step {D D':Dk} {k i:Nat} {o:Nat→Option Sec} {s:Sec} (h:WrG D o k D') (ho:D'.opn.length=D'.cells.length) (hi:i<D.cells.length) (hf:o i=none):WrG D (fun j=>if j=i then some s else o j) (k+1) (D'.wrD (i:Int) s)∧D'.wrE (i:Int)=0:=by
 have hc:=h.chk (i:=(i:Int)) (by omega) (by omega)
 obtain ⟨hst,hsD⟩:=h.stepD
 constructor
 ·have hw:D'.wrD (i:Int) s=D'.stepD.addD i s:=by
   unfold Dk.wrD
   rw [if_neg (by rw [hc];simp),if_neg (by rw [hst];simp),yak]
  rw [hw,hsD]
  refine ⟨h.cells,h.after,h.dead,by show D'.steps+1=_;rw [h.steps];omega,fun j=>?_⟩
  rw [rP (by show _<D'.opn.length;rw [ho,h.cells];omega)]
  have e:∀ j,({ D' with steps:=D'.steps+1 }:Dk).op j=D'.op j:=fun j=>rfl
  rw [e,e]
  by_cases hj:j=i
  ·subst hj
   rw [if_pos rfl,h.op,hf]
   simp
  ·rw [if_neg hj,h.op]
   simp [hj]
 ·unfold Dk.wrE
  rw [if_neg (by rw [hc];simp),hst]
def El (cs:List Cl) (o:Nat→Option Sec):List Cl:=(yat cs.length).map fun i=>match o i with
 | some s=>⟨s,false⟩
 | none=>cs.getD i zC
theorem nY {cs:List Cl} {o:Nat→Option Sec}:(El cs o).length=cs.length:=by unfold El;simp
def Lg.wroteG (L:Lg) (o:Nat→Option Sec) (k c:Nat):Lg:={ L with cells:=El L.cells o,steps:=L.steps+k+1,c:=c }
theorem WrG.sync {L:Lg} {o:Nat→Option Sec} {k:Nat} {S S':MS} (h:WrG L.D o k S.D) (hn:0<L.cells.length) (hs:S'.D=S.D.syD):S.D.syE=0∧S'=(L.wroteG o k S'.c).S:=by
 have hc:=h.chk (i:=0) (by omega) (by show (0:Int)<L.cells.length;omega)
 obtain ⟨hst,hsD⟩:=h.stepD
 refine ⟨by unfold Dk.syE;rw [if_neg (by rw [hc];simp),hst],?_⟩
 have e1:S'.D=(L.wroteG o k S'.c).D:=by
  rw [hs]
  unfold Dk.syD
  rw [if_neg (by rw [hc];simp),if_neg (by rw [hst];simp),hsD]
  unfold Dk.allD Lg.wroteG Lg.D
  have hcell:S.D.cells=L.cells:=h.cells
  have e2:∀ j,({ S.D with steps:=S.D.steps+1 }:Dk).op j=S.D.op j:=fun j=>rfl
  have e3:((yat S.D.cells.length).map fun i=>if S.D.op i=[] then S.D.cells.getD i zC else ⟨vZ (S.D.op i),false⟩)=El L.cells o:=by
   unfold El
   rw [hcell]
   refine yaT fun i _=>?_
   rw [h.op]
   cases o i with
   | some s=>rfl
   | none=>rfl
  simp only [e2]
  rw [e3,h.after,h.dead,nY,hcell,h.steps]
  rfl
 have e4:S'.L=[]:=by
  cases hL:S'.L with
  | nil=>rfl
  | cons x r =>
   have:=((S'.ok.key x.1).1 (by rw [hL];simp)).2
   rw [e1,Lg.op] at this
   exact absurd rfl this
 obtain ⟨D',L',c',ok'⟩:=S'
 simp only at e1 e4
 subst e4
 have:(L.wroteG o k c').S=⟨(L.wroteG o k c').D,[],c',(L.wroteG o k c').S.ok⟩:=rfl
 rw [this]
 congr 1
theorem Ui {L:Lg} {o:Nat→Option Sec} {k c:Nat} {S:MS} {B:List Blk}:lgM (L.wroteG o k c) S B=lgM L S B:=by
 unfold lgM Lg.wroteG
 simp only [nY]
def erO (s k:Nat):Nat→Option Sec:=fun i=>if (∃ j,j<k∧i=s*129+1+j*8) then some zS else none
theorem Yf {s k:Nat}:(fun j=>if j=s*129+1+k*8 then some zS else erO s k j)=erO s (k+1):=by
 funext j
 unfold erO
 by_cases h:j=s*129+1+k*8
 ·rw [if_pos h,if_pos ⟨k,by omega,h⟩]
 ·rw [if_neg h]
  by_cases h2:∃ i,i<k∧j=s*129+1+i*8
  ·obtain ⟨i,h3,h4⟩:=h2
   rw [if_pos ⟨i,h3,h4⟩,if_pos ⟨i,by omega,h4⟩]
  ·rw [if_neg h2,if_neg]
   rintro ⟨i,h3,h4⟩
   by_cases h5:i=k
   ·subst h5;exact h h4
   ·exact h2 ⟨i,by omega,h4⟩
theorem Yg {s k:Nat}:erO s k (s*129+1+k*8)=none:=by
 unfold erO
 rw [if_neg]
 rintro ⟨j,h1,h2⟩
 omega
def Lg.erased (L:Lg) (s c:Nat):Lg:=L.wroteG (erO s 16) 16 c
theorem Nh {L:Lg} {s c:Nat}:(L.erased s c).n=L.n:=nY
def Lg.gen (L:Lg) (s:Nat):Lg:={ L with top:=L.top+1,gens:=L.gens.set s (L.top+1) }
def hdS (seg gen:Int):Sec:=acQ (Fl seg gen) Ig
theorem Rn {seg gen:Int}:us (Fl seg gen)=(hdS seg gen).enc:=by
 rw [←vD]
 unfold hdS
 rw [Og]
theorem alZ {L:Lg} {sz m:Nat} {rows:List (List V)} {X:List Blk} (hm:m=rows.length):aG (lgX L (.arr sz rows::X)) (pos (yab 0 (5+(L.n+1)))) (.sl (L.cells.length+6) 0 m)∧a6 (lgX L (.arr sz rows::X)) (pos (yab 0 (5+(L.n+1)))) (.sl (L.cells.length+6) 0 m)=.bro sz rows:=by
 subst hm
 have e1:blk (lgX L (.arr sz rows::X)) (L.cells.length+6)=.arr sz rows:=by
  unfold lgX
  rw [Pr]
  rfl
 have e2:pos (yab 0 (5+(L.n+1))) (L.cells.length+6)=none:=by
  rw [eR,if_neg]
  show ¬(0≤L.cells.length+6∧L.cells.length+6<0+(5+(L.cells.length+1)))
  omega
 constructor
 ·simp [aG,e1,e2]
 ·simp [a6,e1,e2]
theorem Ul {v:V} {sz:Nat} {rows:List (List V)} (h:v=.bro sz rows):wk (.bro sz rows) v:=by subst h;exact ⟨rfl,rfl⟩
theorem c47_parts:c71=.seq (pt 0 c71) (.seq (pt 1 c71) (rt 2 c71)):=by rfl
theorem t47 (L:Lg) (s:Nat) (n m:Nat) (hn:L.n=n) (hs:s<L.gens.length) (hg:L.gens.length≤700) (hc:129*L.gens.length≤L.cells.length∧L.cells.length≤100000) (ht:0≤L.top∧L.top≤2000000000000000000) (hst:L.steps≤1000000000000) {Q:V→Lg→Prop} {e:Env} {bb:Nat} {N:St→Prop} {X:Nat→St→Prop} (g0:get e 0=.ptr 0 0 0) (g1:get e 1=.i s)
  (hQ:∀ c,Q (.i 0) ((L.wrote (s*129) [hdS s (L.top+1)] c).gen s)):aw (cxN Tryz.prog [0,1,2,3,4]) (rt 2 c71) N X (dD [0,1,2,3,4] (5+(n+1)) [.tmp 4] (QF Lg.bs (5+(n+1)) Q)) ⟨e,lgX L [],bb⟩:=by
 conv=>arg 2;whnf
 unfold lgX
 simp -implicitDefEqProofs only [rX,↓rY,aA,cells?,splice,↓reduceIte,Nat.reduceEqDiff,Nat.reduceAdd,reduceCtorEq,isC,Nat.reduceLeDiff,cxN,dX,Nat.reduceEqDiff,g0,g1]
 refine ⟨⟨by simp only [lo];omega,by simp only [hi];omega⟩,⟨by simp only [lo];omega,by simp only [hi];omega⟩,?_⟩
 refine aJ (alH s (L.top+1) (by
  intro x hx
  simp only [yaI,yaR,or_false] at hx
  rcases hx with rfl|rfl<;>omega)) ⟨⟨trivial,trivial,trivial⟩,rfl,rfl,trivial⟩ (by simp [ren,cR]) ⟨trivial,trivial,trivial,trivial,trivial,trivial⟩ ?_
 rw [Rn]
 simp -implicitDefEqProofs only [rX,↓rY,cells?,↓reduceIte,Nat.reduceEqDiff,aF,bR,Nat.reduceLT,eN,k8,Nat.reduceEqDiff,cB,Ly]
 have hld:=alZ (L:={ L with top:=L.top+1 }) (sz:=64) (m:=1) (rows:=[hdS s (L.top+1)].map Sec.enc) (X:=[]) rfl
 refine lZ [.arr 64 ([hdS s (L.top+1)].map Sec.enc)] { L with top:=L.top+1 } [.i ((s*129:Nat):Int),.sl (L.cells.length+6) 0 1] [.i ((s*129:Nat):Int),.bro 64 ([hdS s (L.top+1)].map Sec.enc)] _ (alC { L with top:=L.top+1 } (s*129) [hdS s (L.top+1)] (by show 0<L.cells.length;omega) (by show _≤L.cells.length;simp only [ybh];omega) (by show L.cells.length≤_;omega) hst) ⟨⟨trivial,hld.1,trivial⟩,rfl,?_,trivial⟩ rfl rfl (by simp [aK]) ?_
 ·exact Ul hld.2
 rintro r L' hn' ⟨⟨c,rfl⟩,rfl⟩
 refine ⟨fun f=>rfl,?_⟩
 have g0':get (aM (yab 5 (L.n+1)) e) 0=.ptr 0 0 0:=by rw [a8,g0];simp [kill]
 have g1':get (aM (yab 5 (L.n+1)) e) 1=.i s:=by rw [a8,g1];rfl
 unfold lgX
 simp -implicitDefEqProofs only [rX,↓rY,aA,cells?,splice,↓reduceIte,Nat.reduceEqDiff,dB,Nat.reduceAdd,reduceCtorEq,aM,kill,St.kill,isD,isC,yao,yak,fD,Nat.reduceEqDiff,g0',g1',Lg.wrote]
 rw [show ((0:Int) != 0)=false from rfl,wg]
 refine ⟨⟨by omega,by omega⟩,hs,?_⟩
 have e2:(yac encI L.gens).set s [V.v (.int .i64 (L.top+1))]=(L.gens.set s (L.top+1)).map encI:=by rw [ybb];rfl
 have e3:L.gens.length=(L.gens.set s (L.top+1)).length:=by rw [yaj]
 have hh:leH (lgX ((L.wrote (s*129) [hdS s (L.top+1)] c).gen s) [.arr 64 [(hdS s (L.top+1)).enc]]) (lgH ((L.wrote (s*129) [hdS s (L.top+1)] c).gen s)):=by
  rw [←iE]
  exact dR
 refine Gy ((L.wrote (s*129) [hdS s (L.top+1)] c).gen s) ?_ (by rw [←hn];exact e6) ?_
 ·rw [e2,e3]
  exact hh
 ·simp only [aY,yau,yav,yal,a7]
  exact ⟨trivial,hQ c⟩
set_option maxRecDepth 20000
theorem e47 (L:Lg) (s:Nat) (hs:s<L.gens.length) (hg:L.gens.length≤700) (hc:129*L.gens.length≤L.cells.length∧L.cells.length≤100000) (hst:L.steps≤100000000000) {bb:Nat} {N R:St→Prop} {X:Nat→St→Prop}
  (hN:∀ (L':Lg) (e':Env) (b':Nat),(∃ c,L'=if L.gens.getD s 0=0 then L.erased s c else L)→get e' 0=.ptr 0 0 0→get e' 1=.i s→N ⟨e',lgX L' [],b'⟩) :
  aw (cxN Tryz.prog [0,1,2,3,4]) (pt 1 c71) N X R ⟨[(4,.i 0),(0,.ptr 0 0 0),(1,.i s)],lgM L L.S [],bb⟩:=by
 conv=>arg 2;whnf
 simp -implicitDefEqProofs only [rX,↓rY,aA,↓reduceIte,Nat.reduceEqDiff,dB,reduceCtorEq,yao,yak,cxN,lK,lgM,Nat.reduceEqDiff]
 refine ⟨⟨by omega,by omega⟩,hs,?_⟩
 cases hz:L.gens[s]==0 with
 | false =>
  rw [wg]
  have hne:¬L.gens.getD s 0=0:=by
   rw [yad,yag hs]
   simpa using hz
  have h:=fun e' b' h0 h1=>hN L e' b' ⟨0,by rw [if_neg hne]⟩ h0 h1
  rw [vW] at h
  exact h _ _ rfl rfl
 | true =>
  rw [we]
  refine cX (fun g:Nat × MS=>(⟨[(17,.i g.1),(0,.ptr 0 0 0),(1,.i s)],lgM L g.2 [],0⟩:St)) (fun g=>g.1≤16∧g.2.n=L.cells.length∧WrG L.D (erO s g.1) g.1 g.2.D) (fun g=>16-g.1) (0,L.S) ⟨yaw _,rfl,?_⟩ ?_ ?_
  ·have h0:erO s 0=fun _=>none:=by
    funext i
    unfold erO
    rw [if_neg]
    rintro ⟨j,h,_⟩
    omega
   show WrG L.D (erO s 0) 0 L.D
   rw [h0]
   exact WrG.zero
  ·exact adT rfl ⟨rfl,rfl,rfl,trivial⟩ (aU _) ⟨trivial,trivial,trivial,trivial⟩ trivial
  rintro ⟨k,S⟩ ⟨hk,hSn,hW⟩
  unfold c71l0
  simp -implicitDefEqProofs only [rX,↓rY,rdK,aA,↓reduceIte,Nat.reduceEqDiff,reduceCtorEq,bJ,lgM,Qs,Nat.reduceEqDiff]
  cases hd:decide ((k:Int)<16) with
  | true =>
   have hk2:k<16:=by have:=of_decide_eq_true hd;omega
   rw [we]
   refine aJ (abD s k ⟨by omega,by omega⟩ ⟨by omega,by omega⟩) ⟨⟨trivial,trivial,trivial⟩,rfl,rfl,trivial⟩ rfl ⟨trivial,trivial,trivial,trivial,trivial,trivial⟩ ?_
   simp -implicitDefEqProofs only [rX,↓reduceIte,Nat.reduceEqDiff,Nat.reduceEqDiff]
   have hi:s*129+1+k*8<L.cells.length:=by omega
   obtain ⟨hW2,hE2⟩:=hW.step (s:=zS) S.ok.len (i:=s*129+1+k*8) hi Yg
   rw [Yf] at hW2
   have hsl:S.D.steps=L.steps+k:=hW.steps
   rw [show (s:Int)*129+1+(k:Int)*8=((s*129+1+k*8:Nat):Int) by omega]
   refine Di L S [] [.i ((s*129+1+k*8:Nat):Int),.agg zS.enc] [.i ((s*129+1+k*8:Nat):Int),.agg zS.enc] _ (akX S ((s*129+1+k*8:Nat):Int) zS (by omega) (by rw [hW.after];decide) (fun j=>by rw [hW.op];cases erO s k j<;>simp)) (fun _ _=>⟨⟨trivial,tL.1,trivial⟩,rfl,tL.2,trivial⟩) hSn (by simp) rfl rfl ?_ ?_
   ·simp [aM,kill,f8,yae,S.len]
   rintro r S' hn' ⟨hD',rfl⟩
   rw [hE2]
   refine ⟨fun g=>rfl,?_⟩
   simp -implicitDefEqProofs only [rX,↓rY,aA,↓reduceIte,Nat.reduceEqDiff,reduceCtorEq,leE,leH,leB,leV,cI,aD,aC,wfE,wfB,wfV,wfL,lgM,Nat.reduceEqDiff]
   rw [show ((0:Int) != 0)=false from rfl,wg]
   have hn2:S'.n=L.cells.length:=by rw [hn',hSn]
   have hkp:=Pe (L:=L) (S:=S') (X:=[])
   have hw:=ahV (L:=L) (S:=S') (X:=[]) hn2 trivial
   refine ⟨⟨by simp only [lo];omega,by simp only [Fx.hi];omega⟩,(k+1,S'),⟨⟨by show k+1≤16;omega,hn2,by show WrG L.D (erO s (k+1)) (k+1) S'.D;rw [hD'];exact hW2⟩,by show 16-(k+1)<16-k;omega⟩,?_⟩
   exact ⟨by show (k:Int)+1=((k+1:Nat):Int);omega,aU _,⟨hkp.2.2.1,hkp.2.2.2.1,hkp.2.2.2.2.1⟩,⟨hw.1.1,Pa hn2⟩,hw.2⟩
  | false =>
   have hk2:k=16:=by have:=of_decide_eq_false hd;omega
   subst hk2
   rw [wg]
   have hsl:S.D.steps=L.steps+16:=hW.steps
   refine Di L S [] [] [] _ (akV S (by omega) (by rw [hW.after];decide)) (fun _ _=>⟨trivial,trivial⟩) hSn (by simp) rfl rfl (by simp [aM,kill,yae]) ?_
   rintro r S' hn' ⟨hD',rfl⟩
   obtain ⟨hE,hS'⟩:=hW.sync (by omega) hD'
   rw [hE]
   refine ⟨fun g=>rfl,?_⟩
   simp -implicitDefEqProofs only [rX,↓rY,aA,↓reduceIte,Nat.reduceEqDiff]
   rw [show ((0:Int) != 0)=false from rfl,wg]
   have hyz:L.gens.getD s 0=0:=by
    rw [yad,yag hs]
    simpa using hz
   have h:=fun e' b' h0 h1=>hN (L.erased s S'.c) e' b' ⟨S'.c,by rw [if_pos hyz]⟩ h0 h1
   have hM:lgX (L.erased s S'.c) []=lgM L S' []:=by
    rw [vW]
    show lgM (L.wroteG (erO s 16) 16 S'.c) (L.wroteG (erO s 16) 16 S'.c).S []=_
    rw [←hS',Ui]
   rw [hM] at h
   exact h _ _ rfl rfl
def Lg.ren (L:Lg) (s:Nat) (c c':Nat):Lg:=((if L.gens.getD s 0=0 then L.erased s c else L).wrote (s*129) [hdS s (L.top+1)] c').gen s
theorem aqG (L:Lg) (s:Nat) (hs:s<L.gens.length) (hg:L.gens.length≤700) (hc:129*L.gens.length≤L.cells.length∧L.cells.length≤100000) (ht:0≤L.top∧L.top≤2000000000000000000) (hst:L.steps≤100000000000) :
  OkL 71 [.ptr 0 0 0,.i s] L (fun r L'=>r=.i 0∧∃ c c',L'=L.ren s c c'):=by
 refine q8 lw71 (by simp) ?_
 rw [Xd,c47_parts]
 simp -implicitDefEqProofs only [zb]
 conv=>arg 2;whnf
 simp -implicitDefEqProofs only [rX,aA,cxN,aO]
 refine e47 L s hs hg hc hst ?_
 rintro L' e' b' ⟨c,hL'⟩ g0 g1
 have hn:L'.n=L.n∧L'.gens=L.gens∧L'.top=L.top∧L'.steps≤L.steps+17:=by
  rw [hL']
  split
  ·exact ⟨Nh,rfl,rfl,by show L.steps+16+1≤_;omega⟩
  ·exact ⟨rfl,rfl,rfl,by omega⟩
 obtain ⟨hn1,hn2,hn3,hn4⟩:=hn
 refine t47 L' s L.n L.n hn1 (by rw [hn2];exact hs) (by rw [hn2];exact hg) (by rw [hn2];show _≤L'.n∧L'.n≤_;rw [hn1];exact hc) (by rw [hn3];exact ht) (by omega) g0 g1 ?_
 intro c'
 refine ⟨rfl,c,c',?_⟩
 rw [hn3]
 unfold Lg.ren
 rw [←hL']
set_option maxRecDepth 20000
structure Lg.Sm (L:Lg):Prop where
 g:L.gens.length≤700
 c:129*L.gens.length≤L.cells.length∧L.cells.length≤100000
 t:0≤L.top∧L.top≤2000000000000000000
 st:L.steps≤100000000000
 f:L.found.length≤100000
def Lg.took (L:Lg) (s c c':Nat):Lg:={ L.ren s c c' with seg:=s,next:=0 }
theorem ajY {L:Lg} {s c c':Nat}:(L.ren s c c').n=L.n:=by
 have:(if L.gens.getD s 0=0 then L.erased s c else L).n=L.n:=by
  split
  ·exact Nh
  ·rfl
 rw [←this]
 exact e6
theorem alD (L:Lg) (h:L.Sm):OkL 34 [.ptr 0 0 0] L (fun r L'=>(∃ s c c',s<L.gens.length∧L.free s=true∧(∀ i,i<s→L.free i=false)∧r=.i 0∧L'=L.took s c c')∨((∀ i,i<L.gens.length→L.free i=false)∧r=.i 140∧L'=L)):=by
 refine q8 lw34 (by simp) ?_
 unfold c34
 simp -implicitDefEqProofs only [rX,↓rY,aA,↓reduceIte,reduceCtorEq,cxN,lgH,aO]
 intro hm
 refine cX (fun k:Nat=>(⟨[(10,.i k),(9,.i L.gens.length),(0,.ptr 0 0 0)],lgH L,0⟩:St)) (fun k=>k≤L.gens.length∧∀ i:Nat,i<k→L.free i=false) (fun k=>L.gens.length-k) 0 ⟨yaw _,fun i hi=>absurd hi (Nat.not_lt_zero _)⟩ ?_ ?_
 ·refine ⟨⟨rfl,rfl,rfl,trivial⟩,aU _,?_,⟨trivial,trivial,trivial,trivial⟩,?_⟩
  ·have:=tS (L:=L) (X:=[]);rw [yaf] at this;exact this
  ·have:=Am (L:=L) (X:=[]) trivial;rw [yaf] at this;exact this
 rintro k ⟨hk,hfr⟩
 unfold c34l0
 simp -implicitDefEqProofs only [rX,↓rY,aA,↓reduceIte,Nat.reduceEqDiff,reduceCtorEq,lgH,Nat.reduceEqDiff]
 cases hd:decide ((k:Int)<(L.gens.length:Int)) with
 | true =>
  rw [we]
  have hk2:k<L.gens.length:=by have:=of_decide_eq_true hd;omega
  refine Lh [] L [.i k] [.i k] _ (aqH L k h.f) ⟨⟨trivial,trivial⟩,⟨rfl,trivial⟩⟩ rfl rfl rfl (by simp [aM,kill]) ?_
  rintro r L'-⟨rfl,rfl⟩
  refine ⟨fun f=>rfl,?_⟩
  unfold lgX
  simp -implicitDefEqProofs only [rX,↓rY,aA,↓reduceIte,Nat.reduceEqDiff,reduceCtorEq,leE,leH,leB,leV,cI,aD,aC,wfE,wfB,wfV,wfL,uV,Nat.reduceEqDiff]
  have hg:=h.g
  cases hf:L'.free (k:Int) with
  | false =>
   rw [Bool.not_false,we]
   refine ⟨⟨by simp only [lo];omega,by simp only [hi];omega⟩,k+1,⟨⟨by omega,fun i hi=>?_⟩,by omega⟩,by omega,aU _,vC trivial⟩
   by_cases he:i=k
   ·subst he;exact hf
   ·exact hfr i (by omega)
  | true =>
   rw [Bool.not_true,wg]
   refine Lh [] L' [.i k] [.i k] _ (aqG L' k hk2 h.g h.c h.t h.st) ⟨⟨trivial,trivial⟩,⟨rfl,trivial⟩⟩ rfl rfl rfl (by simp [aM,kill]) ?_
   rintro r L₂ hn2 ⟨rfl,c,c',rfl⟩
   refine ⟨fun f=>rfl,?_⟩
   unfold lgX
   simp -implicitDefEqProofs only [rX,↓rY,aA,cells?,splice,↓reduceIte,Nat.reduceEqDiff,Nat.reduceAdd,reduceCtorEq,isC,Nat.reduceLeDiff,Nat.reduceEqDiff]
   rw [show ((0:Int) != 0)=false from rfl,wg]
   refine Gy (L'.took k c c') (aU _) (ajY (L:=L') (s:=k) (c:=c) (c':=c')) ?_
   simp only [aY,yau,yav,yal,a7]
   exact ⟨trivial,.inl ⟨k,c,c',hk2,hf,hfr,rfl,rfl⟩⟩
 | false =>
  rw [wg]
  have hk2:k=L.gens.length:=by have:=of_decide_eq_false hd;omega
  subst hk2
  refine Gy L (aU _) rfl ?_
  simp only [aY,yau,yav,yal,a7]
  refine ⟨trivial,.inr ⟨hfr,?_⟩⟩
  first|trivial|exact ⟨rfl,rfl⟩|exact ⟨trivial,rfl⟩|exact ⟨rfl,trivial⟩
set_option maxRecDepth 20000
theorem Fh {L:Lg} {X:List Blk}:aD [0,1,2,3,4] (lgX L X):=⟨trivial,trivial,trivial,trivial,trivial,trivial⟩
theorem Ty {L:Lg} {X:List Blk} (hX:wfB (lgX L X) X):wfB (lgX L X) (lgX L X):=by
 rw [←iE] at hX ⊢
 exact Am hX
theorem Re {L:Lg} {X Y:List Blk}:lgX L X++Y=lgX L (X++Y):=by
 unfold lgX
 simp only [yay,yas]
theorem Id {L:Lg} {X:List Blk} {j:Nat} (hj:∃ B,X[j]?=some B∧B≠.dead):aC (lgX L X) (L.cells.length+(j+6)):=by
 obtain ⟨B,h1,h2⟩:=hj
 unfold aC
 have e:(lgX L X)[L.cells.length+(j+6)]?=some B:=by
  show (_::_::_::_::_::(yaa L.cells.length Blk.dead++.arr 4 (L.found.map Ck.enc)::X))[L.cells.length+(j+6)]?=_
  have:(lgV 0 L::lgV 0 L::lgV 0 L::lgV 0 L::lgV 0 L::(yaa L.cells.length Blk.dead++.arr 4 (L.found.map Ck.enc)::X))[L.cells.length+(j+6)]?=(yaa L.cells.length Blk.dead++.arr 4 (L.found.map Ck.enc)::X)[L.cells.length+(j+1)]?:=rfl
  show (yaa L.cells.length Blk.dead++.arr 4 (L.found.map Ck.enc)::X)[L.cells.length+(j+1)]?=_
  rw [yan (by simp),yah,yaF,yar,h1]
 rw [e]
 cases B<;>first|trivial|exact absurd rfl h2
theorem alY {L:Lg} {sz m j:Nat} {rows:List (List V)} {X:List Blk} (hj:X[j]?=some (.arr sz rows)) (hm:m=rows.length):aG (lgX L X) (pos (yab 0 (5+(L.n+1)))) (.sl (L.cells.length+(j+6)) 0 m)∧a6 (lgX L X) (pos (yab 0 (5+(L.n+1)))) (.sl (L.cells.length+(j+6)) 0 m)=.bro sz rows:=by
 subst hm
 have e1:blk (lgX L X) (L.cells.length+(j+6))=.arr sz rows:=by
  show blk (_::_::_::_::_::(yaa L.cells.length Blk.dead++.arr 4 (L.found.map Ck.enc)::X)) _=_
  rw [blk,yad]
  show ((yaa L.cells.length Blk.dead++.arr 4 (L.found.map Ck.enc)::X)[L.cells.length+(j+1)]?).getD .dead=_
  rw [yan (by simp),yah,yaF,yar,hj]
  rfl
 have e2:pos (yab 0 (5+(L.n+1))) (L.cells.length+(j+6))=none:=by
  rw [eR,if_neg]
  show ¬(0≤L.cells.length+(j+6)∧L.cells.length+(j+6)<0+(5+(L.cells.length+1)))
  omega
 constructor
 ·simp [aG,e1,e2]
 ·simp [a6,e1,e2]
theorem Kl {n j i f:Nat} (h:6≤j):kill (yab 5 (n+1)) (.ptr (n+j) i f)=.ptr (n+j) i f:=by
 simp only [kill]
 rw [if_neg fun hm=>by have:=yae.1 hm;omega]
def cutS (b:Bs) (i:Nat):Sec:=if h:((b.drop (64*i)).take 64).length=64 then acQ ((b.drop (64*i)).take 64) h else zS
def gC (b:Bs) (k:Nat):List Sec:=(yat k).map (cutS b)
theorem Yu {b:Bs} {i:Nat} (hb:b.length=512) (hi:i<8):(cutS b i).enc=us ((b.drop (64*i)).take 64):=by
 have h:((b.drop (64*i)).take 64).length=64:=by rw [yaP,List.length_drop];omega
 unfold cutS
 rw [dif_pos h,←vD,Og]
theorem Ir {b:Bs} {k:Nat}:gC b (k+1)=gC b k++[cutS b k]:=by
 unfold gC
 rw [List.range_succ,yax];rfl
theorem lX {b:Bs} {k:Nat}:(gC b k).length=k:=by unfold gC;simp
theorem Se {b:Bs} (hb:b.length=512):∀ {k:Nat},k≤8→flB (gC b k)=b.take (64*k)
 | 0,_=>by simp [gC,flB]
 | k+1,h=>by
  have ih:=Se hb (k:=k) (by omega)
  have h1:p6 (cutS b k)=(b.drop (64*k)).take 64:=by
   have h:((b.drop (64*k)).take 64).length=64:=by rw [yaP,List.length_drop];omega
   unfold cutS
   rw [dif_pos h,Og]
  rw [Ir]
  unfold flB at ih ⊢
  rw [ybt,ih]
  simp only [List.flatMap_cons,List.flatMap_nil,yaf,h1]
  rw [show 64*(k+1)=64*k+64 by omega,List.take_add]
def Lg.slot (L:Lg) (key data:Bs):dV:=⟨L.gens.getD L.seg.toNat 0,L.seq+1,key,data⟩
def Lg.at (L:Lg):Nat:=(L.seg*129+1+L.next*8).toNat
def Lg.app (L:Lg) (key data:Bs) (c:Nat):Lg :=
 { L.wrote L.at (gC (eY L.seg L.next (L.slot key data)) 8) c with seq:=L.seq+1,next:=L.next+1,found:=L.found++[⟨L.seg,L.next,L.seq+1,key⟩] }
theorem c16_parts:c7=.seq (pt 0 c7) (.seq (pt 1 c7) (.seq (pt 2 c7) (.seq (pt 3 c7) (.seq (pt 4 c7) (.seq (pt 5 c7) (.seq (pt 6 c7) (.seq (pt 7 c7) (.seq (pt 8 c7) (.seq (pt 9 c7) (.seq (pt 10 c7) (rt 11 c7))))))))))):=by rfl
section
variable {N R:St→Prop} {X:Nat→St→Prop} {e:Env} {bb:Nat} {L:Lg} {key data:Bs}
structure E16 (key data:Bs) (n:Nat) (e:Env):Prop where
 g0:get e 0=.ptr 0 0 0
 g1:get e 1=sv key
 g2:get e 2=sv data
 g6:get e 6=.ptr (n+6) 0 0
abbrev z3:Blk:=.var [.i 0,.i 0,.i 0]
theorem ajI (hE:E16 key data L.n e) (hq:0≤L.seq∧L.seq≤2000000000000000000) (hN:∀ e b,E16 key data L.n e→N ⟨e,lgX { L with seq:=L.seq+1 } [z3],b⟩):aw (cxN Tryz.prog [0,1,2,3,4]) (pt 3 c7) N X R ⟨e,lgX L [z3],bb⟩:=by
 obtain ⟨g0,g1,g2,g6⟩:=hE
 conv=>arg 2;whnf
 unfold lgX
 simp -implicitDefEqProofs only [rX,↓rY,aA,cells?,splice,↓reduceIte,Nat.reduceEqDiff,Nat.reduceAdd,isC,Nat.reduceLeDiff,cxN,Nat.reduceEqDiff,g0]
 exact ⟨⟨by simp only [lo];omega,by simp only [hi];omega⟩,hN _ _ ⟨g0,g1,g2,g6⟩⟩
theorem ajH (hE:E16 key data L.n e) (hN:∀ e b,E16 key data L.n e→get e 9=.ptr (L.n+7) 0 0→N ⟨e,lgX L [z3,.var [.i L.seg,.i L.next,.i L.seq]],b⟩):aw (cxN Tryz.prog [0,1,2,3,4]) (pt 4 c7) N X R ⟨e,lgX L [z3],bb⟩:=by
 obtain ⟨g0,g1,g2,g6⟩:=hE
 conv=>arg 2;whnf
 unfold lgX
 simp -implicitDefEqProofs only [rX,↓rY,rdK,aA,cells?,splice,↓reduceIte,Nat.reduceEqDiff,Nat.reduceAdd,reduceCtorEq,aF,bJ,isC,Nat.reduceLeDiff,cxN,fJ,o5,dX,Nat.reduceEqDiff,g0]
 exact hN _ _ ⟨g0,g1,g2,g6⟩ rfl
theorem ajG (hE:E16 key data L.n e) (g9:get e 9=.ptr (L.n+7) 0 0) (hsg:0≤L.seg∧L.seg<L.gens.length) (hgl:L.gens.length≤1000) (hnx:0≤L.next∧L.next≤100) (hok:(dV.mk (L.gens.getD L.seg.toNat 0) L.seq key data).Ok)
  (hN:∀ e b,E16 key data L.n e→get e 9=.ptr (L.n+7) 0 0→get e 10=.ptr (L.n+8) 0 0→N ⟨e,lgX L [z3,.var [.i L.seg,.i L.next,.i L.seq],.var (us (eY L.seg L.next ⟨L.gens.getD L.seg.toNat 0,L.seq,key,data⟩))],b⟩) :
  aw (cxN Tryz.prog [0,1,2,3,4]) (pt 5 c7) N X R ⟨e,lgX L [z3,.var [.i L.seg,.i L.next,.i L.seq]],bb⟩:=by
 obtain ⟨g0,g1,g2,g6⟩:=hE
 have g9':get e 9=.ptr (L.cells.length+7) 0 0:=g9
 have h64:In64 [L.seg,L.next]:=by
  intro x hx
  simp only [yaI,yaR,or_false] at hx
  rcases hx with rfl|rfl<;>omega
 conv=>arg 2;whnf
 unfold lgX
 simp -implicitDefEqProofs only [rX,↓rY,rdK,aA,cells?,splice,↓reduceIte,Nat.reduceEqDiff,dB,Nat.reduceAdd,reduceCtorEq,aF,bJ,Nat.reduceLeDiff,yao,cxN,lK,dC,fJ,mJ,Ac,dX,Nat.reduceEqDiff,g0,g9',g1,g2]
 have hlt:L.seg.toNat<L.gens.length:=by omega
 have hgd:L.gens.getD L.seg.toNat 0=L.gens[L.seg.toNat]:=by rw [yad,yag hlt];rfl
 rw [hgd] at hN hok
 obtain ⟨u1,u2,u3⟩:=t8 (hO (seg:=L.seg) (k:=L.next) (s:=⟨L.gens[L.seg.toNat],L.seq,key,data⟩))
 refine ⟨⟨hsg.1,hsg.2⟩,hlt,?_,?_⟩
 ·refine aJ (afZ L.seg L.next ⟨L.gens[L.seg.toNat],L.seq,key,data⟩ h64 hok) ⟨⟨trivial,trivial,⟨trivial,trivial,trivial,trivial,trivial⟩,trivial⟩,rfl,rfl,⟨rfl,rfl,rfl,rfl,trivial⟩,trivial⟩ (by simp [ren,cR]) ⟨trivial,trivial,trivial,trivial,trivial,trivial⟩ ?_
  simp -implicitDefEqProofs only [rX,↓rY,aA,cells?,splice,↓reduceIte,Nat.reduceEqDiff,aF,mJ,Ac,Nat.reduceEqDiff,u1,nR,zD 512 hO]
  exact ⟨by simp,hN _ _ ⟨g0,g1,g2,g6⟩ g9 rfl⟩
 ·refine aJ (afZ L.seg L.next ⟨L.gens[L.seg.toNat],L.seq,key,data⟩ h64 hok) ⟨⟨trivial,trivial,⟨trivial,trivial,trivial,trivial,trivial⟩,trivial⟩,rfl,rfl,⟨rfl,rfl,rfl,rfl,trivial⟩,trivial⟩ (by simp [ren,cR]) ⟨trivial,trivial,trivial,trivial,trivial,trivial⟩ ?_
  simp -implicitDefEqProofs only [rX,↓rY,cells?,splice,↓reduceIte,Nat.reduceEqDiff,mJ,Ac,Nat.reduceEqDiff,u1,nR,zD 512 hO]
  exact ⟨by simp,hN _ _ ⟨g0,g1,g2,g6⟩ g9 rfl⟩
abbrev h16 (L:Lg) (b:Bs):List Blk:=[z3,.var [.i L.seg,.i L.next,.i L.seq],.var (us b)]
theorem ajF {b:Bs} (hE:E16 key data L.n e) (g9:get e 9=.ptr (L.n+7) 0 0) (g10:get e 10=.ptr (L.n+8) 0 0) (hN:∀ e b',E16 key data L.n e→get e 9=.ptr (L.n+7) 0 0→get e 10=.ptr (L.n+8) 0 0→get e 11=.nil→N ⟨e,lgX L (h16 L b),b'⟩):aw (cxN Tryz.prog [0,1,2,3,4]) (pt 6 c7) N X R ⟨e,lgX L (h16 L b),bb⟩:=by
 obtain ⟨g0,g1,g2,g6⟩:=hE
 conv=>arg 2;whnf
 simp -implicitDefEqProofs only [rX,aA,cxN]
 exact hN _ _ ⟨g0,g1,g2,g6⟩ g9 g10 rfl
theorem ajE {b:Bs} (hb:b.length=512) (hE:E16 key data L.n e) (g9:get e 9=.ptr (L.n+7) 0 0) (g10:get e 10=.ptr (L.n+8) 0 0) (g11:get e 11=.nil) (hN:∀ e b',E16 key data L.n e→get e 9=.ptr (L.n+7) 0 0→get e 10=.ptr (L.n+8) 0 0→get e 11=.sl (L.n+9) 0 8→N ⟨e,lgX L (h16 L b++[.arr 64 ((gC b 8).map Sec.enc)]),b'⟩):aw (cxN Tryz.prog [0,1,2,3,4]) (pt 7 c7) N X R ⟨e,lgX L (h16 L b),bb⟩:=by
 obtain ⟨g0,g1,g2,g6⟩:=hE
 conv=>arg 2;whnf
 simp -implicitDefEqProofs only [rX,aA,cxN]
 have g9':get e 9=.ptr (L.cells.length+7) 0 0:=g9
 have g10':get e 10=.ptr (L.cells.length+8) 0 0:=g10
 have g6':get e 6=.ptr (L.cells.length+6) 0 0:=g6
 refine fS (.virt 1 64 (by decide) (.nilE 11 (L.cells.length+9) g11 (.refl _))) (fun k:Nat=>(⟨[(79,.i k),(11,.sl (L.cells.length+9) 0 k),(10,.ptr (L.cells.length+8) 0 0),(9,.ptr (L.cells.length+7) 0 0),(6,.ptr (L.cells.length+6) 0 0),(0,.ptr 0 0 0),(1,sv key),(2,sv data)],lgX L (h16 L b++[.arr 64 ((gC b k).map Sec.enc)]),0⟩:St)) (fun k=>k≤8) (fun k=>8-k) 0 (yaw _) ?_ ?_
 ·refine ⟨⟨rfl,rfl,g10',g9',g6',g0,g1,g2,trivial⟩,?_,Fh,⟨trivial,Id (j:=3) ⟨_,rfl,by simp⟩,?_,?_,?_,trivial,trivial,trivial,trivial⟩,Ty ?_⟩
  ·show leH (lgX L (h16 L b)++[.arr 64 []]) (lgX L (h16 L b++[.arr 64 []]))
   rw [Re]
   exact aU _
  ·exact Id (j:=2) ⟨_,rfl,by simp⟩
  ·exact Id (j:=1) ⟨_,rfl,by simp⟩
  ·exact Id (j:=0) ⟨_,rfl,by simp⟩
  ·exact ⟨⟨trivial,trivial,trivial,trivial⟩,⟨trivial,trivial,trivial,trivial⟩,eD,trivial⟩
 intro k hk
 unfold c7l0 lgX
 simp -implicitDefEqProofs only [rX,↓rY,kg,aA,cells?,↓reduceIte,Nat.reduceEqDiff,Nat.reduceAdd,reduceCtorEq,aF,bN,bR,leE,leH,leB,leV,cI,aD,aC,wfE,wfB,wfV,wfL,aM,aK,kill,bD,St.kill,Nat.reduceLT,uV,eN,fJ,mJ,Xv,Vg,Xu,Vf,dX,tV,yaV,Nat.reduceEqDiff]
 cases hd:decide ((k:Int)<8) with
 | true =>
  have hk2:k<8:=by have:=of_decide_eq_true hd;omega
  rw [we]
  have e1:((k:Int)*64).toNat=64*k:=by omega
  have e2:(((k:Int)+1)*64).toNat=64*k+64:=by omega
  have e3:yaA 64 (yaQ (64*k) (us b))=(cutS b k).enc:=by rw [Jn,Cq,Yu hb hk2]
  have e4:yaA k (yac Sec.enc (gC b k))=yac Sec.enc (gC b k):=yaB (by rw [yai,lX];exact yam _)
  rw [e1,e2,e3,e4,fZ,fK,hb,lX,cB,Ly]
  refine ⟨⟨by simp only [lo];omega,by simp only [hi];omega⟩,⟨by simp only [lo];omega,by simp only [hi];omega⟩,⟨by simp only [lo];omega,by simp only [hi];omega⟩,⟨by omega,⟨by omega,by omega⟩,by omega,by omega⟩,by omega,by omega,⟨rfl,rfl⟩,⟨by omega,by omega⟩,⟨by simp only [lo];omega,by simp only [hi];omega⟩,k+1,⟨by omega,by omega⟩,⟨by omega,rfl⟩,?_,?_⟩
  ·refine Cy ⟨aS _,aS _,aS _,aS _,?_,trivial⟩
   rw [Ir,yax]
   exact aS _
  ·exact vC ⟨⟨trivial,trivial,trivial,trivial⟩,⟨trivial,trivial,trivial,trivial⟩,eD,trivial⟩
 | false =>
  have hk2:k=8:=by have:=of_decide_eq_false hd;omega
  subst hk2
  rw [wg]
  exact hN _ _ ⟨rfl,rfl,rfl,rfl⟩ rfl rfl rfl
theorem ajD {b:Bs} {B:List Blk} (hE:E16 key data L.n e) (g9:get e 9=.ptr (L.n+7) 0 0) (g11:get e 11=.sl (L.n+9) 0 8) (hnx:0≤L.next∧L.next≤100) (hN:∀ e b',E16 key data L.n e→get e 9=.ptr (L.n+7) 0 0→get e 11=.sl (L.n+9) 0 8→N ⟨e,lgX { L with next:=L.next+1 } B,b'⟩):aw (cxN Tryz.prog [0,1,2,3,4]) (pt 8 c7) N X R ⟨e,lgX L B,bb⟩:=by
 obtain ⟨g0,g1,g2,g6⟩:=hE
 conv=>arg 2;whnf
 unfold lgX
 simp -implicitDefEqProofs only [rX,↓rY,aA,cells?,splice,↓reduceIte,Nat.reduceEqDiff,Nat.reduceAdd,isC,cxN,Nat.reduceEqDiff,g0]
 exact ⟨⟨by simp only [lo];omega,by simp only [hi];omega⟩,hN _ _ ⟨g0,g1,g2,g6⟩ g9 g11⟩
theorem ajC {b:Bs} {sg sl sq:Int} (hE:E16 key data L.n e) (g9:get e 9=.ptr (L.n+7) 0 0) (g11:get e 11=.sl (L.n+9) 0 8) (hsg:0≤sg∧sg≤1000) (hsl:0≤sl∧sl≤100) (hf:(sg*129+1+sl*8).toNat+8≤L.cells.length) (hl:L.cells.length≤100000) (hs:L.steps≤1000000000000)
  (hN:∀ e b' c,E16 key data L.n e→get e 9=.ptr (L.n+7) 0 0→N ⟨e,lgX (L.wrote (sg*129+1+sl*8).toNat (gC b 8) c) [z3,.var [.i sg,.i sl,.i sq],.var (us b),.arr 64 ((gC b 8).map Sec.enc)],b'⟩) :
  aw (cxN Tryz.prog [0,1,2,3,4]) (pt 9 c7) N X R ⟨e,lgX L [z3,.var [.i sg,.i sl,.i sq],.var (us b),.arr 64 ((gC b 8).map Sec.enc)],bb⟩:=by
 obtain ⟨g0,g1,g2,g6⟩:=hE
 have g9':get e 9=.ptr (L.cells.length+7) 0 0:=g9
 have g11':get e 11=.sl (L.cells.length+9) 0 8:=g11
 conv=>arg 2;whnf
 unfold lgX
 simp -implicitDefEqProofs only [rX,↓rY,↓reduceIte,Nat.reduceEqDiff,Nat.reduceAdd,cxN,fJ,Nat.reduceEqDiff,g0,g9']
 refine aJ (abD sg sl ⟨by omega,by omega⟩ ⟨by omega,by omega⟩) ⟨⟨trivial,trivial,trivial⟩,rfl,rfl,trivial⟩ rfl ⟨trivial,trivial,trivial,trivial,trivial,trivial⟩ ?_
 simp -implicitDefEqProofs only [rX,↓reduceIte,Nat.reduceEqDiff,Nat.reduceEqDiff,g11']
 have hat:sg*129+1+sl*8=(((sg*129+1+sl*8).toNat:Nat):Int):=by omega
 rw [hat]
 have hld:=alY (L:=L) (sz:=64) (m:=8) (j:=3) (rows:=(gC b 8).map Sec.enc) (X:=[z3,.var [.i sg,.i sl,.i sq],.var (us b),.arr 64 ((gC b 8).map Sec.enc)]) rfl (by rw [yai,lX])
 refine lZ [z3,.var [.i sg,.i sl,.i sq],.var (us b),.arr 64 ((gC b 8).map Sec.enc)] L [.i (((sg*129+1+sl*8).toNat:Nat):Int),.sl (L.cells.length+9) 0 8] [.i (((sg*129+1+sl*8).toNat:Nat):Int),.bro 64 ((gC b 8).map Sec.enc)] _ (alC L (sg*129+1+sl*8).toNat (gC b 8) (by omega) (by rw [lX];omega) hl hs) ⟨⟨trivial,hld.1,trivial⟩,rfl,Ul hld.2,trivial⟩ rfl rfl (by simp [aK,bD,kill,fZ]) ?_
 rintro r L' hn' ⟨⟨c,rfl⟩,rfl⟩
 refine ⟨fun f=>rfl,?_⟩
 simp -implicitDefEqProofs only [rX,↓rY,aA,cells?,↓reduceIte,Nat.reduceEqDiff,bJ,aM,kill,St.kill]
 rw [show ((0:Int) != 0)=false from rfl,wg]
 have k0:get (aM (yab 5 (L.n+1)) e) 0=.ptr 0 0 0:=by rw [a8,g0];simp [kill]
 have k1:get (aM (yab 5 (L.n+1)) e) 1=sv key:=by rw [a8,g1];rfl
 have k2:get (aM (yab 5 (L.n+1)) e) 2=sv data:=by rw [a8,g2];rfl
 have k6:get (aM (yab 5 (L.n+1)) e) 6=.ptr (L.n+6) 0 0:=by rw [a8,g6];exact Kl (by omega)
 have k9:get (aM (yab 5 (L.n+1)) e) 9=.ptr (L.n+7) 0 0:=by rw [a8,g9];exact Kl (by omega)
 exact hN _ _ c ⟨k0,k1,k2,k6⟩ k9
theorem afK {b:Bs} {sg sl sq:Int} (hE:E16 key data L.n e) (g9:get e 9=.ptr (L.n+7) 0 0) (hfl:L.found.length≤99999)
  (hN:∀ e b' Y,get e 6=.ptr (L.n+6) 0 0→get e 9=.ptr (L.n+7) 0 0→N ⟨e,lgX { L with found:=L.found++[⟨sg,sl,sq,key⟩] } (z3::.var [.i sg,.i sl,.i sq]::Y),b'⟩) :
  aw (cxN Tryz.prog [0,1,2,3,4]) (pt 10 c7) N X R ⟨e,lgX L [z3,.var [.i sg,.i sl,.i sq],.var (us b),.arr 64 ((gC b 8).map Sec.enc)],bb⟩:=by
 obtain ⟨g0,g1,g2,g6⟩:=hE
 have g9':get e 9=.ptr (L.cells.length+7) 0 0:=g9
 conv=>arg 2;whnf
 unfold lgX
 simp -implicitDefEqProofs only [rX,↓rY,rdK,cells?,splice,↓reduceIte,Nat.reduceEqDiff,Nat.reduceAdd,reduceCtorEq,aF,bJ,bR,aM,aK,kill,bD,St.kill,isD,isC,Nat.reduceLT,Nat.reduceLeDiff,cxN,dC,uV,aeZ,fJ,Xu,Vf,dX,tV,yaV,Nat.reduceEqDiff,g0,g9',g1]
 have e1:yaA L.found.length (yac Ck.enc L.found)++[[V.i sg,V.i sl,V.i sq,V.v (Value.string (sb key))]]=(L.found++[(⟨sg,sl,sq,key⟩:Ck)]).map Ck.enc:=by
  rw [yaB (by rw [yai];exact yam _),yax]
  rfl
 have e2:L.found.length+1=(L.found++[(⟨sg,sl,sq,key⟩:Ck)]).length:=by rw [yaq];rfl
 have k6:get (aM [L.cells.length+5] e) 6=.ptr (L.n+6) 0 0:=by rw [a8,g6];simp [kill]
 have k9:get (aM [L.cells.length+5] e) 9=.ptr (L.n+7) 0 0:=by rw [a8,g9];simp [kill]
 refine ⟨by omega,?_⟩
 rw [e1,e2]
 exact hN _ _ _ k6 k9
theorem afJ {sg sl sq:Int} {n:Nat} {Q:V→Lg→Prop} {Y:List Blk} (hn:L.n=n) (g6:get e 6=.ptr (L.n+6) 0 0) (g9:get e 9=.ptr (L.n+7) 0 0) (hQ:Q (.tup [.agg [.i sg,.i sl,.i sq],.i 0]) L) :
  aw (cxN Tryz.prog [0,1,2,3,4]) (rt 11 c7) N X (dD [0,1,2,3,4] (5+(n+1)) [.cell 6 (some 3),.tmp 7] (QF Lg.bs (5+(n+1)) Q)) ⟨e,lgX L (z3::.var [.i sg,.i sl,.i sq]::Y),bb⟩:=by
 have g9':get e 9=.ptr (L.cells.length+7) 0 0:=g9
 have g6':get e 6=.ptr (L.cells.length+6) 0 0:=g6
 conv=>arg 2;whnf
 unfold lgX
 simp -implicitDefEqProofs only [rX,↓rY,aA,cells?,splice,↓reduceIte,Nat.reduceEqDiff,Nat.reduceAdd,isC,cxN,eN,k8,fJ,Nat.reduceEqDiff,g9',g6']
 have hh:leH (lgX L (.var [.i sg,.i sl,.i sq]::.var [.i sg,.i sl,.i sq]::Y)) (lgH L):=by
  rw [←iE]
  exact dR
 refine Gy L hh hn ?_
 simp -implicitDefEqProofs only [rX,↓rY,↓reduceIte,Nat.reduceEqDiff,Nat.reduceAdd,aY,a7,wfV,wfL,eN,Nat.reduceEqDiff,aY,a7,g6']
 exact hQ
end
set_option maxRecDepth 20000
theorem t16 {N:St→Prop} {X:Nat→St→Prop} {e:Env} {bb:Nat} {L:Lg} {key data:Bs} {n:Nat} {Q:V→Lg→Prop} (hn:L.n=n) (hE:E16 key data L.n e) (hsg:0≤L.seg∧L.seg<L.gens.length) (hgl:L.gens.length≤700) (hnx:0≤L.next∧L.next<16) (hc:129*L.gens.length≤L.cells.length∧L.cells.length≤100000)
  (hq:0≤L.seq∧L.seq≤2000000000000000000) (hs:L.steps≤1000000000000) (hfl:L.found.length≤99999) (hok:(L.slot key data).Ok)
  (hQ:∀ c,Q (.tup [.agg [.i L.seg,.i L.next,.i (L.seq+1)],.i 0]) (L.app key data c)) :
  aw (cxN Tryz.prog [0,1,2,3,4]) (rt 3 c7) N X (dD [0,1,2,3,4] (5+(n+1)) [.cell 6 (some 3),.tmp 7] (QF Lg.bs (5+(n+1)) Q)) ⟨e,lgX L [z3],bb⟩:=by
 have hp:rt 3 c7=.seq (pt 3 c7) (.seq (pt 4 c7) (.seq (pt 5 c7) (.seq (pt 6 c7) (.seq (pt 7 c7) (.seq (pt 8 c7) (.seq (pt 9 c7) (.seq (pt 10 c7) (rt 11 c7)))))))):=by rfl
 rw [hp]
 rw [zb]
 refine ajI hE hq fun e b hE=>?_
 rw [zb]
 refine ajH (L:={ L with seq:=L.seq+1 }) hE fun e b hE g9=>?_
 rw [zb]
 refine ajG (L:={ L with seq:=L.seq+1 }) hE g9 hsg (by show L.gens.length≤1000;omega) (by show 0≤L.next∧L.next≤100;omega) hok fun e b hE g9 g10=>?_
 rw [zb]
 refine ajF (L:={ L with seq:=L.seq+1 }) hE g9 g10 fun e b hE g9 g10 g11=>?_
 rw [zb]
 refine ajE (L:={ L with seq:=L.seq+1 }) hO hE g9 g10 g11 fun e b hE g9 g10 g11=>?_
 rw [zb]
 refine ajD (L:={ L with seq:=L.seq+1 }) (b:=eY L.seg L.next (L.slot key data)) hE g9 g11 (by show 0≤L.next∧L.next≤100;omega) fun e b hE g9 g11=>?_
 rw [zb]
 refine ajC (L:={ L with seq:=L.seq+1,next:=L.next+1 }) (b:=eY L.seg L.next (L.slot key data)) (sg:=L.seg) (sl:=L.next) (sq:=L.seq+1) hE g9 g11 (by omega) (by omega) (by show _≤L.cells.length;omega) (by show L.cells.length≤_;omega) hs fun e b c hE g9=>?_
 have hwn:({ L with seq:=L.seq+1,next:=L.next+1 }:Lg).n=(({ L with seq:=L.seq+1,next:=L.next+1 }:Lg).wrote (L.seg*129+1+L.next*8).toNat (gC (eY L.seg L.next (L.slot key data)) 8) c).n:=e6.symm
 rw [hwn] at hE g9
 rw [zb]
 refine afK (L:=({ L with seq:=L.seq+1,next:=L.next+1 }:Lg).wrote (L.seg*129+1+L.next*8).toNat (gC (eY L.seg L.next (L.slot key data)) 8) c) (b:=eY L.seg L.next (L.slot key data)) hE g9 hfl fun e b Y g6 g9=>?_
 refine afJ (L:=L.app key data c) (by rw [←hn];exact e6) g6 g9 (hQ c)
set_option maxRecDepth 20000
section
variable {N:St→Prop} {X:Nat→St→Prop} {e:Env} {bb:Nat} {L:Lg} {key data:Bs} {n:Nat} {Q:V→Lg→Prop}
theorem Qo {q:Int} (hn:L.n=n) (g6:get e 6=.ptr (L.cells.length+6) 0 0) (g7:get e 7=.i q) (hQ:Q (.tup [.agg [.i 0,.i 0,.i 0],.i q]) L):dD [0,1,2,3,4] (5+(n+1)) [.cell 6 (some 3),.tmp 7] (QF Lg.bs (5+(n+1)) Q) ⟨e,lgX L [z3],bb⟩:=by
 have hh:leH (lgX L [z3]) (lgH L):=by
  rw [←iE]
  exact dR
 refine Gy L hh hn ?_
 unfold lgX
 simp -implicitDefEqProofs only [rX,↓rY,Nat.reduceAdd,aY,a7,wfV,wfL,eN,aY,a7,g6,g7]
 exact hQ
theorem ajK (hn:L.n=n) (hE:E16 key data L.n e) (hk:key.length≤100000∧data.length≤100000) (hQ:100<key.length∨360<data.length→Q (.tup [.agg [.i 0,.i 0,.i 0],.i 2]) L) (hN:¬(100<key.length∨360<data.length)→∀ e b,E16 key data L.n e→N ⟨e,lgX L [z3],b⟩) :
  aw (cxN Tryz.prog [0,1,2,3,4]) (pt 1 c7) N X (dD [0,1,2,3,4] (5+(n+1)) [.cell 6 (some 3),.tmp 7] (QF Lg.bs (5+(n+1)) Q)) ⟨e,lgX L [z3],bb⟩:=by
 obtain ⟨g0,g1,g2,g6⟩:=hE
 have g6':get e 6=.ptr (L.cells.length+6) 0 0:=g6
 conv=>arg 2;whnf
 unfold lgX
 simp -implicitDefEqProofs only [rX,↓rY,aA,cells?,splice,↓reduceIte,Nat.reduceEqDiff,Nat.reduceAdd,bJ,isC,cxN,bP,eN,k8,Nat.reduceEqDiff,g1,g2,g6']
 cases h1:decide (100<(key.length:Int)) with
 | true =>
  rw [we]
  exact Qo hn g6' rfl (hQ (.inl (by have:=of_decide_eq_true h1;omega)))
 | false =>
  have h1':=of_decide_eq_false h1
  rw [wg]
  cases h2:decide (360<(data.length:Int)) with
  | true =>
   rw [we]
   exact Qo hn g6' rfl (hQ (.inr (by have:=of_decide_eq_true h2;omega)))
  | false =>
   have h2':=of_decide_eq_false h2
   rw [wg]
   exact hN (by omega) _ _ ⟨g0,g1,g2,g6⟩
def Lg.room (L L1:Lg):Prop:=(¬(L.seg<0∨L.next=16)∧L1=L)∨((L.seg<0∨L.next=16)∧∃ s c c',s<L.gens.length∧L.free s=true∧(∀ i:Nat,i<s→L.free i=false)∧L1=L.took s c c')
theorem ajJ (hn:L.n=n) (h:L.Sm) (hE:E16 key data L.n e) (hQ:(L.seg<0∨L.next=16)→(∀ i:Nat,i<L.gens.length→L.free i=false)→Q (.tup [.agg [.i 0,.i 0,.i 0],.i 140]) L) (hN:∀ L1 e b,L1.n=L.n→L.room L1→E16 key data L1.n e→N ⟨e,lgX L1 [z3],b⟩) :
  aw (cxN Tryz.prog [0,1,2,3,4]) (pt 2 c7) N X (dD [0,1,2,3,4] (5+(n+1)) [.cell 6 (some 3),.tmp 7] (QF Lg.bs (5+(n+1)) Q)) ⟨e,lgX L [z3],bb⟩:=by
 obtain ⟨g0,g1,g2,g6⟩:=hE
 have g6':get e 6=.ptr (L.cells.length+6) 0 0:=g6
 conv=>arg 2;whnf
 unfold lgX
 simp -implicitDefEqProofs only [rX,↓rY,aA,↓reduceIte,Nat.reduceEqDiff,Nat.reduceAdd,reduceCtorEq,cxN,Nat.reduceEqDiff,g0]
 have k0:get (aM (yab 5 (L.n+1)) e) 0=.ptr 0 0 0:=by rw [a8,g0];simp [kill]
 have k1:get (aM (yab 5 (L.n+1)) e) 1=sv key:=by rw [a8,g1];rfl
 have k2:get (aM (yab 5 (L.n+1)) e) 2=sv data:=by rw [a8,g2];rfl
 have k6:get (aM (yab 5 (L.n+1)) e) 6=.ptr (L.cells.length+6) 0 0:=by rw [a8,g6];exact Kl (by omega)
 cases h1:decide (L.seg<0) with
 | true =>
  rw [we]
  have hcd:L.seg<0∨L.next=16:=.inl (of_decide_eq_true h1)
  refine lZ [z3] L [] [] _ (alD L h) ⟨trivial,trivial⟩ rfl rfl (by simp [aK,bD,kill]) ?_
  rintro r L1 hn1 (⟨s,c,c',h3,h4,h5,rfl,rfl⟩|⟨h3,rfl,rfl⟩)
  ·refine ⟨fun f=>rfl,?_⟩
   simp -implicitDefEqProofs only [rX,↓rY,aA,cells?,↓reduceIte,Nat.reduceEqDiff,bJ,aM,kill,St.kill]
   rw [show ((0:Int) != 0)=false from rfl,wg]
   have k6':get (aM (yab 5 (L.n+1)) e) 6=.ptr ((L.took s c c').n+6) 0 0:=by rw [hn1];exact k6
   exact hN _ _ _ hn1 (.inr ⟨hcd,s,c,c',h3,h4,h5,rfl⟩) ⟨k0,k1,k2,k6'⟩
  ·refine ⟨fun f=>rfl,?_⟩
   unfold lgX
   simp -implicitDefEqProofs only [rX,↓rY,aA,cells?,splice,↓reduceIte,Nat.reduceEqDiff,Nat.reduceAdd,bJ,aM,kill,St.kill,isC,eN,k8,Nat.reduceEqDiff,k6]
   rw [show ((140:Int) != 0)=true from rfl,we]
   exact Qo hn k6 rfl (hQ hcd h3)
 | false =>
  have h1':=of_decide_eq_false h1
  rw [wg]
  cases h2:(L.next==16) with
  | true =>
   rw [we]
   have hcd:L.seg<0∨L.next=16:=.inr (by simpa using h2)
   refine lZ [z3] L [] [] _ (alD L h) ⟨trivial,trivial⟩ rfl rfl (by simp [aK,bD,kill]) ?_
   rintro r L1 hn1 (⟨s,c,c',h3,h4,h5,rfl,rfl⟩|⟨h3,rfl,rfl⟩)
   ·refine ⟨fun f=>rfl,?_⟩
    simp -implicitDefEqProofs only [rX,↓rY,aA,cells?,↓reduceIte,Nat.reduceEqDiff,bJ,aM,kill,St.kill]
    rw [show ((0:Int) != 0)=false from rfl,wg]
    have k6':get (aM (yab 5 (L.n+1)) e) 6=.ptr ((L.took s c c').n+6) 0 0:=by rw [hn1];exact k6
    exact hN _ _ _ hn1 (.inr ⟨hcd,s,c,c',h3,h4,h5,rfl⟩) ⟨k0,k1,k2,k6'⟩
   ·refine ⟨fun f=>rfl,?_⟩
    unfold lgX
    simp -implicitDefEqProofs only [rX,↓rY,aA,cells?,splice,↓reduceIte,Nat.reduceEqDiff,Nat.reduceAdd,bJ,aM,kill,St.kill,isC,eN,k8,Nat.reduceEqDiff,k6]
    rw [show ((140:Int) != 0)=true from rfl,we]
    exact Qo hn k6 rfl (hQ hcd h3)
  | false =>
   have h2':¬L.next=16:=by simpa using h2
   rw [wg]
   exact hN L _ _ rfl (.inl ⟨by omega,rfl⟩) ⟨g0,g1,g2,g6⟩
end
set_option maxRecDepth 20000
theorem aaS {L L1:Lg} (h:L.Sm) (hr:L.room L1) (hsg:L.seg<L.gens.length) (hnx:0≤L.next∧L.next≤16) (hgi:∀ x∈L.gens,0≤x∧x≤2000000000000000000) :
  (0≤L1.seg∧L1.seg<L1.gens.length)∧L1.gens.length=L.gens.length∧(0≤L1.next∧L1.next<16)∧L1.seq=L.seq∧L1.steps≤L.steps+40∧L1.found=L.found∧∀ x∈L1.gens,0≤x∧x≤2000000000000000001:=by
 rcases hr with ⟨h1,rfl⟩|⟨h1,s,c,c',h2,h3,h4,rfl⟩
 ·exact ⟨by omega,rfl,by omega,rfl,by omega,rfl,fun x hx=>by have:=hgi x hx;omega⟩
 ·have hg:(L.took s c c').gens=L.gens.set s (L.top+1):=by
   unfold Lg.took Lg.ren Lg.gen Lg.wrote
   by_cases h0:L.gens.getD s 0=0
   ·simp only [if_pos h0];rfl
   ·simp only [if_neg h0]
  have hst:(L.took s c c').steps≤L.steps+40:=by
   unfold Lg.took Lg.ren Lg.gen Lg.wrote
   by_cases h0:L.gens.getD s 0=0
   ·simp only [if_pos h0]
    show L.steps+16+1+1+1≤_
    omega
   ·simp only [if_neg h0]
    show L.steps+1+1≤_
    omega
  have hf:(L.took s c c').found=L.found∧(L.took s c c').seq=L.seq:=by
   unfold Lg.took Lg.ren Lg.gen Lg.wrote
   by_cases h0:L.gens.getD s 0=0
   ·simp only [if_pos h0];exact ⟨rfl,rfl⟩
   ·simp only [if_neg h0];exact ⟨trivial,trivial⟩
  rw [hg]
  refine ⟨⟨by show (0:Int)≤s;omega,by show (s:Int)<_;rw [yaj];omega⟩,yaj,⟨by show (0:Int)≤0;omega,by show (0:Int)<16;omega⟩,hf.2,hst,hf.1,fun x hx=>?_⟩
  have ht:=h.t
  rcases ybu hx with h5|h5
  ·have:=hgi x h5;omega
  ·omega
theorem ok7 (L:Lg) (key data:Bs) (h:L.Sm) (hk:key.length≤100000∧data.length≤100000) (hfl:L.found.length≤99999) (hq:0≤L.seq∧L.seq≤2000000000000000000) (hsg:L.seg<L.gens.length) (hnx:0≤L.next∧L.next≤16) (hgi:∀ x∈L.gens,0≤x∧x≤2000000000000000000) :
  OkL 7 [.ptr 0 0 0,sv key,sv data] L (fun r L'=>((100<key.length∨360<data.length)∧r=.tup [.agg [.i 0,.i 0,.i 0],.i 2]∧L'=L) ∨
   (¬(100<key.length∨360<data.length)∧(L.seg<0∨L.next=16)∧(∀ i:Nat,i<L.gens.length→L.free i=false)∧r=.tup [.agg [.i 0,.i 0,.i 0],.i 140]∧L'=L) ∨
   (¬(100<key.length∨360<data.length)∧∃ L1 c,L.room L1∧r=.tup [.agg [.i L1.seg,.i L1.next,.i (L1.seq+1)],.i 0]∧L'=L1.app key data c)):=by
 refine q8 lw7 (by simp) ?_
 rw [c16_parts,zb]
 conv=>arg 2;whnf
 simp -implicitDefEqProofs only [rX,↓rY,aA,cells?,Nat.reduceAdd,aF,cxN,eN,k8,dX,lgH,aO]
 refine ajK rfl ⟨rfl,rfl,rfl,rfl⟩ hk (fun h1=>.inl ⟨h1,rfl,rfl⟩) fun hlim e b hE=>?_
 rw [zb]
 refine ajJ rfl h hE (fun h1 h2=>.inr (.inl ⟨hlim,h1,h2,rfl,rfl⟩)) fun L1 e b hn1 hr hE=>?_
 obtain ⟨r1,r2,r3,r4,r5,r6,r7⟩:=aaS h hr hsg hnx hgi
 have hst:=h.st
 have hg:=h.g
 refine t16 hn1 hE r1 (by omega) r3 (by show _≤L1.n∧L1.n≤_;rw [hn1,r2];exact h.c) (by omega) (by omega) (by rw [r6];exact hfl) ⟨?_,?_,hk.1,hk.2⟩ fun c=>.inr (.inr ⟨hlim,L1,c,hr,rfl,rfl⟩)
 ·show _≤L1.gens.getD L1.seg.toNat 0∧L1.gens.getD L1.seg.toNat 0≤_
  have hlt:L1.seg.toNat<L1.gens.length:=by omega
  rw [yad,yag hlt]
  have:=r7 _ (yaJ hlt)
  show _≤L1.gens[L1.seg.toNat]∧L1.gens[L1.seg.toNat]≤_
  omega
 ·show _≤L1.seq+1∧L1.seq+1≤_
  omega
set_option maxRecDepth 20000
def Ap {α:Type} (p:α→Bool) (l:List α):Int:=if l.any p then (l.findIdx p:Nat) else -1
structure NF {α:Type} (p:α→Bool) (l:List α) (k:Nat):Prop where
 h:∀ j (h:j<l.length),j<k→p l[j]=false
theorem NF.zero {α:Type} {p:α→Bool} {l:List α}:NF p l 0:=⟨fun _ _ h=>absurd h (Nat.not_lt_zero _)⟩
theorem NF.step {α:Type} {p:α→Bool} {l:List α} {k:Nat} (h:NF p l k) (hk:k<l.length) (hp:p l[k]=false):NF p l (k+1):=⟨fun j hj h2=>by
 by_cases h3:j=k
 ·subst h3;exact hp
 ·exact h.h j hj (by omega)⟩
theorem NF.at {α:Type} {p:α→Bool} {l:List α} {k:Nat} (h:NF p l k) (hk:k<l.length) (hp:p l[k]=true):Ap p l=k:=by
 have h1:l.any p=true:=by
  rw [List.any_eq_true];exact ⟨_,yaJ hk,hp⟩
 have h2:l.findIdx p=k:=by
  rw [List.findIdx_eq hk]
  exact ⟨hp,fun j hj=>h.h j (by omega) hj⟩
 simp [Ap,h1,h2]
theorem NF.any {α:Type} {p:α→Bool} {l:List α} {k:Nat} (h:NF p l k) (hk:l.length≤k):l.any p=false:=by
 rw [List.any_eq_false]
 intro y hy
 obtain ⟨j,hj,rfl⟩:=List.getElem_of_mem hy
 simp [h.h j hj (by omega)]
theorem NF.no {α:Type} {p:α→Bool} {l:List α} {k:Nat} (h:NF p l k) (hk:l.length≤k):Ap p l=-1:=by simp [Ap,h.any hk]
theorem abN {α:Type} {p:α→Bool} {l:List α} (h:l.any p=true):∃ k:Nat,Ap p l=k∧∃ hk:k<l.length,p l[k]=true:=by
 have h1:l.findIdx p<l.length:=by
  rw [List.any_eq_true] at h
  obtain ⟨x,hx,hp⟩:=h
  exact List.findIdx_lt_length_of_exists ⟨x,hx,hp⟩
 exact ⟨l.findIdx p,by simp [Ap,h],h1,List.findIdx_getElem⟩
theorem abM {α:Type} {p:α→Bool} {l:List α} (h:l.any p=false):Ap p l=-1:=by simp [Ap,h]
def Ck.isAt (a b c:Int) (x:Ck):Bool:=x.seg==a&&x.slot==b&&x.seq==c
theorem aqM (x:Ck) (a b c:Int):OkN Tryz.prog 41 [.agg x.enc,.ptr 0 0 0] [.var [.i a,.i b,.i c]] [] (IsA (.b (x.isAt a b c)) [.var [.i a,.i b,.i c]]):=by
 refine cO pol [0] lw41 (by simp) ⟨trivial,trivial⟩ (by simp) ?_
 unfold c41
 simp -implicitDefEqProofs only [rX,↓rY,aA,cells?,↓reduceIte,Nat.reduceEqDiff,Nat.reduceAdd,reduceCtorEq,aF,aY,a7,leH,leB,leV,cI,aD,aC,wfB,wfV,wfL,Nat.reduceLeDiff,cxN,aO,Nat.reduceEqDiff,bC,Ck.enc]
 refine ⟨⟨rfl,rfl⟩,⟨rfl,rfl⟩,⟨rfl,rfl⟩,?_⟩
 show (eqK (Value.int .i64 x.seg) (Value.int .i64 a)&&(eqK (Value.int .i64 x.slot) (Value.int .i64 b)&&(eqK (Value.int .i64 x.seq) (Value.int .i64 c)&&true)))=x.isAt a b c
 show ((x.seg==a)&&((x.slot==b)&&((x.seq==c)&&true)))=x.isAt a b c
 unfold Ck.isAt
 rw [Bool.and_true,Bool.and_assoc]
theorem aqN (l:List Ck) (hl:l.length≤100000) (a b c:Int):OkN Tryz.prog 40 [.bro 4 (l.map Ck.enc),.clo 41 [.ptr 0 0 0]] [.var [.i a,.i b,.i c]] [] (IsA (.i (Ap (Ck.isAt a b c) l)) [.var [.i a,.i b,.i c]]):=by
 refine cO pol [0] lw40 (by simp) ⟨trivial,trivial⟩ (by simp) ?_
 unfold c40
 simp -implicitDefEqProofs only [rX,↓rY,aA,↓reduceIte,reduceCtorEq,cxN,aO]
 intro hm
 refine cX (fun k:Nat=>⟨[(8,.i k),(7,.i l.length),(1,.clo 41 [.ptr 0 0 0]),(0,.bro 4 (l.map Ck.enc))],[.var [.i a,.i b,.i c]],0⟩) (fun k=>k≤l.length∧NF (Ck.isAt a b c) l k) (fun k=>l.length-k) 0 ⟨by omega,.zero⟩ ?_ ?_
 ·simp -implicitDefEqProofs only [rX,↓reduceIte,Nat.reduceEqDiff,reduceCtorEq,leE,leH,leB,leV,cI,aD,aC,wfE,wfB,wfV,wfL,Nat.reduceEqDiff,Int.natCast_zero]
 rintro k ⟨hk,hv⟩
 unfold c40l0
 simp -implicitDefEqProofs only [rX,↓rY,aA,↓reduceIte,Nat.reduceEqDiff,reduceCtorEq,yao,yak,La,Kz,Nat.reduceEqDiff]
 simp only [br,yak,decide_eq_true_eq,decide_eq_false_iff_not]
 refine ⟨fun h=>⟨⟨by omega,h⟩,by omega,?_⟩,fun h=>?_⟩
 ·have hk:k<l.length:=by omega
  refine l6 [0] [.agg l[k].enc,.ptr 0 0 0] (.b (l[k].isAt a b c)) (.b (l[k].isAt a b c)) [.var [.i a,.i b,.i c]] [.var [.i a,.i b,.i c]] _ (aqM l[k] a b c) ⟨by simp,by simp⟩ rfl ?_ (by simp) rfl rfl ?_ ?_
  ·simp [aE,aG,aL,a6,wkL,wk,wkR,pos,Ck.enc]
  ·simp [aN,aD,aC,bA]
  cases hb:l[k].isAt a b c with
  | true =>
   simp -implicitDefEqProofs only [rX,↓rY,↓reduceIte,Nat.reduceEqDiff,aY,a7,leH,leB,leV,cI,aD,aC,wfB,wfV,wfL,Nat.reduceEqDiff,aN,bA,bC,bZ,ren]
   exact (hv.at (p:=Ck.isAt a b c) hk hb).symm
  | false =>
   simp -implicitDefEqProofs only [rX,↓rY,aA,↓reduceIte,Nat.reduceEqDiff,reduceCtorEq,leE,leH,leB,leV,cI,aD,aC,wfE,wfB,wfV,wfL,Nat.reduceEqDiff,aN,bA,bZ,ren]
   exact ⟨by simp only [lo,hi,maxLen] at *;omega,k+1,⟨⟨by omega,hv.step hk hb⟩,by omega⟩,by simp⟩
 ·simp -implicitDefEqProofs only [rX,↓reduceIte,aY,a7,leH,leB,leV,cI,aD,aC,wfB,wfV,wfL,bC]
  exact (hv.no (by omega)).symm
set_option maxRecDepth 20000
structure It where
 c:Ck
 data:Bs
 deriving DecidableEq
def It.enc (x:It):List V:=[.i x.c.seg,.i x.c.slot,.i x.c.seq,sv x.c.key,sv x.data]
structure Md where
 l:List It
 segs:Int
 seg:Int
 next:Int
def itF (l:List It) (s:Int):List It:=l.filter fun x=>x.c.seg==s
def Md.inN (m:Md) (s:Int):Nat:=(itF m.l s).length
theorem abL {l:List It} {s:Int}:(itF l s).map It.c=inL (l.map It.c) s:=by
 unfold itF inL
 rw [List.filter_map]
 rfl
def Md.fr (m:Md) (s:Int):Bool:=s != m.seg&&m.inN s==0
def cH (seg slot:Int):Nat:=(seg*129+1+slot*8).toNat
structure Pz (L:Lg) (x:It):Prop where
 sg:0≤x.c.seg∧x.c.seg<L.gens.length
 sl:0≤x.c.slot∧x.c.slot<16
 sq:1≤x.c.seq∧x.c.seq≤L.seq
 gn:1≤L.gens.getD x.c.seg.toNat 0
 key:x.c.key.length≤100
 dat:x.data.length≤360
 cl:∀ j,j<8→L.cells[cH x.c.seg x.c.slot+j]?=some ⟨cutS (eY x.c.seg x.c.slot ⟨L.gens.getD x.c.seg.toNat 0,x.c.seq,x.c.key,x.data⟩) j,false⟩
structure Inv (m:Md) (L:Lg) (B:Nat):Prop where
 fnd:L.found=m.l.map It.c
 seg:L.seg=m.seg
 nxt:0≤m.seg→L.next=m.next
 sg:-1≤m.seg∧m.seg<L.gens.length
 nx:0≤L.next∧L.next≤16
 gl:1≤L.gens.length∧L.gens.length≤700
 sgs:m.segs=L.gens.length
 cl:129*L.gens.length≤L.cells.length∧L.cells.length≤100000
 bad:∀ c∈L.cells,c.bad=false
 gp:∀ x∈L.gens,0≤x∧x≤B
 tp:0≤L.top∧L.top≤B
 sq:0≤L.seq∧L.seq≤B
 st:L.steps≤100*B
 fl:m.l.length≤B
 its:∀ x∈m.l,Pz L x
 asc:m.l.Pairwise fun x y=>x.c.seq<y.c.seq
 cur:∀ x∈m.l,x.c.seg=m.seg→x.c.slot<L.next
 cnt:∀ s,m.inN s≤16
 cnx:0≤m.seg→(m.inN m.seg:Int)≤L.next
 gcu:0≤m.seg→1≤L.gens.getD m.seg.toNat 0
theorem Inv.Sm {m:Md} {L:Lg} {B:Nat} (h:Inv m L B) (hB:B≤100000):L.Sm:=⟨h.gl.2,h.cl,⟨h.tp.1,by have:=h.tp;omega⟩,by have:=h.st;omega,by rw [h.fnd,yai];have:=h.fl;omega⟩
theorem Inv.free {m:Md} {L:Lg} {B:Nat} (h:Inv m L B) {s:Int}:L.free s=m.fr s:=by
 unfold Lg.free Md.fr Md.inN
 rw [h.seg,h.fnd,←abL,yai]
theorem Inv.mono {m:Md} {L:Lg} {B B':Nat} (h:Inv m L B) (hB:B≤B'):Inv m L B' :=
 ⟨h.fnd,h.seg,h.nxt,h.sg,h.nx,h.gl,h.sgs,h.cl,h.bad,fun x hx=>by have:=h.gp x hx;omega,by have:=h.tp;omega,by have:=h.sq;omega,by have:=h.st;omega,by have:=h.fl;omega,h.its,h.asc,h.cur,h.cnt,h.cnx,h.gcu⟩
theorem vO {cs:List Cl} {f:Nat} {ss:List Sec} {i:Nat} (hi:i<cs.length):(vP cs f ss)[i]?=if f≤i∧i<f+ss.length then some ⟨ss.getD (i-f) zS,false⟩ else cs[i]?:=by
 unfold vP
 rw [ybi,ybj hi]
 simp only [Option.map_some]
 split
 ·rfl
 ·rw [yad,yag hi];rfl
theorem Aj {cs:List Cl} {f:Nat} {ss:List Sec} {i:Nat} (hi:¬i<cs.length):(vP cs f ss)[i]?=none:=by
 rw [yaN];rw [e6];omega
theorem Wd {cs:List Cl} {o:Nat→Option Sec} {i:Nat} (hi:i<cs.length):(El cs o)[i]?=match o i with
  | some s=>some ⟨s,false⟩
  | none=>cs[i]?:=by
 unfold El
 rw [ybi,ybj hi]
 simp only [Option.map_some]
 cases o i with
 | some s=>rfl
 | none =>
  simp only
  rw [yad,yag hi];rfl
theorem Ll {cs:List Cl} {f:Nat} {ss:List Sec} (h:∀ c∈cs,c.bad=false):∀ c∈vP cs f ss,c.bad=false:=by
 intro c hc
 unfold vP at hc
 obtain ⟨i,hi,rfl⟩:=yaM.1 hc
 split
 ·rfl
 ·have hi2:i<cs.length:=by simpa using hi
  rw [yad,yag hi2]
  exact h _ (yaJ hi2)
theorem Zh {cs:List Cl} {o:Nat→Option Sec} (h:∀ c∈cs,c.bad=false):∀ c∈El cs o,c.bad=false:=by
 intro c hc
 unfold El at hc
 obtain ⟨i,hi,rfl⟩:=yaM.1 hc
 split
 ·rfl
 ·have hi2:i<cs.length:=by simpa using hi
  rw [yad,yag hi2]
  exact h _ (yaJ hi2)
structure acW (L L':Lg) (s:Nat):Prop where
 gens:L'.gens=L.gens.set s (L.top+1)
 top:L'.top=L.top+1
 seq:L'.seq=L.seq
 found:L'.found=L.found
 steps:L'.steps≤L.steps+40
 len:L'.cells.length=L.cells.length
 bad:(∀ c∈L.cells,c.bad=false)→∀ c∈L'.cells,c.bad=false
 far:∀ i:Nat,(i<s*129∨s*129+129≤i)→L'.cells[i]?=L.cells[i]?
theorem Vw {L:Lg} {s c c':Nat}:acW L (L.ren s c c') s:=by
 have h:acW L ((L.wrote (s*129) [hdS s (L.top+1)] c').gen s) s:=by
  refine ⟨rfl,rfl,rfl,rfl,?_,e6,fun h=>Ll h,fun i hi=>?_⟩
  ·show L.steps+1+1≤_
   omega
  ·show (vP L.cells (s*129) [hdS s (L.top+1)])[i]?=_
   by_cases hl:i<L.cells.length
   ·rw [vO hl,if_neg (by simp only [yaW,yaE];omega)]
   ·rw [Aj hl,yaN (by omega)]
 unfold Lg.ren
 by_cases h0:L.gens.getD s 0=0
 ·rw [if_pos h0]
  refine ⟨rfl,rfl,rfl,rfl,?_,?_,fun h=>Ll (Zh h),fun i hi=>?_⟩
  ·show L.steps+16+1+1+1≤_
   omega
  ·show (vP (El L.cells (erO s 16)) _ _).length=_
   rw [e6,nY]
  ·show (vP (El L.cells (erO s 16)) (s*129) [hdS s (L.top+1)])[i]?=_
   by_cases hl:i<L.cells.length
   ·rw [vO (by rw [nY];exact hl),if_neg (by simp only [yaW,yaE];omega),Wd hl]
    have:erO s 16 i=none:=by
     unfold erO
     rw [if_neg]
     rintro ⟨j,h1,h2⟩
     omega
    rw [this]
   ·rw [Aj (by rw [nY];exact hl),yaN (by omega)]
 ·rw [if_neg h0]
  exact h
theorem acW.held {L L':Lg} {s:Nat} {x:It} (h:acW L L' s) (hx:Pz L x) (hs:x.c.seg≠s):Pz L' x:=by
 have h1:=hx.sg
 have h2:=hx.sl
 have hg:L'.gens.getD x.c.seg.toNat 0=L.gens.getD x.c.seg.toNat 0:=by
  rw [h.gens,yad,yad,ybv (by omega)]
 refine ⟨by rw [h.gens,yaj];exact h1,h2,by rw [h.seq];exact hx.sq,by rw [hg];exact hx.gn,hx.key,hx.dat,fun j hj=>?_⟩
 rw [hg,h.far _ (by unfold cH;omega)]
 exact hx.cl j hj
theorem Nf {l:List Int} {s:Nat} {t:Int} {B:Nat} (h:∀ x∈l,0≤x∧x≤B) (ht:0≤t∧t≤B):∀ x∈l.set s (t+1),0≤x∧x≤((B+1:Nat):Int):=by
 intro x hx
 rcases ybu hx with h5|h5
 ·have:=h x h5;omega
 ·omega
theorem Inv.took {m:Md} {L:Lg} {B s c c':Nat} (h:Inv m L B) (hs:s<L.gens.length) (hf:L.free s=true):Inv { m with seg:=s,next:=0 } (L.took s c c') (B+1):=by
 have hr:=Vw (L:=L) (s:=s) (c:=c) (c':=c')
 have hno:m.inN s=0:=by
  rw [h.free] at hf
  unfold Md.fr at hf
  simp only [Bool.and_eq_true,beq_iff_eq] at hf
  exact hf.2
 have hne:∀ x∈m.l,x.c.seg≠s:=by
  intro x hx he
  unfold Md.inN itF at hno
  rw [ybw,ybx] at hno
  exact hno x hx (by simpa using he)
 refine ⟨hr.found.trans h.fnd,rfl,fun _=>rfl,⟨by show (-1:Int)≤s;omega,by show (s:Int)<(L.ren s c c').gens.length;rw [hr.gens,yaj];omega⟩,⟨by show (0:Int)≤0;omega,by show (0:Int)≤16;omega⟩,by show 1≤(L.ren s c c').gens.length∧(L.ren s c c').gens.length≤700;rw [hr.gens,yaj];exact h.gl,by show m.segs=(L.ren s c c').gens.length;rw [hr.gens,yaj];exact h.sgs,by show 129*(L.ren s c c').gens.length≤(L.ren s c c').cells.length∧(L.ren s c c').cells.length≤100000;rw [hr.gens,yaj,hr.len];exact h.cl,hr.bad h.bad,?_,?_,?_,?_,?_,fun x hx=>?_,h.asc,?_,h.cnt,fun _=>?_,fun _=>?_⟩
 ·show ∀ x∈(L.ren s c c').gens,_
  rw [hr.gens]
  exact Nf h.gp h.tp
 ·show 0≤(L.ren s c c').top∧(L.ren s c c').top≤_
  rw [hr.top];have:=h.tp;omega
 ·show 0≤(L.ren s c c').seq∧(L.ren s c c').seq≤_
  rw [hr.seq];have:=h.sq;omega
 ·show (L.ren s c c').steps≤_
  have:=hr.steps;have:=h.st;omega
 ·show m.l.length≤_
  have:=h.fl;omega
 ·have:=hr.held (h.its x hx) (hne x hx)
  exact ⟨this.sg,this.sl,this.sq,this.gn,this.key,this.dat,this.cl⟩
 ·intro x hx he
  exact absurd he (hne x hx)
 ·show ((m.inN s:Nat):Int)≤0
  rw [hno];exact ybk _
 ·show 1≤(L.ren s c c').gens.getD ((s:Int).toNat) 0
  rw [hr.gens,yak,yad,List.getElem?_set_self hs]
  have:=h.tp
  show 1≤L.top+1
  omega
def Md.put (m:Md) (a b c:Int) (key data:Bs):Md:={ m with l:=m.l++[⟨⟨a,b,c,key⟩,data⟩],seg:=a,next:=b+1 }
theorem Rk {m:Md} {a b c s:Int} {key data:Bs}:(m.put a b c key data).inN s=m.inN s+if a=s then 1 else 0:=by
 unfold Md.inN itF Md.put
 simp only [List.filter_append,yaq]
 congr 1
 by_cases h:a=s
 ·simp [h]
 ·simp [h]
theorem Yv {b:Bs} {j:Nat} (hj:j<8):(gC b 8).getD j zS=cutS b j:=by
 unfold gC
 rw [yad,ybi,ybj hj];rfl
theorem Inv.app {m:Md} {L:Lg} {B c:Nat} {key data:Bs} (h:Inv m L B) (hs:0≤m.seg) (hn:L.next<16) (hk:key.length≤100) (hd:data.length≤360):Inv (m.put m.seg L.next (L.seq+1) key data) (L.app key data c) (B+1):=by
 have hsg:=h.sg
 have hnx:=h.nx
 have hse:=h.seg
 have hcl:=h.cl
 have hw:(L.app key data c).cells=vP L.cells L.at (gC (eY L.seg L.next (L.slot key data)) 8):=rfl
 have hat:L.at=cH m.seg L.next:=by unfold Lg.at cH;rw [hse]
 have hfar:∀ i:Nat,(i<cH m.seg L.next∨cH m.seg L.next+8≤i)→(L.app key data c).cells[i]?=L.cells[i]?:=by
  intro i hi
  rw [hw]
  by_cases hl:i<L.cells.length
  ·rw [vO hl,if_neg (by rw [lX,hat];omega)]
  ·rw [Aj hl,yaN (by omega)]
 have hheld:∀ x∈m.l,Pz (L.app key data c) x:=by
  intro x hx
  have hx1:=h.its x hx
  have h1:=hx1.sg
  have h2:=hx1.sl
  have hq:=hx1.sq
  refine ⟨h1,h2,⟨hq.1,by show x.c.seq≤L.seq+1;omega⟩,hx1.gn,hx1.key,hx1.dat,fun j hj=>?_⟩
  have hc:=h.cur x hx
  rw [hfar]
  ·exact hx1.cl j hj
  ·unfold cH
   by_cases he:x.c.seg=m.seg
   ·have:=hc he;omega
   ·omega
 have hnew:Pz (L.app key data c) ⟨⟨m.seg,L.next,L.seq+1,key⟩,data⟩:=by
  refine ⟨⟨hs,hsg.2⟩,⟨hnx.1,hn⟩,⟨by have:=h.sq;show 1≤L.seq+1;omega,ybk _⟩,h.gcu hs,hk,hd,fun j hj=>?_⟩
  show (L.app key data c).cells[cH m.seg L.next+j]?=some ⟨cutS (eY m.seg L.next ⟨L.gens.getD m.seg.toNat 0,L.seq+1,key,data⟩) j,false⟩
  rw [hw,vO (by unfold cH;omega),hat,if_pos (by rw [lX];omega),yaF,Yv hj]
  unfold Lg.slot
  rw [hse]
 refine ⟨?_,hse,fun _=>rfl,hsg,⟨by show 0≤L.next+1;omega,by show L.next+1≤16;omega⟩,h.gl,h.sgs,by rw [hw,e6];exact hcl,by rw [hw];exact Ll h.bad,fun x hx=>by have:=h.gp x hx;omega,?_,?_,?_,?_,?_,?_,?_,?_,?_,h.gcu⟩
 ·show L.found++[_]=yac It.c (m.l++[_])
  rw [yax,h.fnd,hse];rfl
 ·show 0≤L.top∧L.top≤_
  have:=h.tp;omega
 ·show 0≤L.seq+1∧L.seq+1≤_
  have:=h.sq;omega
 ·show L.steps+(gC _ 8).length+1≤_
  rw [lX];have:=h.st;omega
 ·show (m.l++[_]).length≤_
  rw [yaq];have:=h.fl;simp;omega
 ·intro x hx
  rcases ybe.1 hx with hx|hx
  ·exact hheld x hx
  ·rw [yaK] at hx;subst hx;exact hnew
 ·show (m.l++[_]).Pairwise _
  rw [List.pairwise_append]
  refine ⟨h.asc,List.pairwise_singleton _ _,fun x hx y hy=>?_⟩
  rw [yaK] at hy;subst hy
  have:=(h.its x hx).sq
  show x.c.seq<L.seq+1
  omega
 ·intro x hx he
  rcases ybe.1 hx with hx|hx
  ·have:=h.cur x hx he
   show x.c.slot<L.next+1
   omega
  ·rw [yaK] at hx;subst hx
   show L.next<L.next+1
   omega
 ·intro s
  rw [Rk]
  have:=h.cnt s
  have h3:=h.cnx hs
  split
  ·rename_i he
   subst he
   omega
  ·omega
 ·intro _
  show ((m.put m.seg L.next (L.seq+1) key data).inN m.seg:Int)≤L.next+1
  rw [Rk,if_pos rfl]
  have h3:=h.cnx hs
  omega
theorem abK {l:List It} {s a:Int}:itF (l.filter fun x=>x.c.seg != s) a=if a=s then [] else itF l a:=by
 unfold itF
 rw [List.filter_filter]
 split
 ·rename_i h
  subst h
  rw [ybx]
  intro x _
  simp
 ·rename_i h
  refine List.filter_congr fun x _=>?_
  by_cases h2:x.c.seg=a
  ·subst h2;simp [h]
  ·simp [h2]
def Md.wo (m:Md) (s:Int):Md:={ m with l:=m.l.filter fun x=>x.c.seg != s,seg:=if m.seg=s then -1 else m.seg }
def Lg.drop (L:Lg) (s c c':Nat):Lg:={ L.ren s c c' with found:=L.found.filter fun x=>x.seg != s,seg:=if L.seg=s then -1 else L.seg }
theorem Inv.drop {m:Md} {L:Lg} {B s c c':Nat} (h:Inv m L B) (hs:s<L.gens.length):Inv (m.wo s) (L.drop s c c') (B+1):=by
 have hr:=Vw (L:=L) (s:=s) (c:=c) (c':=c')
 have hsg:=h.sg
 have hnx:(L.ren s c c').next=L.next:=by
  unfold Lg.ren Lg.gen Lg.wrote
  by_cases h0:L.gens.getD s 0=0
  ·simp only [if_pos h0];rfl
  ·simp only [if_neg h0]
 have hle:(m.wo s).l.length≤m.l.length:=ybr ..
 have hin:∀ a,(m.wo s).inN a≤m.inN a:=by
  intro a
  unfold Md.inN Md.wo
  simp only [abK]
  split<;>simp
 refine ⟨?_,?_,fun h0=>?_,?_,by show 0≤(L.ren s c c').next∧(L.ren s c c').next≤16;rw [hnx];exact h.nx,by show 1≤(L.ren s c c').gens.length∧(L.ren s c c').gens.length≤700;rw [hr.gens,yaj];exact h.gl,by show m.segs=(L.ren s c c').gens.length;rw [hr.gens,yaj];exact h.sgs,by show 129*(L.ren s c c').gens.length≤(L.ren s c c').cells.length∧(L.ren s c c').cells.length≤100000;rw [hr.gens,yaj,hr.len];exact h.cl,hr.bad h.bad,?_,?_,?_,?_,?_,fun x hx=>?_,?_,?_,?_,fun h0=>?_,fun h0=>?_⟩
 ·show (L.found.filter _)=((m.l.filter _).map It.c)
  rw [h.fnd,List.filter_map];rfl
 ·show (if L.seg=s then (-1:Int) else L.seg)=if m.seg=s then -1 else m.seg
  rw [h.seg]
 ·show (L.ren s c c').next=m.next
  have h1:0≤m.seg:=by
   have h0':0≤(if m.seg=s then (-1:Int) else m.seg):=h0
   split at h0'
   ·omega
   ·exact h0'
  rw [hnx];exact h.nxt h1
 ·show (-1:Int)≤(if m.seg=s then (-1:Int) else m.seg)∧(if m.seg=s then (-1:Int) else m.seg)<(L.ren s c c').gens.length
  rw [hr.gens,yaj]
  split<;>omega
 ·show ∀ x∈(L.ren s c c').gens,_
  rw [hr.gens]
  exact Nf h.gp h.tp
 ·show 0≤(L.ren s c c').top∧(L.ren s c c').top≤_
  rw [hr.top];have:=h.tp;omega
 ·show 0≤(L.ren s c c').seq∧(L.ren s c c').seq≤_
  rw [hr.seq];have:=h.sq;omega
 ·show (L.ren s c c').steps≤_
  have:=hr.steps;have:=h.st;omega
 ·have:=h.fl;omega
 ·obtain ⟨hx1,hx2⟩:=yaG.1 hx
  have:=hr.held (h.its x hx1) (by simpa using hx2)
  exact ⟨this.sg,this.sl,this.sq,this.gn,this.key,this.dat,this.cl⟩
 ·exact h.asc.sublist ybc
 ·intro x hx he
  obtain ⟨hx1,hx2⟩:=yaG.1 hx
  have hx2:x.c.seg≠s:=by simpa using hx2
  have he':x.c.seg=if m.seg=s then (-1:Int) else m.seg:=he
  show x.c.slot<(L.ren s c c').next
  rw [hnx]
  split at he'
  ·have:=(h.its x hx1).sg;omega
  ·exact h.cur x hx1 he'
 ·intro a
  exact Nat.le_trans (hin a) (h.cnt a)
 ·show (((m.wo s).inN (if m.seg=s then (-1:Int) else m.seg):Nat):Int)≤(L.ren s c c').next
  rw [hnx]
  have h0':0≤(if m.seg=s then (-1:Int) else m.seg):=h0
  split at h0'
  ·omega
  ·rename_i h3
   rw [if_neg h3]
   have h4:=h.cnx h0'
   have h5:=hin m.seg
   omega
 ·show 1≤(L.ren s c c').gens.getD ((if m.seg=s then (-1:Int) else m.seg).toNat) 0
  have h0':0≤(if m.seg=s then (-1:Int) else m.seg):=h0
  split at h0'
  ·omega
  ·rename_i h3
   rw [if_neg h3,hr.gens,yad,ybv (by omega),←yad]
   exact h.gcu h0'
theorem Inv.off {m:Md} {L:Lg} {B:Nat} (h:Inv m L B):Inv { m with seg:=-1 } { L with seg:=-1 } B :=
 ⟨h.fnd,rfl,fun h0=>absurd h0 (by show ¬(0:Int)≤-1;decide),⟨ybk _,by show (-1:Int)<L.gens.length;omega⟩,h.nx,h.gl,h.sgs,h.cl,h.bad,h.gp,h.tp,h.sq,h.st,h.fl,fun x hx=>by have:=h.its x hx;exact ⟨this.sg,this.sl,this.sq,this.gn,this.key,this.dat,this.cl⟩,h.asc,fun x hx he=>by
  have he':x.c.seg=-1:=he
  have:=(h.its x hx).sg;omega,h.cnt,fun h0=>absurd h0 (by show ¬(0:Int)≤-1;decide),fun h0=>absurd h0 (by show ¬(0:Int)≤-1;decide)⟩
set_option maxRecDepth 20000
def Md.ff (m:Md):Option Nat:=(yat m.segs.toNat).find? fun s=>m.fr (s:Int)
def Md.fn (m:Md) (k:Nat):Nat:=((yat k).filter fun s:Nat=>m.fr (s:Int)).length
def Md.whr (m:Md) (key data:Bs):Int × Int × Int :=
 if 100<key.length∨360<data.length then (0,0,2) else
  if 0≤m.seg∧m.next<16 then (m.seg,m.next,0) else
   match m.ff with
   | some s=>((s:Int),0,0)
   | none=>(0,0,140)
theorem abT {m:Md} {s:Nat} (h:s<m.segs.toNat) (h1:m.fr s=true) (h2:∀ i:Nat,i<s→m.fr i=false):m.ff=some s:=by
 unfold Md.ff
 rw [List.find?_range_eq_some]
 exact ⟨h1,by simpa using h,fun j hj=>by simp [h2 j hj]⟩
theorem abU {m:Md} (h:∀ i:Nat,i<m.segs.toNat→m.fr i=false):m.ff=none:=by
 unfold Md.ff
 rw [List.find?_range_eq_none]
 intro j hj
 simp [h j hj]
theorem Inv.append {m:Md} {L:Lg} {B:Nat} {key data:Bs} (h:Inv m L B) (hB:B≤90000) (hk:key.length≤100000∧data.length≤100000) :
  OkL 7 [.ptr 0 0 0,sv key,sv data] L (fun r L'=>((m.whr key data).2.2≠0∧r=.tup [.agg [.i 0,.i 0,.i 0],.i (m.whr key data).2.2]∧L'=L) ∨
   ((m.whr key data).2.2=0∧r=.tup [.agg [.i (m.whr key data).1,.i (m.whr key data).2.1,.i (L.seq+1)],.i 0]∧L'.seq=L.seq+1∧L'.gens.length=L.gens.length∧Inv (m.put (m.whr key data).1 (m.whr key data).2.1 (L.seq+1) key data) L' (B+2))):=by
 have hfl:=h.fl
 have hsq:=h.sq
 have hsg:=h.sg
 have hse:=h.seg
 have hnx:=h.nx
 have hss:=h.sgs
 refine f9 (ok7 L key data (h.Sm (by omega)) hk (by rw [h.fnd,yai];omega) (by omega) (by rw [hse];exact hsg.2) hnx (fun x hx=>by have:=h.gp x hx;omega)) ?_
 rintro r hs ⟨L',⟨h1,h2⟩,rfl⟩
 refine ⟨L',⟨h1,?_⟩,rfl⟩
 rcases h2 with ⟨q1,rfl,rfl⟩|⟨q1,q2,q3,rfl,rfl⟩|⟨q1,L1,c,q2,rfl,rfl⟩
 ·left
  unfold Md.whr
  rw [if_pos q1]
  exact ⟨by decide,rfl,rfl⟩
 ·left
  have hf:m.ff=none:=abU fun i hi=>by rw [←h.free];exact q3 i (by omega)
  have hn:¬(0≤m.seg∧m.next<16):=by
   rintro ⟨a1,a2⟩
   have:=h.nxt a1
   omega
  unfold Md.whr
  rw [if_neg q1,if_neg hn,hf]
  exact ⟨by decide,rfl,rfl⟩
 ·right
  rcases q2 with ⟨a1,rfl⟩|⟨a1,s,c1,c2,a2,a3,a4,rfl⟩
  ·have a5:0≤m.seg:=by omega
   have hx:=h.nxt a5
   have hw:m.whr key data=(m.seg,m.next,0):=by
    unfold Md.whr
    rw [if_neg q1,if_pos ⟨a5,by omega⟩]
   rw [hw,hse,hx]
   refine ⟨rfl,rfl,rfl,rfl,?_⟩
   have:=(h.app (c:=c) (key:=key) (data:=data) a5 (by omega) (by omega) (by omega)).mono (B':=B+2) (by omega)
   rw [hx] at this
   exact this
  ·have hf:m.ff=some s:=abT (by omega) (by rw [←h.free];exact a3) fun i hi=>by rw [←h.free];exact a4 i hi
   have hn:¬(0≤m.seg∧m.next<16):=by
    rintro ⟨b1,b2⟩
    have:=h.nxt b1
    omega
   have hw:m.whr key data=((s:Int),0,0):=by
    unfold Md.whr
    rw [if_neg q1,if_neg hn,hf]
   have hr:=Vw (L:=L) (s:=s) (c:=c1) (c':=c2)
   have hq1:(L.took s c1 c2).seq=L.seq:=hr.seq
   have ht:=(h.took (c:=c1) (c':=c2) a2 a3)
   have:=ht.app (c:=c) (key:=key) (data:=data) (by show (0:Int)≤s;omega) (by show (0:Int)<16;omega) (by omega) (by omega)
   rw [hq1] at this
   rw [hw,hq1]
   refine ⟨rfl,rfl,?_,?_,this⟩
   ·show (L.took s c1 c2).seq+1=_
    rw [hq1]
   ·show (L.ren s c1 c2).gens.length=_
    rw [hr.gens,yaj]
set_option maxRecDepth 20000
def Md.v (m:Md):V:=.agg [.ro 5 (m.l.map It.enc),.i m.segs,.i m.seg,.i m.next]
set_option maxRecDepth 20000
structure Pl where
 seg:Int
 slot:Int
 seq:Int
 deriving DecidableEq
def Pl.enc (p:Pl):List V:=[.i p.seg,.i p.slot,.i p.seq]
def Ck.pl (c:Ck):Pl:=⟨c.seg,c.slot,c.seq⟩
structure Op where
 kind:Nat
 seg:Nat
 n:Nat
 key:Bs
 data:Bs
def Op.enc (x:Op):List V:=[.v (.int .u8 x.kind),.v (.int .u8 x.seg),.v (.int .u16 x.n),sv x.key,sv x.data]
set_option maxRecDepth 20000
section
variable {cx:Cx} {f:FuncId} {e:Env} {b:Nat} {K:V→St→Prop}
theorem xF (L:Lg) (S:MS) (B:List Blk) (args xs:List V) (Q:V→MS→Prop) (hC:cx.C f (.ptr 0 0 0::xs) (S.bs 0) (yab 3 S.n) (QF MS.bs (3+S.n) Q))
  (ha:∀ (H:List Blk) (g:Nat→Option Nat),aE H g args∧wkL xs (aL H g args)) (hn:S.n=L.cells.length)
  (hbn:cx.bn=[]) (hfx:cx.fx=[0,1,2,3,4])
  (hB:B.map (aK (yab 5 S.n))=B)
  (h3:∀ (r:V) (S':MS),S'.n=S.n→Q r S'→(∀ g,ren g r=r)∧K r ⟨aM (yab 5 S.n) e,lgM L S' B,b⟩):aR cx f (.ptr 2 0 0::args) ⟨e,lgM L S B,b⟩ K:=by
 refine tX MS.bs 3 S.n (fun g hg p q f hf=>lS g.ok (by
  have h1:=hg 0
  rw [g.len] at h1
  intro j hj
  have hj2:j<3+g.n:=hj
  exact hf j (by omega))) [.var [.ptr 2 0 0,.sl 1 0 L.gens.length,.i L.top,.i L.seq,.sl (L.cells.length+5) 0 L.found.length,.i L.seg,.i L.next],.arr 1 (L.gens.map encI)] (.arr 4 (L.found.map Ck.enc)::B) S (fun p=>S.len) (by decide) args xs Q hC (ha _ _) (by rw [hbn];simp) (by rw [hfx];intro k hk;left;simp at hk;simp;omega) ?_ ?_ fun r S' h1 h2=>?_
 ·have h2:(2:Nat)∉yab (2+3) S.n:=fun h=>by have:=yae.1 h;omega
  have h1:(1:Nat)∉yab (2+3) S.n:=fun h=>by have:=yae.1 h;omega
  have h5:(L.cells.length+5:Nat)∉yab (2+3) S.n:=fun h=>by have:=yae.1 h;omega
  show [aK (yab (2+3) S.n) _,aK (yab (2+3) S.n) _]=_
  simp only [aK,bD,kill,if_neg h2,if_neg h1,if_neg h5]
 ·rw [yap]
  show aK _ (.arr 4 _)::B.map (aK (yab (2+3) S.n))=_
  rw [show 2+3=5 from rfl,hB]
  rfl
 ·have hn':S'.n=S.n:=by have:=h1 0;rw [S'.len] at this;omega
  obtain ⟨q1,q2⟩:=h3 r S' hn' h2
  refine ⟨q1,?_,q2⟩
  rw [hfx]
  exact ⟨trivial,trivial,trivial,trivial,trivial,trivial⟩
theorem vT {f:FuncId} {xs:List V} {S:MS} {Q:V→MS→Prop} (h:OkD f xs S Q):OkN Tryz.prog f xs (S.bs 0) (yab 3 S.n) (QF MS.bs (3+S.n) Q):=by
 refine f9 h ?_
 rintro r hs ⟨S',⟨h1,h2⟩,rfl⟩
 exact ⟨S',⟨fun p=>by rw [S'.len,h1],h2⟩,rfl⟩
end
def Lg.secs (L:Lg) (a b:Int):List Sec:=(yat 8).map fun j=>(L.cells.getD (cH a b+j) zC).s
def Lg.bts (L:Lg) (a b:Int):Bs:=flB (L.secs a b)
theorem gX {L:Lg} {a b:Int}:(L.secs a b).length=8:=by unfold Lg.secs;simp
theorem pJ {L:Lg} {a b:Int}:(L.bts a b).length=512:=by unfold Lg.bts;rw [Dc,gX]
structure Lg.Rdb (L:Lg) (a b:Int):Prop where
 ha:0≤a∧a≤100000
 hb:0≤b∧b<16
 c:cH a b+8≤L.cells.length
 g:∀ j,j<8→(L.cells.getD (cH a b+j) zC).bad=false
theorem Lg.Rdb.rd {L:Lg} {a b:Int} (h:L.Rdb a b):∀ (j:Nat) (hj:j<8),L.D.rd (a*129+1+b*8+(j:Int))=((L.secs a b)[j]'(by rw [gX];exact hj),0):=by
 intro j hj
 have ha:=h.ha
 have hb:=h.hb
 have hc:=h.c
 have e1:a*129+1+b*8+(j:Int)=((cH a b+j:Nat):Int):=by unfold cH;omega
 have hk:L.D.chk ((cH a b+j:Nat):Int)=0:=by
  unfold Dk.chk
  rw [if_neg (by show ¬(false=true);decide),if_neg (by show ¬(_∨(L.cells.length:Int)≤_);omega)]
 rw [e1]
 unfold Dk.rd
 rw [if_neg (by rw [hk];simp),yak,L.op]
 show (if (L.cells.getD (cH a b+j) zC).bad=true then _ else _)=_
 rw [if_neg (by rw [h.g j hj];decide)]
 show ((L.cells.getD (cH a b+j) zC).s,(0:Int))=_
 simp only [Lg.secs,yao,List.getElem_range]
def rdS (o:Option dV) (c g:Int):Bs × Bs × Int:=match o with
 | some s=>if s.seq=c∧s.gen=g then (s.key,s.data,0) else ([],[],8)
 | none=>([],[],8)
def Lg.rdO (L:Lg) (a b c:Int):Bs × Bs × Int :=
 if L.found.any (Ck.isAt a b c) then
  rdS (lV a b (L.bts a b)) c (L.gens.getD a.toNat 0)
 else ([],[],5)
def rdV (o:Bs × Bs × Int):V:=.tup [sv o.1,sv o.2.1,.i o.2.2]
theorem tI {l:Bs} {H:List Blk} {g:Nat→Option Nat}:aE H g (us l)∧wkL (us l) (aL H g (us l)):=by
 unfold us
 induction l with
 | nil=>exact ⟨trivial,trivial⟩
 | cons x r ih=>exact ⟨⟨trivial,ih.1⟩,rfl,ih.2⟩
theorem c17_parts:c12=.seq (pt 0 c12) (.seq (pt 1 c12) (.seq (pt 2 c12) (.seq (pt 3 c12) (.seq (pt 4 c12) (.seq (pt 5 c12) (.seq (pt 6 c12) (rt 7 c12))))))):=by rfl
section
variable {N:St→Prop} {X:Nat→St→Prop} {e:Env} {bb:Nat} {L:Lg} {a b c:Int} {n:Nat} {Q:V→Lg→Prop}
structure E17 (n:Nat) (e:Env):Prop where
 g0:get e 0=.ptr 0 0 0
 g3:get e 3=.ptr (n+6) 0 0
abbrev pB (a b c:Int):Blk:=.var [.i a,.i b,.i c]
theorem Hs {L:Lg} {B:List Blk} {k d:Bs} {q:Int} (hn:L.n=n) (g4:get e 4=sv k) (g5:get e 5=sv d) (g6:get e 6=.i q) (hQ:Q (.tup [sv k,sv d,.i q]) L):dD [0,1,2,3,4] (5+(n+1)) [.tmp 4,.tmp 5,.tmp 6] (QF Lg.bs (5+(n+1)) Q) ⟨e,lgX L B,bb⟩:=by
 have hh:leH (lgX L B) (lgH L):=by
  rw [←iE]
  exact dR
 refine Gy L hh hn ?_
 unfold lgX
 simp -implicitDefEqProofs only [rX,aY,a7,wfV,wfL,aY,a7,g4,g5,g6]
 exact hQ
theorem adJ {R:St→Prop} (hE:E17 L.n e) (hl:L.found.length≤100000) (hN:∀ e b',E17 L.n e→get e 7=.i (Ap (Ck.isAt a b c) L.found)→N ⟨e,lgX L [pB a b c],b'⟩):aw (cxN Tryz.prog [0,1,2,3,4]) (pt 1 c12) N X R ⟨e,lgX L [pB a b c],bb⟩:=by
 obtain ⟨g0,g3⟩:=hE
 have g3':get e 3=.ptr (L.cells.length+6) 0 0:=g3
 conv=>arg 2;whnf
 unfold lgX
 simp -implicitDefEqProofs only [rX,↓rY,↓reduceIte,Nat.reduceEqDiff,Nat.reduceAdd,cxN,Nat.reduceEqDiff,g0,g3']
 have hle:L.found.length=(L.found.map Ck.enc).length:=by rw [yai]
 have hX:∀ X,(Blk.var [V.ptr 2 0 0,V.sl 1 0 L.gens.length,V.i L.top,V.i L.seq,V.sl (L.cells.length+5) 0 L.found.length,V.i L.seg,V.i L.next]::Blk.arr 1 (yac encI L.gens)::Blk.var [V.sl 3 0 L.cells.length,V.mp 4,V.i L.steps,V.i (-1),V.b false]::Blk.arr 65 (yac Cl.enc L.cells)::Blk.map [] L.c::(yaa L.cells.length Blk.dead++Blk.arr 4 (yac Ck.enc L.found)::X))=lgX L X:=fun X=>rfl
 simp only [hX]
 have hbk:blk (lgX L [pB a b c]) (L.cells.length+6)=pB a b c:=by unfold lgX;rw [Pr];rfl
 have hbf:blk (lgX L [pB a b c]) (L.cells.length+5)=.arr 4 (L.found.map Ck.enc):=by unfold lgX;rw [Zf];rfl
 have hset:(lgX L [pB a b c]).set (L.cells.length+6) (pB a b c)=lgX L [pB a b c]:=by unfold lgX;rw [k8];rfl
 refine l6 [L.cells.length+6] [.bro 4 (L.found.map Ck.enc),.clo 41 [.ptr 0 0 0]] (.i (Ap (Ck.isAt a b c) L.found)) (.i (Ap (Ck.isAt a b c) L.found)) [pB a b c] [pB a b c] (lgX L [pB a b c]) (aqN L.found hl a b c) ⟨by simp,fun k hk=>?_⟩ ?_ ?_ (by simp) ?_ rfl Fh ?_
 ·rw [yaK] at hk
  subst hk
  refine ⟨?_,by simp⟩
  rw [←iE,yaq,Rf]
  show L.cells.length+6<5+(L.cells.length+1)+1
  omega
 ·simp only [yap,yaz,hbk]
  rfl
 ·refine ⟨⟨?_,?_,trivial⟩,?_,?_,trivial⟩
  ·simp [aG,hbf,pos]
  ·simp [aG,aE,pos]
  ·have ht:yaA L.found.length (L.found.map Ck.enc)=L.found.map Ck.enc:=yaB (by rw [yai];exact yam _)
   simp [a6,hbf,pos,wk,wkB,ht]
  ·simp [a6,aL,pos,wk,wkL]
 ·simp only [yap,yaz,aN]
  rw [yaf]
  exact hset
 ·simp -implicitDefEqProofs only [rX,↓reduceIte]
  exact hN _ _ ⟨g0,g3⟩ rfl
theorem adI (hn:L.n=n) (hE:E17 L.n e) (g7:get e 7=.i (Ap (Ck.isAt a b c) L.found)) (hQ:L.found.any (Ck.isAt a b c)=false→Q (rdV (L.rdO a b c)) L) (hN:L.found.any (Ck.isAt a b c)=true→∀ e b',E17 L.n e→N ⟨e,lgX L [pB a b c],b'⟩):aw (cxN Tryz.prog [0,1,2,3,4]) (pt 2 c12) N X (dD [0,1,2,3,4] (5+(n+1)) [.tmp 4,.tmp 5,.tmp 6] (QF Lg.bs (5+(n+1)) Q)) ⟨e,lgX L [pB a b c],bb⟩:=by
 obtain ⟨g0,g3⟩:=hE
 conv=>arg 2;whnf
 simp -implicitDefEqProofs only [rX,↓rY,aA,↓reduceIte,cxN,dC,g7]
 cases h:L.found.any (Ck.isAt a b c) with
 | true =>
  obtain ⟨k,hk,-⟩:=abN h
  rw [hk,decide_eq_false (by omega),wg]
  exact hN h _ _ ⟨g0,g3⟩
 | false =>
  rw [abM h,show decide ((-1:Int)<0)=true from rfl,we]
  refine Hs (k:=[]) (d:=[]) (q:=5) hn rfl rfl rfl ?_
  have:L.rdO a b c=([],[],5):=by unfold Lg.rdO;rw [h];rfl
  have:=hQ h
  rw [‹L.rdO a b c=([],[],5)›] at this
  exact this
theorem ajB {R:St→Prop} (hr:L.Rdb a b) (hE:E17 L.n e) (hN:∀ e b',E17 L.n e→get e 8=.ptr (L.n+7) 0 0→get e 9=.i 0→N ⟨e,lgX L [pB a b c,.var (us (L.bts a b))],b'⟩):aw (cxN Tryz.prog [0,1,2,3,4]) (pt 3 c12) N X R ⟨e,lgX L [pB a b c],bb⟩:=by
 obtain ⟨g0,g3⟩:=hE
 have g3':get e 3=.ptr (L.cells.length+6) 0 0:=g3
 conv=>arg 2;whnf
 unfold lgX
 simp -implicitDefEqProofs only [rX,↓rY,rdK,aA,cells?,↓reduceIte,Nat.reduceEqDiff,Nat.reduceAdd,aF,cxN,eN,fJ,o5,dX,Nat.reduceEqDiff,g0,g3']
 have hX:∀ X,(Blk.var [V.ptr 2 0 0,V.sl 1 0 L.gens.length,V.i L.top,V.i L.seq,V.sl (L.cells.length+5) 0 L.found.length,V.i L.seg,V.i L.next]::Blk.arr 1 (yac encI L.gens)::Blk.var [V.sl 3 0 L.cells.length,V.mp 4,V.i L.steps,V.i (-1),V.b false]::Blk.arr 65 (yac Cl.enc L.cells)::Blk.map [] L.c::(yaa L.cells.length Blk.dead++Blk.arr 4 (yac Ck.enc L.found)::X))=lgM L L.S X:=fun X=>vW
 simp only [hX]
 have hok:=vT (alG L.S a b (L.secs a b) hr.ha (by have:=hr.hb;omega) gX hr.rd)
 obtain ⟨u1,u2,u3⟩:=t8 (pJ (L:=L) (a:=a) (b:=b))
 have u1':(us (flB (L.secs a b))).length=512:=u1
 have k0:∀ {e:Env},get e 0=.ptr 0 0 0→get (aM (yab 5 (L.cells.length)) e) 0=.ptr 0 0 0:=fun g=>by rw [a8,g];simp [kill]
 have k3:∀ {e:Env} {i j:Nat},get e i=.ptr (L.cells.length+(6+j)) 0 0→get (aM (yab 5 (L.cells.length)) e) i=.ptr (L.cells.length+(6+j)) 0 0:=fun g=>by
  rw [a8,g]
  simp only [kill]
  rw [if_neg fun hm=>by have:=yae.1 hm;omega]
 have m7:(L.cells.length+7∈yab 5 L.S.n)=False:=eq_false fun hm=>by
  have:=yae.1 hm
  have h2:L.S.n=L.cells.length:=rfl
  omega
 have hz:us (flB (L.secs a b))++yaQ 512 (yac V.v (yaS 512 (Value.int IntKind.u8 0)).toList)=us (L.bts a b):=zD 512 pJ
 constructor
 ·refine xF L L.S [pB a b c,.dead] [.i a,.i b] [.i a,.i b] _ hok (fun _ _=>⟨⟨trivial,trivial,trivial⟩,rfl,rfl,trivial⟩) rfl rfl rfl (by simp [aK,bD,kill]) ?_
  rintro r S'-⟨rfl,rfl⟩
  refine ⟨fun g=>by simp [ren,bZ,cR],?_⟩
  rw [←vW]
  unfold lgX
  simp -implicitDefEqProofs only [rX,↓rY,aA,cells?,splice,↓reduceIte,Nat.reduceEqDiff,aF,aM,kill,St.kill,fJ,o5,Nat.reduceEqDiff,u1',nR,zD 512 pJ]
  rw [hz]
  exact ⟨by simp,hN _ _ ⟨k0 g0,k3 (j:=0) g3'⟩ rfl rfl⟩
 ·refine xF L L.S [pB a b c,.var (yac V.v (yaS 512 (Value.int IntKind.u8 0)).toList)] [.i a,.i b] [.i a,.i b] _ hok (fun _ _=>⟨⟨trivial,trivial,trivial⟩,rfl,rfl,trivial⟩) rfl rfl rfl (by rw [zU 512];simp [aK,bD,kill,fZ]) ?_
  rintro r S'-⟨rfl,rfl⟩
  refine ⟨fun g=>by simp [ren,bZ,cR],?_⟩
  rw [←vW]
  unfold lgX
  simp -implicitDefEqProofs only [rX,↓rY,cells?,↓reduceIte,Nat.reduceEqDiff,aM,kill,St.kill,Nat.reduceEqDiff,zD 512 pJ]
  simp only [m7,if_false]
  simp -implicitDefEqProofs only [rX,↓rY,splice,fJ,o5,u1',nR]
  rw [hz]
  exact ⟨by simp,hN _ _ ⟨k0 g0,k3 (j:=0) g3'⟩ rfl rfl⟩
theorem ajA {R:St→Prop} (hE:E17 L.n e) (g8:get e 8=.ptr (L.n+7) 0 0) (g9:get e 9=.i 0) {B:List Blk} (hN:∀ e b',E17 L.n e→get e 8=.ptr (L.n+7) 0 0→N ⟨e,lgX L B,b'⟩):aw (cxN Tryz.prog [0,1,2,3,4]) (pt 4 c12) N X R ⟨e,lgX L B,bb⟩:=by
 obtain ⟨g0,g3⟩:=hE
 conv=>arg 2;whnf
 simp -implicitDefEqProofs only [rX,↓rY,aA,↓reduceIte,Nat.reduceEqDiff,cxN,dC,g9]
 rw [show ((0:Int) != 0)=false from rfl,wg]
 exact hN _ _ ⟨g0,g3⟩ g8
abbrev agS (a b c:Int) (bs:Bs) (o:Option dV):List Blk:=[pB a b c,.var (us bs),.var (slE o)]
theorem Ql {o:Option dV}:(slE o).length=4:=by cases o<;>rfl
theorem adG {o:Option dV}:(slE o).all isC=true:=by cases o<;>rfl
theorem Lx {o:Option dV} {g:Nat→Option Nat}:bZ g (slE o)=slE o:=by cases o<;>rfl
theorem aiZ {R:St→Prop} {bs:Bs} (hb:bs.length=512) (h64:In64 [a,b]) (hE:E17 L.n e) (g8:get e 8=.ptr (L.n+7) 0 0) (hN:∀ e b',E17 L.n e→get e 10=.ptr (L.n+8) 0 0→get e 11=.b (lV a b bs).isSome→N ⟨e,lgX L (agS a b c bs (lV a b bs)),b'⟩):aw (cxN Tryz.prog [0,1,2,3,4]) (pt 5 c12) N X R ⟨e,lgX L [pB a b c,.var (us bs)],bb⟩:=by
 obtain ⟨g0,g3⟩:=hE
 have g3':get e 3=.ptr (L.cells.length+6) 0 0:=g3
 have g8':get e 8=.ptr (L.cells.length+7) 0 0:=g8
 obtain ⟨u1,u2,u3⟩:=t8 hb
 conv=>arg 2;whnf
 unfold lgX
 simp -implicitDefEqProofs only [rX,↓rY,↓reduceIte,Nat.reduceEqDiff,Nat.reduceAdd,cxN,dC,eN,fJ,dX,Nat.reduceEqDiff,g3',g8',u1,u2]
 refine aJ (alE a b bs hb h64) ⟨⟨trivial,trivial,tI.1,trivial⟩,rfl,rfl,tI.2,trivial⟩ ?_ ⟨trivial,trivial,trivial,trivial,trivial,trivial⟩ ?_
 ·simp [ren,bZ,Lx]
 simp -implicitDefEqProofs only [rX,↓rY,aA,cells?,splice,↓reduceIte,Nat.reduceEqDiff,Nat.reduceAdd,aF,mJ,Ac,Nat.reduceEqDiff,Ql,adG]
 exact hN _ _ ⟨g0,g3⟩ rfl rfl
theorem aiY (hn:L.n=n) {bs:Bs} {o:Option dV} (ha:0≤a∧a<L.gens.length) (hE:E17 L.n e) (g10:get e 10=.ptr (L.n+8) 0 0) (g11:get e 11=.b o.isSome) (hQ:Q (rdV (rdS o c (L.gens.getD a.toNat 0))) L):aw (cxN Tryz.prog [0,1,2,3,4]) (pt 6 c12) (fun s'=>aw (cxN Tryz.prog [0,1,2,3,4]) (rt 7 c12) N X (dD [0,1,2,3,4] (5+(n+1)) [.tmp 4,.tmp 5,.tmp 6] (QF Lg.bs (5+(n+1)) Q)) s') X (dD [0,1,2,3,4] (5+(n+1)) [.tmp 4,.tmp 5,.tmp 6] (QF Lg.bs (5+(n+1)) Q)) ⟨e,lgX L (agS a b c bs o),bb⟩:=by
 obtain ⟨g0,g3⟩:=hE
 have g3':get e 3=.ptr (L.cells.length+6) 0 0:=g3
 have g10':get e 10=.ptr (L.cells.length+8) 0 0:=g10
 have hX:∀ X,(Blk.var [V.ptr 2 0 0,V.sl 1 0 L.gens.length,V.i L.top,V.i L.seq,V.sl (L.cells.length+5) 0 L.found.length,V.i L.seg,V.i L.next]::Blk.arr 1 (yac encI L.gens)::Blk.var [V.sl 3 0 L.cells.length,V.mp 4,V.i L.steps,V.i (-1),V.b false]::Blk.arr 65 (yac Cl.enc L.cells)::Blk.map [] L.c::(yaa L.cells.length Blk.dead++Blk.arr 4 (yac Ck.enc L.found)::X))=lgX L X:=fun X=>rfl
 conv=>arg 2;whnf
 unfold lgX
 cases o with
 | none =>
  simp -implicitDefEqProofs only [rX,↓rY,aA,↓reduceIte,Nat.reduceEqDiff,Nat.reduceAdd,cxN,dC,Nat.reduceEqDiff,g11,yaX]
  simp only [hX]
  exact Hs (k:=[]) (d:=[]) (q:=8) hn rfl rfl rfl hQ
 | some s =>
  simp -implicitDefEqProofs only [rX,↓rY,aA,↓reduceIte,Nat.reduceEqDiff,dB,Nat.reduceAdd,reduceCtorEq,yao,cxN,lK,dC,eN,mJ,Nat.reduceEqDiff,g0,g3',g10',g11,yaX,slE,dV.enc]
  simp only [hX]
  have hlt:a.toNat<L.gens.length:=by omega
  have hgd:L.gens.getD a.toNat 0=L.gens[a.toNat]:=by rw [yad,yag hlt];rfl
  simp only [rdS] at hQ
  cases h1:s.seq != c with
  | true =>
   have h1':¬s.seq=c:=by simpa using h1
   rw [if_neg (fun h=>h1' h.1)] at hQ
   rw [we]
   exact Hs (k:=[]) (d:=[]) (q:=8) hn rfl rfl rfl hQ
  | false =>
   have h1':s.seq=c:=by simpa using h1
   rw [wg]
   refine ⟨⟨ha.1,ha.2⟩,hlt,?_⟩
   cases h2:s.gen != L.gens[a.toNat] with
   | true =>
    have h2':¬s.gen=L.gens[a.toNat]:=by simpa using h2
    rw [hgd,if_neg (fun h=>h2' h.2)] at hQ
    rw [we]
    exact Hs (k:=[]) (d:=[]) (q:=8) hn rfl rfl rfl hQ
   | false =>
    have h2':s.gen=L.gens[a.toNat]:=by simpa using h2
    rw [hgd,if_pos ⟨h1',h2'⟩] at hQ
    rw [wg]
    conv=>arg 2;whnf
    unfold lgX
    simp -implicitDefEqProofs only [rX,↓rY,aA,↓reduceIte,Nat.reduceEqDiff,Nat.reduceAdd,mJ,Nat.reduceEqDiff,g10',agS,slE,dV.enc]
    simp only [hX]
    exact Hs (k:=s.key) (d:=s.data) (q:=0) hn rfl rfl rfl hQ
end
theorem alM (L:Lg) (a b c:Int) (hl:L.found.length≤100000) (h:L.found.any (Ck.isAt a b c)=true→L.Rdb a b∧a<L.gens.length):OkL 12 [.ptr 0 0 0,.agg [.i a,.i b,.i c]] L (fun r L'=>L'=L∧r=rdV (L.rdO a b c)):=by
 refine q8 lw12 (by simp) ?_
 rw [c17_parts,zb]
 conv=>arg 2;whnf
 simp -implicitDefEqProofs only [rX,↓rY,aA,cells?,↓reduceIte,reduceCtorEq,aF,cxN,dC,eN,k8,dX,lgH,aO]
 have hX:∀ X,(Blk.var [V.ptr 2 0 0,V.sl 1 0 L.gens.length,V.i L.top,V.i L.seq,V.sl (L.cells.length+5) 0 L.found.length,V.i L.seg,V.i L.next]::Blk.arr 1 (yac encI L.gens)::Blk.var [V.sl 3 0 L.cells.length,V.mp 4,V.i L.steps,V.i (-1),V.b false]::Blk.arr 65 (yac Cl.enc L.cells)::Blk.map [] L.c::(yaa L.cells.length Blk.dead++Blk.arr 4 (yac Ck.enc L.found)::X))=lgX L X:=fun X=>rfl
 simp only [hX]
 try rw [zb]
 refine adJ (a:=a) (b:=b) (c:=c) ⟨rfl,rfl⟩ hl fun e b' hE g7=>?_
 rw [zb]
 refine adI rfl hE g7 (fun h1=>⟨rfl,rfl⟩) fun hany e b' hE=>?_
 obtain ⟨hr,hag⟩:=h hany
 rw [zb]
 refine ajB hr hE fun e b' hE g8 g9=>?_
 rw [zb]
 refine ajA hE g8 g9 fun e b' hE g8=>?_
 rw [zb]
 refine aiZ pJ (by
  have:=hr.ha
  have:=hr.hb
  intro x hx
  simp only [yaI,yaR,or_false] at hx
  rcases hx with rfl|rfl<;>omega) hE g8 fun e b' hE g10 g11=>?_
 rw [zb]
 refine aiY rfl ⟨hr.ha.1,hag⟩ hE g10 g11 ⟨rfl,?_⟩
 unfold Lg.rdO
 rw [if_pos hany]
theorem oC {B:Blk} (h:B≠.dead) {H:List Blk} {k:Nat} (hk:H[k]?=some B):aC H k:=by
 unfold aC
 rw [hk]
 cases B<;>first|trivial|exact absurd rfl h
theorem oF {X Y:List Blk}:∀ {T:List Blk},leH X Y→leH (T++X) (T++Y)
 | [],h=>h
 | b::T,h=>⟨aS b,oF (T:=T) h⟩
end Go.Fx.K
namespace Go.Fx
open Go Go.Fx Go.Proofs Go.Sort Go.RowKit
section
variable {α:Type} [Inhabited α] (en:α→List Value) (k:Nat)
def enV (x:α):List V:=(en x).map V.v
theorem Iv {S:Nat→Prop} {w:World} {b:Nat}:∀ {vs:List Value} {off:Nat},iH S w b off (vs.map V.v)→∀ j (h:j<vs.length),w.cell? ⟨b,off+j,none⟩=some vs[j]
 | [],_,_,j,h=>by simp at h
 | x::r,off,hr,j,h=>by
  obtain ⟨⟨val,h1,h2⟩,h3⟩:=hr
  cases j with
  | zero =>
   have:val=x:=h2.1
   subst this;exact h1
  | succ j =>
   have:=Iv h3 j (by simpa using h)
   rw [show off+(j+1)=off+1+j by omega]
   exact this
theorem Nq {S:Nat→Prop} {w:World} {b:Nat}:∀ {vs:List Value} {off:Nat},(∀ z∈vs,isD (.v z)=true)→(∀ j (h:j<vs.length),w.cell? ⟨b,off+j,none⟩=some vs[j])→iH S w b off (vs.map V.v)
 | [],_,_,_=>trivial
 | x::r,off,hd,h=>⟨⟨x,h 0 (by simp),rfl,hd x (by simp)⟩,Nq (fun z hz=>hd z (by simp [hz])) fun j hj=>by
   have:=h (j+1) (by simpa using hj)
   rw [show off+1+j=off+(j+1) by omega]
   exact this⟩
variable {en k}
theorem Mc {S:Nat→Prop} {w:World} {b:Nat} (hk:∀ x,(en x).length=k):∀ {l:List α} {off:Nat},cP S w k b off (l.map (enV en))→∀ i (h:i<l.length) j (hj:j<(en l[i]).length),w.cell? ⟨b,off+i*k+j,none⟩=some (en l[i])[j]
 | [],_,_,i,h,_,_=>by simp at h
 | x::r,off,hr,i,h,j,hj=>by
  obtain ⟨⟨_,h2⟩,h3⟩:=hr
  cases i with
  | zero =>
   have:=Iv h2 j hj
   simpa using this
  | succ i =>
   have:=Mc hk h3 i (by simpa using h) j hj
   rw [show off+(i+1)*k+j=off+k+i*k+j by rw [ybl];omega]
   exact this
theorem Qn {S:Nat→Prop} {w:World} {b:Nat} (hk:∀ x,(en x).length=k) (hd:∀ x,∀ z∈en x,isD (.v z)=true):∀ {l:List α} {off:Nat},(∀ i (h:i<l.length) j (hj:j<(en l[i]).length),w.cell? ⟨b,off+i*k+j,none⟩=some (en l[i])[j])→cP S w k b off (l.map (enV en))
 | [],_,_=>trivial
 | x::r,off,h=>⟨⟨by simp [enV,hk],Nq (hd x) fun j hj=>by
   have:=h 0 (by simp) j hj
   simpa using this⟩,Qn hk hd fun i hi j hj=>by
   have:=h (i+1) (by simpa using hi) j hj
   rw [show off+k+i*k+j=off+(i+1)*k+j by rw [ybl];omega]
   exact this⟩
structure anJ (lt:α→α→Bool) (l d:List α):Prop where
 p:d.Perm l
 s:d.Pairwise fun x y=>lt y x=false
theorem Yc {P:Program} {f g:FuncId} (hc:dY P f) (hk:∀ x,(en x).length=k) (h0:0<k) (hd:∀ x,∀ z∈en x,isD (.v z)=true) {lt:α→α→Bool}
  (hsort:∀ blk off cap (d:Array α) (w:World),HoldsK en k w blk off d→blk<w.heap.size→d.size<4611686018427387904 →
   Calls P f #[.slice (some ⟨blk,off,none⟩) d.size cap,.func (.func g) #[] #[]] w fun e w'=>e=.returned (.tuple #[])∧∃ d' n os,PermIn 0 d.size d d'∧SortedIn lt 0 d.size d'∧w'=sortWorldK en k w blk off n d' os)
  (hnone:∀ a (w:World),Calls P f #[.slice a 0 0,.func (.func g) #[] #[]] w fun e w'=>e=.returned (.tuple #[])∧w'=w)
  (l:List α) (hl:l.length<4611686018427387904):OkN P f [.sl 0 0 l.length,.clo g []] [.arr k (l.map (enV en))] [] (IsQ (anJ lt l) (fun _=>.tup []) (fun d=>[.arr k (d.map (enV en))])):=by
 refine ⟨hc,?_⟩
 intro ρ X w vals hr ha
 match vals,ha with
 | [val,cv],⟨hv,hcv,_⟩ =>
 obtain ⟨arr,rfl,harr⟩:=hcv
 have harr0:arr=#[]:=by
  cases h:arr.toList with
  | nil=>exact Array.toList_eq_nil_iff.1 h
  | cons a r=>rw [h] at harr;exact harr.elim
 subst harr0
 obtain ⟨cap,h1,h2,h3⟩:=hv
 rcases h3 with ⟨h4,a,rfl⟩|⟨hre,rfl,hroom⟩
 ·have hl0:l=[]:=ybw.1 (by omega)
  subst hl0
  refine (hnone a w).mono ?_
  rintro e w' ⟨rfl,rfl⟩
  exact ⟨_,.tup [],[.arr k []],ρ,rfl,⟨⟨[],⟨.nil,.nil⟩,rfl,rfl⟩,yam _⟩,Fr.refl _ _,hr,⟨#[],rfl,trivial⟩,fun _ _ _=>rfl⟩
 ·have hb:=hr.blk 0 _ rfl
  obtain ⟨⟨hsz,_⟩,hb|⟨_,c,T,hcc,hcs,hlen,hels⟩⟩:=hb
  ·rw [hb.1] at hre;cases hre
  have hoff:(ρ 0).off+0*(ρ 0).sz=(ρ 0).off:=by omega
  rw [hoff]
  rw [yai] at hlen
  have hg:=fun i hi j hj=>Mc hk hels i hi j hj
  have hdiv:∀ t,t<l.length*k→t/k<l.length∧t%k<k∧t/k*k+t%k=t:=fun t ht =>
   ⟨Nat.div_lt_of_lt_mul (by rwa [yaY] at ht),Nat.mod_lt _ h0,by have:=Nat.div_add_mod t k;rw [yaY] at this;exact this⟩
  have hfl:∀ (d:List α) t,t<d.length*k→∀ (h1:t/k<d.length) (h2:t%k<(en d[t/k]).length),(flatK en k d.toArray)[t]! = (en d[t/k])[t%k]:=by
   intro d t ht h1 h2
   rw [get_flatK _ _ _ _ (by simpa using ht)]
   rw [getElem!_pos d.toArray (t/k) (by simpa using h1),getElem!_pos _ (t%k) (by simpa using h2)]
   simp
  have hH:HoldsK en k w (ρ 0).blk (ρ 0).off l.toArray:=by
   intro t ht
   have ht':t<l.length*k:=by simpa using ht
   obtain ⟨q1,q2,q3⟩:=hdiv t ht'
   have q4:t%k<(en l[t/k]).length:=by rw [hk];exact q2
   refine ⟨?_,by simp [World.frozen?,hcc]⟩
   have:=hg (t/k) q1 (t%k) q4
   rw [show (ρ 0).off+t/k*k+t%k=(ρ 0).off+t by omega] at this
   rw [this]
   exact congrArg some (hfl l t ht' q1 q4).symm
  refine (hsort (ρ 0).blk (ρ 0).off cap l.toArray w hH (hr.lt 0 hre) (by simpa using hl)).mono ?_
  rintro e w' ⟨rfl,d',n,os,⟨p1,p2,p3⟩,hs,rfl⟩
  have hdl:d'.toList.length=l.length:=by simpa using p1
  have hperm:d'.toList.Perm l:=by
   have e1:(d'.extract 0 l.toArray.size).toList=d'.toList:=by rw [←p1];simp
   have e2:(l.toArray.extract 0 l.toArray.size).toList=l:=by simp
   rw [e1,e2] at p3
   exact p3
  have hsorted:d'.toList.Pairwise fun x y=>lt y x=false:=by
   rw [List.pairwise_iff_getElem]
   intro i j hi hj hij
   have:=hs i j (yaw _) hij (by simpa [hdl] using hj)
   rw [getElem!_pos d' j (by simpa using hj),getElem!_pos d' i (by simpa using hi)] at this
   simpa using this
  have hbl:=hr.lt 0 hre
  have hsl:l.length=d'.toList.length:=hdl.symm
  generalize hD:d'.toList=D at *
  have hda:d'=D.toArray:=by rw [←hD]
  subst hda
  have hw1:(sortWorldK en k w (ρ 0).blk (ρ 0).off n D.toArray os).heap[(ρ 0).blk]?=some (.cells (putCells id (ρ 0).off (flatK en k D.toArray) c) T (0,0)):=by
   simp only [sortWorldK,Sort.grow,putRowK,Sort.putRow,Sort.mapBlock,Sort.ahead]
   rw [yby (by simpa using hbl),ybz,if_pos rfl,hcc]
   rfl
  have hw2:∀ b,b<w.heap.size→b≠(ρ 0).blk→(sortWorldK en k w (ρ 0).blk (ρ 0).off n D.toArray os).heap[b]?=w.heap[b]?:=by
   intro b hb hne
   simp only [sortWorldK,Sort.grow,putRowK,Sort.putRow,Sort.mapBlock,Sort.ahead]
   rw [yby (by simpa using hb),ybz,if_neg (fun h=>hne h.symm)]
  have hsize:w.heap.size≤(sortWorldK en k w (ρ 0).blk (ρ 0).off n D.toArray os).heap.size:=by
   simp [sortWorldK,Sort.grow,putRowK,Sort.putRow,Sort.mapBlock,Sort.ahead]
  have hfr:Fr ρ w ρ (sortWorldK en k w (ρ 0).blk (ρ 0).off n D.toArray os):=⟨rfl,rfl,rfl,hsize,fun b hb ho=>⟨hw2 b hb fun h=>ho ⟨0,hre,h.symm⟩,ho⟩⟩
  have hcell:∀ t (ht:t<l.length*k),(sortWorldK en k w (ρ 0).blk (ρ 0).off n D.toArray os).cell? ⟨(ρ 0).blk,(ρ 0).off+t,none⟩=some ((flatK en k D.toArray)[t]!):=by
   intro t ht
   have htc:(ρ 0).off+t<c.size:=by rw [hcs];omega
   have hts:t<(flatK en k D.toArray).size:=by simpa [←hsl] using ht
   simp only [World.cell?,hw1]
   have htD:t<D.length*k:=by rw [←hsl];exact ht
   simp [Sort.putCells,htc,htD]
  refine ⟨_,.tup [],[.arr k (D.map (enV en))],ρ,rfl,⟨⟨D,⟨hperm,hsorted⟩,rfl,rfl⟩,yam _⟩,hfr,⟨hr.inj,hr.out,fun q b hq=>?_,hr.disj,fun q hq=>Nat.lt_of_lt_of_le (hr.lt q hq) hsize,hr.xfr hfr⟩,⟨#[],rfl,trivial⟩,fun _ _ _=>rfl⟩
  cases q with
  | succ q=>simp at hq
  | zero =>
   simp only [List.getElem?_cons_zero,Option.some.injEq] at hq
   subst hq
   refine ⟨⟨hsz,h0⟩,.inr ⟨hre,_,T,hw1,by simp [Sort.putCells,hcs],by rw [yai,←hsl];exact hlen,Qn hk hd fun i hi j hj=>?_⟩⟩
   have hj':j<k:=by rw [←hk D[i]];exact hj
   have hlt:i*k+j<l.length*k:=by
    have:(i+1)*k≤l.length*k:=Nat.mul_le_mul_right k (by omega)
    rw [ybl] at this
    omega
   have hdv:(i*k+j)/k=i:=by rw [yaY,Nat.mul_add_div h0,Nat.div_eq_of_lt hj',Nat.add_zero]
   have hmd:(i*k+j)%k=j:=by rw [yaY,Nat.mul_add_mod,Nat.mod_eq_of_lt hj']
   have:=hcell (i*k+j) hlt
   rw [hfl D (i*k+j) (by rw [←hsl];exact hlt) (by rw [hdv];exact hi) (by simp only [hdv,hmd];exact hj)] at this
   simp only [hdv,hmd] at this
   rw [Nat.add_assoc]
   exact this
end
end Go.Fx
namespace Go.Proofs
open Go.Shelf
def Tryz.sortCk_ren:Go.Shelf.Ren:=⟨fun|6=>31|15=>68|14=>67|28=>106|29=>107|20=>98|21=>99|22=>100|23=>101|24=>102|25=>103|26=>104|27=>105|46=>119|47=>120|48=>121|49=>122|50=>123|57=>130|n=>n,fun|22=>79|24=>97|25=>100|3=>3|39=>134|0=>0|53=>171|55=>173|4=>4|46=>186|45=>185|50=>123|5=>5|9=>9|66=>202|70=>206|76=>218|77=>219|n=>n,fun|n=>n⟩
theorem Tryz.sortCk:Go.Proofs.SlLaysF0.n6 Tryz.prog Tryz.sortCk_ren:={
 mixed:=by kernel_rfl
 f6:=⟨Tryz.f31.name,by decide,Tryz.func31.trans (congrArg some (by kernel_rfl))⟩
 f14:=⟨Tryz.f67.name,by decide,Tryz.func67.trans (congrArg some (by kernel_rfl))⟩
 f15:=Tryz.func68.trans (congrArg some (by kernel_rfl))
 f20:=⟨Tryz.f98.name,by decide,Tryz.func98.trans (congrArg some (by kernel_rfl))⟩
 f21:=⟨Tryz.f99.name,by decide,Tryz.func99.trans (congrArg some (by kernel_rfl))⟩
 f22:=⟨Tryz.f100.name,by decide,Tryz.func100.trans (congrArg some (by kernel_rfl))⟩
 f23:=⟨Tryz.f101.name,by decide,Tryz.func101.trans (congrArg some (by kernel_rfl))⟩
 f24:=⟨Tryz.f102.name,by decide,Tryz.func102.trans (congrArg some (by kernel_rfl))⟩
 f25:=⟨Tryz.f103.name,by decide,Tryz.func103.trans (congrArg some (by kernel_rfl))⟩
 f26:=⟨Tryz.f104.name,by decide,Tryz.func104.trans (congrArg some (by kernel_rfl))⟩
 f27:=⟨Tryz.f105.name,by decide,Tryz.func105.trans (congrArg some (by kernel_rfl))⟩
 f28:=Tryz.func106.trans (congrArg some (by kernel_rfl))
 f29:=Tryz.func107.trans (congrArg some (by kernel_rfl))
 f46:=⟨Tryz.f119.name,by decide,Tryz.func119.trans (congrArg some (by kernel_rfl))⟩
 f47:=Tryz.func120.trans (congrArg some (by kernel_rfl))
 f48:=Tryz.func121.trans (congrArg some (by kernel_rfl))
 f49:=⟨Tryz.f122.name,by decide,Tryz.func122.trans (congrArg some (by kernel_rfl))⟩
 f50:=⟨Tryz.f123.name,by decide,Tryz.func123.trans (congrArg some (by kernel_rfl))⟩
 f57:=⟨Tryz.f130.name,by decide,Tryz.func130.trans (congrArg some (by kernel_rfl))⟩
 t0:=Tryz.underlying0
 a0:=Tryz.isAgg0
 z0:=Tryz.sizeOf0
 v0:=Tryz.zeroValue0
 t3:=Tryz.underlying3
 a3:=Tryz.isAgg3
 z3:=Tryz.sizeOf3
 v3:=Tryz.zeroValue3
 t4:=Tryz.underlying4
 a4:=Tryz.isAgg4
 z4:=Tryz.sizeOf4
 v4:=Tryz.zeroValue4
 t5:=Tryz.underlying5
 a5:=Tryz.isAgg5
 z5:=Tryz.sizeOf5
 v5:=Tryz.zeroValue5
 t9:=Tryz.underlying9
 a9:=Tryz.isAgg9
 z9:=Tryz.sizeOf9
 v9:=Tryz.zeroValue9
 t22:=Tryz.underlying79
 a22:=Tryz.isAgg79
 z22:=Tryz.sizeOf79
 v22:=Tryz.zeroValue79
 t25:=Tryz.underlying100
 a25:=Tryz.isAgg100
 z25:=Tryz.sizeOf100
 v25:=Tryz.zeroValue100
 t39:=Tryz.underlying134
 a39:=Tryz.isAgg134
 z39:=Tryz.sizeOf134
 v39:=Tryz.zeroValue134
 t45:=Tryz.underlying185
 a45:=Tryz.isAgg185
 z45:=Tryz.sizeOf185
 v45:=Tryz.zeroValue185
 t46:=Tryz.underlying186
 a46:=Tryz.isAgg186
 z46:=Tryz.sizeOf186
 v46:=Tryz.zeroValue186
 t50:=Tryz.underlying123
 a50:=Tryz.isAgg123
 z50:=Tryz.sizeOf123
 v50:=Tryz.zeroValue123
 t53:=Tryz.underlying171
 a53:=Tryz.isAgg171
 z53:=Tryz.sizeOf171
 v53:=Tryz.zeroValue171
 t55:=Tryz.underlying173
 a55:=Tryz.isAgg173
 z55:=Tryz.sizeOf173
 v55:=Tryz.zeroValue173
 t66:=Tryz.underlying202
 a66:=Tryz.isAgg202
 z66:=Tryz.sizeOf202
 v66:=Tryz.zeroValue202
 t70:=Tryz.underlying206
 a70:=Tryz.isAgg206
 z70:=Tryz.sizeOf206
 v70:=Tryz.zeroValue206
 t76:=Tryz.underlying218
 a76:=Tryz.isAgg218
 z76:=Tryz.sizeOf218
 v76:=Tryz.zeroValue218
 t77:=Tryz.underlying219
 a77:=Tryz.isAgg219
 z77:=Tryz.sizeOf219
 v77:=Tryz.zeroValue219 }
def Tryz.lays189_ren:Go.Shelf.Ren:=⟨fun|189=>140|125=>68|257=>146|128=>106|129=>107|294=>148|295=>149|296=>150|297=>151|298=>152|299=>153|216=>154|300=>155|301=>156|328=>157|329=>120|330=>121|331=>158|332=>159|215=>69|343=>160|n=>n,fun|28=>78|3=>3|46=>134|0=>0|51=>171|53=>173|4=>4|183=>186|182=>185|131=>123|5=>5|9=>9|218=>202|222=>206|228=>218|229=>219|n=>n,fun|n=>n⟩
theorem Tryz.lays189:Go.Proofs.Lays.n189 Tryz.prog Tryz.lays189_ren:={
 mixed:=by kernel_rfl
 f125:=Tryz.func68.trans (congrArg some (by kernel_rfl))
 f128:=Tryz.func106.trans (congrArg some (by kernel_rfl))
 f129:=Tryz.func107.trans (congrArg some (by kernel_rfl))
 f189:=Tryz.func140.trans (congrArg some (by kernel_rfl))
 f215:=Tryz.func69.trans (congrArg some (by kernel_rfl))
 f216:=Tryz.func154.trans (congrArg some (by kernel_rfl))
 f257:=Tryz.func146.trans (congrArg some (by kernel_rfl))
 f294:=Tryz.func148.trans (congrArg some (by kernel_rfl))
 f295:=Tryz.func149.trans (congrArg some (by kernel_rfl))
 f296:=Tryz.func150.trans (congrArg some (by kernel_rfl))
 f297:=Tryz.func151.trans (congrArg some (by kernel_rfl))
 f298:=Tryz.func152.trans (congrArg some (by kernel_rfl))
 f299:=Tryz.func153.trans (congrArg some (by kernel_rfl))
 f300:=Tryz.func155.trans (congrArg some (by kernel_rfl))
 f301:=Tryz.func156.trans (congrArg some (by kernel_rfl))
 f328:=Tryz.func157.trans (congrArg some (by kernel_rfl))
 f329:=Tryz.func120.trans (congrArg some (by kernel_rfl))
 f330:=Tryz.func121.trans (congrArg some (by kernel_rfl))
 f331:=Tryz.func158.trans (congrArg some (by kernel_rfl))
 f332:=Tryz.func159.trans (congrArg some (by kernel_rfl))
 f343:=Tryz.func160.trans (congrArg some (by kernel_rfl))
 t0:=Tryz.underlying0
 a0:=Tryz.isAgg0
 z0:=Tryz.sizeOf0
 v0:=Tryz.zeroValue0
 t3:=Tryz.underlying3
 a3:=Tryz.isAgg3
 z3:=Tryz.sizeOf3
 v3:=Tryz.zeroValue3
 t4:=Tryz.underlying4
 a4:=Tryz.isAgg4
 z4:=Tryz.sizeOf4
 v4:=Tryz.zeroValue4
 t5:=Tryz.underlying5
 a5:=Tryz.isAgg5
 z5:=Tryz.sizeOf5
 v5:=Tryz.zeroValue5
 t9:=Tryz.underlying9
 a9:=Tryz.isAgg9
 z9:=Tryz.sizeOf9
 v9:=Tryz.zeroValue9
 t28:=Tryz.underlying78
 a28:=Tryz.isAgg78
 z28:=Tryz.sizeOf78
 v28:=Tryz.zeroValue78
 t46:=Tryz.underlying134
 a46:=Tryz.isAgg134
 z46:=Tryz.sizeOf134
 v46:=Tryz.zeroValue134
 t51:=Tryz.underlying171
 a51:=Tryz.isAgg171
 z51:=Tryz.sizeOf171
 v51:=Tryz.zeroValue171
 t53:=Tryz.underlying173
 a53:=Tryz.isAgg173
 z53:=Tryz.sizeOf173
 v53:=Tryz.zeroValue173
 t131:=Tryz.underlying123
 a131:=Tryz.isAgg123
 z131:=Tryz.sizeOf123
 v131:=Tryz.zeroValue123
 t182:=Tryz.underlying185
 a182:=Tryz.isAgg185
 z182:=Tryz.sizeOf185
 v182:=Tryz.zeroValue185
 t183:=Tryz.underlying186
 a183:=Tryz.isAgg186
 z183:=Tryz.sizeOf186
 v183:=Tryz.zeroValue186
 t218:=Tryz.underlying202
 a218:=Tryz.isAgg202
 z218:=Tryz.sizeOf202
 v218:=Tryz.zeroValue202
 t222:=Tryz.underlying206
 a222:=Tryz.isAgg206
 z222:=Tryz.sizeOf206
 v222:=Tryz.zeroValue206
 t228:=Tryz.underlying218
 a228:=Tryz.isAgg218
 z228:=Tryz.sizeOf218
 v228:=Tryz.zeroValue218
 t229:=Tryz.underlying219
 a229:=Tryz.isAgg219
 z229:=Tryz.sizeOf219
 v229:=Tryz.zeroValue219 }
open Go.Sort Go.RowKit in
theorem Tryz.slices_Sort_int (blk off cap:Nat) (zs:List Int) (w:World) (hH:Holds (Value.int .i64) w blk off zs.toArray) (hblk:blk<w.heap.size) (hsz:zs.length<4611686018427387904) :
  Calls Tryz.prog 140 #[.slice (some ⟨blk,off,none⟩) zs.length cap] w fun e w' =>
   e=.returned (.tuple #[])∧∃ n os,w'=grow (putRow (Value.int .i64) (Sort.ahead w n) blk off (zs.mergeSort fun x y=>decide (x≤y)).toArray) os:=Any.slices_Sort_int Tryz.lays189 blk off cap zs w hH hblk hsz
open Go.RowKit Go.Sort in
theorem Tryz.slices_Sort_int_none (p:Option Addr) (cap:Nat) (w:World) :
  Calls Tryz.prog 140 #[.slice p 0 cap] w fun e w'=>e=.returned (.tuple #[])∧w'=w:=Any.slices_Sort_int_none Tryz.lays189 p cap w
end Go.Proofs
namespace Go.Fx.K
open Go Go.Fx Go.Proofs Go.Sort
set_option maxRecDepth 20000
def Ci (a b:Int):Int:=if a<b then -1 else if b<a then 1 else 0
theorem ahI {a b:Int} (h:a<b):Ci a b=-1:=by unfold Ci;rw [if_pos h]
theorem ahJ {a b:Int} (h:b<a):Ci a b=1:=by unfold Ci;rw [if_neg (by omega),if_pos h]
theorem cmp_eq {a b:Int} (h1:b≤a) (h2:a≤b):Ci a b=0:=by unfold Ci;rw [if_neg (by omega),if_neg (by omega)]
def enK (c:Ck):List Value:=[.int .i64 c.seg,.int .i64 c.slot,.int .i64 c.seq,.string (sb c.key)]
instance:Inhabited Ck:=⟨⟨0,0,0,[]⟩⟩
set_option maxHeartbeats 1000000 in
theorem arF (x y:Ck) (W:World):Calls Tryz.prog 32 #[.agg #[.int .i64 x.seg,.int .i64 x.slot,.int .i64 x.seq,.string (sb x.key)],.agg #[.int .i64 y.seg,.int .i64 y.slot,.int .i64 y.seq,.string (sb y.key)]] W fun e w'=>e=.returned (.int .i64 (Ci x.seq y.seq))∧∃ q os',w'=Sort.grow (W.drewN q) os':=by
 go_enter Tryz.func32,Tryz.ntmps32
 go_wp2
 all_goals (go_ret;refine ⟨?_,0,_,by rw [Go.Sort.alloc_eq_grow,Go.Sort.alloc_eq_grow,Go.Sort.grow_grow];rfl⟩;first|(rw [ahI (by omega)];rfl)|(rw [ahJ (by omega)];rfl)|(rw [cmp_eq (by omega) (by omega)];rfl))
theorem De {a b:Int}:Ci a b<0↔a<b:=by
 unfold Ci
 split
 ·simp;omega
 ·split
  ·simp;omega
  ·simp;omega
theorem aoP:SWO (ltOf fun x y:Ck=>Ci x.seq y.seq) where
 irrefl x:=by unfold ltOf;simp [De]
 trans x y z h1 h2:=by unfold ltOf at *;simp [De] at *;omega
 ntrans x y z h1 h2:=by unfold ltOf at *;simp [De] at *;omega
theorem agG (a:Option Addr) (w:World):Calls Tryz.prog 31 #[.slice a 0 0,.func (.func 32) #[] #[]] w fun e w'=>e=.returned (.tuple #[])∧w'=w :=
 AnyF.slices_SortFunc_none Tryz.sortCk a 0 _ w
theorem aeY (l:List Ck) (hl:l.length<4611686018427387904):OkN Tryz.prog 31 [.sl 0 0 l.length,.clo 32 []] [.arr 4 (l.map (enV enK))] [] (IsQ (anJ (ltOf fun x y:Ck=>Ci x.seq y.seq) l) (fun _=>.tup []) (fun d=>[.arr 4 (d.map (enV enK))])):=by
 refine Yc (en:=enK) (k:=4) (cal Tryz.func31 (by kernel_rfl) (by kernel_rfl)) (fun _=>rfl) (by decide) (fun x z hz=>by simp [enK] at hz;rcases hz with rfl|rfl|rfl|rfl<;>rfl) ?_ agG l hl
 intro blk off cap d w hH hb hs
 exact AnyQ.slices_SortFunc Tryz.sortCk 4 Tryz.isAgg97 Tryz.sizeOf97 enK (fun _=>rfl) (fun x v hv=>by simp [enK] at hv;rcases hv with rfl|rfl|rfl|rfl<;>rfl) (fun x y=>Ci x.seq y.seq) aoP 32 #[] blk off cap d w
  (enters_of Tryz.func32 (by kernel_rfl) rfl) (fun _ _ _ _ x y=>arF x y _) hH hb hs
theorem Ry {l:List Ck}:l.map (enV enK)=l.map Ck.enc:=by
 refine yaT fun f _=>rfl
structure Px (l d:List Ck):Prop where
 p:d.Perm l
 s:d.Pairwise fun x y=>x.seq≤y.seq
theorem aqP (l:List Ck) (hl:l.length≤4398046511104):OkN Tryz.prog 31 [.sl 0 0 l.length,.clo 32 []] [.arr 4 (l.map Ck.enc)] [] (IsQ (Px l) (fun _=>.tup []) (fun d=>[.arr 4 (d.map Ck.enc)])):=by
 have h:=aeY l (by omega)
 rw [Ry] at h
 refine f9 h ?_
 rintro r hs ⟨d,⟨h1,h2⟩,rfl,rfl⟩
 refine ⟨d,⟨h1,?_⟩,rfl,by simp only [Ry]⟩
 refine h2.imp fun {x y} h=>?_
 unfold ltOf at h
 simp [De] at h
 omega
set_option maxRecDepth 20000
def Lg.hg (L:Lg) (k:Nat):Int:=dE (((p6 (L.cells.getD (k*129) zC).s).drop 4).take 8)
def Lg.hok (L:Lg) (k:Nat):Bool:=decide (0<L.hg k)&&(decide (L.hg k≤1152921504606846976)&&decide ((L.cells.getD (k*129) zC).s=hdS k (L.hg k)))
def Lg.hd (L:Lg) (k:Nat):Lg:=if L.hok k=true then { L with gens:=L.gens.set k (L.hg k),top:=max L.top (L.hg k) } else L
def Lg.slo (L:Lg) (k j:Nat):Lg:=match lV k j (L.bts k j) with
 | some x=>{ L with top:=max L.top x.gen,seq:=max L.seq x.seq,found:=if x.gen=L.gens.getD k 0 then L.found++[⟨k,j,x.seq,x.key⟩] else L.found }
 | none=>L
def Lg.slos (L:Lg) (k:Nat):Nat→Lg
 | 0=>L
 | j+1=>(Lg.slos L k j).slo k j
def Lg.scan (L:Lg):Nat→Lg
 | 0=>L
 | k+1=>((Lg.scan L k).hd k).slos k 16
structure Sc (L0 L:Lg) (f:Nat):Prop where
 cells:L.cells=L0.cells
 steps:L.steps=L0.steps
 c:L.c=L0.c
 gl:L.gens.length=L0.gens.length
 seg:L.seg=L0.seg
 next:L.next=L0.next
 fl:L.found.length≤L0.found.length+f
theorem Sc.refl {L:Lg}:Sc L L 0:=⟨rfl,rfl,rfl,rfl,rfl,rfl,yam _⟩
theorem Sc.hd {L0 L:Lg} {f k:Nat} (h:Sc L0 L f):Sc L0 (L.hd k) f:=by
 unfold Lg.hd
 split
 ·exact ⟨h.cells,h.steps,h.c,by rw [yaj];exact h.gl,h.seg,h.next,h.fl⟩
 ·exact h
theorem Sc.slo {L0 L:Lg} {f k j:Nat} (h:Sc L0 L f):Sc L0 (L.slo k j) (f+1):=by
 have:=h.fl
 unfold Lg.slo
 split
 ·refine ⟨h.cells,h.steps,h.c,h.gl,h.seg,h.next,?_⟩
  simp only
  split
  ·rw [yaq,ybh];omega
  ·omega
 ·exact ⟨h.cells,h.steps,h.c,h.gl,h.seg,h.next,by omega⟩
theorem Sc.slos {L0 L:Lg} {f k:Nat} (h:Sc L0 L f):∀ {j:Nat},Sc L0 (L.slos k j) (f+j)
 | 0=>h
 | j+1=>(Sc.slos h (j:=j)).slo
theorem Sc.scan {L0:Lg}:∀ {k:Nat},Sc L0 (L0.scan k) (16*k)
 | 0=>Sc.refl
 | k+1=>by
  have:=(Sc.scan (L0:=L0) (k:=k)).hd (k:=k)
  exact this.slos (j:=16)
structure Lg.Cln (L:Lg):Prop where
 c:129*L.gens.length≤L.cells.length
 n:L.cells.length≤70000
 g:∀ c∈L.cells,c.bad=false
theorem Lg.Cln.getD {L:Lg} (h:L.Cln) {i:Nat} (hi:i<L.cells.length):(L.cells.getD i zC).bad=false:=by
 rw [yad,yag hi]
 exact h.g _ (yaJ hi)
theorem Lg.Cln.rd {L:Lg} (h:L.Cln) {k:Nat} (hk:k<L.gens.length):L.D.rd ((k:Int)*129)=((L.cells.getD (k*129) zC).s,0):=by
 have hc:=h.c
 have e1:(k:Int)*129=((k*129:Nat):Int):=by omega
 have hk2:L.D.chk ((k*129:Nat):Int)=0:=by
  unfold Dk.chk
  rw [if_neg (by show ¬(false=true);decide),if_neg (by show ¬(_∨(L.cells.length:Int)≤_);omega)]
 rw [e1]
 unfold Dk.rd
 rw [if_neg (by rw [hk2];simp),yak,L.op]
 show (if (L.cells.getD (k*129) zC).bad=true then _ else _)=_
 rw [if_neg (by rw [h.getD (by omega)];decide)]
 rfl
theorem Lg.Cln.rdb {L:Lg} (h:L.Cln) {k j:Nat} (hk:k<L.gens.length) (hj:j<16):L.Rdb k j:=by
 have hc:=h.c
 have hn:=h.n
 have hlt:cH k j+8≤L.cells.length:=by unfold cH;omega
 exact ⟨by omega,by omega,hlt,fun i hi=>h.getD (by omega)⟩
theorem Sc.cln {L0 L:Lg} {f:Nat} (h:Sc L0 L f) (hc:L0.Cln):L.Cln:=⟨by rw [h.gl,h.cells];exact hc.c,by rw [h.cells];exact hc.n,by rw [h.cells];exact hc.g⟩
theorem Sc.D {L0 L:Lg} {f:Nat} (h:Sc L0 L f):L.D=L0.D:=by
 unfold Lg.D
 rw [h.cells,h.steps]
def op3 (T:Nat) (L:Lg):List Blk:=[.arr 1 (L.gens.map encI),.var [.ptr 0 0 0,.sl (T+3) 0 L.gens.length,.i L.top,.i L.seq,.sl (T+5) 0 L.found.length,.i L.seg,.i L.next],.arr 4 (L.found.map Ck.enc)]
def c15ol1:LCode :=
 .seq
 (.reg 0 [
 ⟨(some 74),.bin .lss false (.tmp 73) (.const (.int .i64 16)),none⟩])
 (.seq
 (.cond (.tmp 74)
 .skip
 (.exit 3))
 (.seq
 (.block 4
 (.seq
 (.reg 0 [
 ⟨(some 75),.mov (.tmp 73),none⟩,
 ⟨(some 10),.mov (.tmp 75),none⟩])
 (.seq
 (.reg 1 [
 ⟨(some 77),.mov (.tmp 0),none⟩,
 ⟨(some 78),.mov (.tmp 6),none⟩,
 ⟨(some 79),.mov (.tmp 10),none⟩,
 ⟨(some 80),.call 29 [(.tmp 77),(.tmp 78),(.tmp 79)],none⟩,
 ⟨(some 76),.mov (.tmp 80),none⟩,
 ⟨(some 81),.ext (.tmp 76) 0,none⟩,
 ⟨(some 82),.ext (.tmp 76) 1,none⟩,
 ⟨(some 11),.alloc 0 (.agg (yaS 512 (.int .u8 0))),none⟩,
 ⟨none,.store 512 (.tmp 11) (.tmp 81),none⟩,
 ⟨(some 12),.mov (.tmp 82),none⟩])
 (.seq
 (.seq
 (.reg 0 [
 ⟨(some 83),.mov (.tmp 12),none⟩,
 ⟨(some 84),.bin .neq false (.tmp 83) (.const (.int .i64 0)),none⟩])
 (.cond (.tmp 84)
 (.exit 4)
 .skip))
 (.seq
 (.reg 1 [
 ⟨(some 86),.mov (.tmp 6),none⟩,
 ⟨(some 87),.mov (.tmp 10),none⟩,
 ⟨(some 88),.load (some 512) (.tmp 11),none⟩,
 ⟨(some 89),.call 30 [(.tmp 86),(.tmp 87),(.tmp 88)],none⟩,
 ⟨(some 85),.mov (.tmp 89),none⟩,
 ⟨(some 90),.ext (.tmp 85) 0,none⟩,
 ⟨(some 91),.ext (.tmp 85) 1,none⟩,
 ⟨(some 13),.alloc 0 (.agg #[.int .i64 0,.int .i64 0,.string ⟨#[]⟩,.string ⟨#[]⟩]),none⟩,
 ⟨none,.store 4 (.tmp 13) (.tmp 90),none⟩,
 ⟨(some 14),.mov (.tmp 91),none⟩])
 (.seq
 (.reg 0 [
 ⟨(some 92),.mov (.tmp 14),none⟩])
 (.cond (.tmp 92)
 (.seq
 (.tree 0
 (.take 0 [16,17,18,19,20,21] ⟨(some 93),.mov (.tmp 5),none⟩
 (.take 1 [19,20,21] ⟨(some 94),.mov (.tmp 5),none⟩
 (.take 2 [3,4,5,8,16,17,18,19,20,21] ⟨(some 95),.mov (.tmp 5),none⟩
 (.take 3 [4,5,8,16,17,18,19,20,21] ⟨(some 96),.nilc (.tmp 95),none⟩
 (.take 4 [5,8,16,17,18,19,20,21] ⟨(some 97),.fld 2 (.tmp 96),none⟩
 (.take 5 [8,16,17,18,19,20,21] ⟨(some 98),.load none (.tmp 97),none⟩
 (.take 6 [7,8,16,17,18,19,20,21] ⟨(some 99),.fld 0 (.tmp 13),none⟩
 (.take 7 [8,16,17,18,19,20,21] ⟨(some 100),.load none (.tmp 99),none⟩
 (.take 8 [16,17,18,19,20,21] ⟨(some 101),.minmax true (.tmp 98) (.tmp 100),none⟩
 (.take 9 [10,11,12,15,16,17,18,19,20,21] ⟨(some 102),.mov (.tmp 5),none⟩
 (.take 10 [11,12,15,16,17,18,19,20,21] ⟨(some 103),.nilc (.tmp 102),none⟩
 (.take 11 [12,15,16,17,18,19,20,21] ⟨(some 104),.fld 3 (.tmp 103),none⟩
 (.take 12 [15,16,17,18,19,20,21] ⟨(some 105),.load none (.tmp 104),none⟩
 (.take 13 [14,15,19,20,21] ⟨(some 106),.fld 1 (.tmp 13),none⟩
 (.take 16 [17,18,19,20,21] ⟨(some 109),.nilc (.tmp 93),none⟩
 (.take 17 [18,19,20,21] ⟨(some 110),.fld 2 (.tmp 109),none⟩
 (.alt 14 ⟨(some 107),.load none (.tmp 106),none⟩ true
 (.take 15 [19,20,21] ⟨(some 108),.minmax true (.tmp 105) (.tmp 107),none⟩
 (.alt 18 ⟨none,.store 1 (.tmp 110) (.tmp 101),none⟩ false
 (.take 19 [20,21] ⟨(some 111),.nilc (.tmp 94),none⟩
 (.take 20 [21] ⟨(some 112),.fld 3 (.tmp 111),none⟩
 (.alt 21 ⟨none,.store 1 (.tmp 112) (.tmp 108),none⟩ false
 .done
 .none)))
 .none))
 (.alt 18 ⟨none,.store 1 (.tmp 110) (.tmp 101),none⟩ false
 (.take 14 [15,19,20,21] ⟨(some 107),.load none (.tmp 106),none⟩
 (.take 15 [19,20,21] ⟨(some 108),.minmax true (.tmp 105) (.tmp 107),none⟩
 (.take 19 [20,21] ⟨(some 111),.nilc (.tmp 94),none⟩
 (.take 20 [21] ⟨(some 112),.fld 3 (.tmp 111),none⟩
 (.alt 21 ⟨none,.store 1 (.tmp 112) (.tmp 108),none⟩ false
 .done
 .none)))))
 .none)))))))))))))))))))
 (.seq
 (.qui 0 [
 ⟨(some 113),.fld 0 (.tmp 13),none⟩,
 ⟨(some 114),.load none (.tmp 113),none⟩,
 ⟨(some 115),.mov (.tmp 5),none⟩,
 ⟨(some 116),.nilc (.tmp 115),none⟩,
 ⟨(some 117),.fld 1 (.tmp 116),none⟩,
 ⟨(some 118),.load none (.tmp 117),none⟩,
 ⟨(some 119),.mov (.tmp 6),none⟩,
 ⟨(some 120),.idx 1 (.tmp 118) (.tmp 119),none⟩,
 ⟨(some 121),.load none (.tmp 120),none⟩,
 ⟨(some 122),.bin .eql false (.tmp 114) (.tmp 121),none⟩])
 (.cond (.tmp 122)
 (.tree 2
 (.take 0 [15,16,17] ⟨(some 123),.mov (.tmp 5),none⟩
 (.take 1 [2,3,4,14,15,16,17] ⟨(some 124),.mov (.tmp 5),none⟩
 (.take 2 [3,4,14,15,16,17] ⟨(some 125),.nilc (.tmp 124),none⟩
 (.take 3 [4,14,15,16,17] ⟨(some 126),.fld 4 (.tmp 125),none⟩
 (.take 5 [9,12,13,14,15,16,17] ⟨(some 128),.mov (.tmp 6),none⟩
 (.take 6 [9,12,13,14,15,16,17] ⟨(some 129),.mov (.tmp 10),none⟩
 (.take 7 [8,9,12,13,14,15,16,17] ⟨(some 130),.fld 1 (.tmp 13),none⟩
 (.take 8 [9,12,13,14,15,16,17] ⟨(some 131),.load none (.tmp 130),none⟩
 (.take 9 [12,13,14,15,16,17] ⟨(some 132),.build [.int .i64 0,.int .i64 0,.int .i64 0] [(0,1,(.tmp 128)),(1,1,(.tmp 129)),(2,1,(.tmp 131))],none⟩
 (.take 10 [11,12,13,14,15,16,17] ⟨(some 133),.fld 2 (.tmp 13),none⟩
 (.take 11 [12,13,14,15,16,17] ⟨(some 134),.load none (.tmp 133),none⟩
 (.take 12 [13,14,15,16,17] ⟨(some 135),.build [.int .i64 0,.int .i64 0,.int .i64 0,.string ⟨#[]⟩] [(0,3,(.tmp 132)),(3,1,(.tmp 134))],none⟩
 (.alt 4 ⟨(some 127),.load none (.tmp 126),none⟩ true
 (.alt 13 ⟨(some 136),.lits 0 4 1 [.int .i64 0,.int .i64 0,.int .i64 0,.string ⟨#[]⟩] [(0,(.tmp 135))],none⟩ false
 (.alt 14 ⟨(some 137),.append 1 4 40 (.tmp 127) (.tmp 136),none⟩ false
 (.take 15 [16,17] ⟨(some 138),.nilc (.tmp 123),none⟩
 (.take 16 [17] ⟨(some 139),.fld 4 (.tmp 138),none⟩
 (.alt 17 ⟨none,.store 1 (.tmp 139) (.tmp 137),none⟩ false
 .done
 .none)))
 .none)
 .none)
 (.alt 13 ⟨(some 136),.lits 0 4 1 [.int .i64 0,.int .i64 0,.int .i64 0,.string ⟨#[]⟩] [(0,(.tmp 135))],none⟩ false
 (.take 4 [14,15,16,17] ⟨(some 127),.load none (.tmp 126),none⟩
 (.alt 14 ⟨(some 137),.append 1 4 40 (.tmp 127) (.tmp 136),none⟩ false
 (.take 15 [16,17] ⟨(some 138),.nilc (.tmp 123),none⟩
 (.take 16 [17] ⟨(some 139),.fld 4 (.tmp 138),none⟩
 (.alt 17 ⟨none,.store 1 (.tmp 139) (.tmp 137),none⟩ false
 .done
 .none)))
 .none))
 .none)))))))))))))))
 .skip)))
 .skip)))))))
 (.reg 0 [
 ⟨(some 140),.bin .add true (.tmp 73) (.const (.int .i64 1)),none⟩,
 ⟨(some 73),.mov (.tmp 140),none⟩])))
def c15ol0:LCode :=
 .seq
 (.reg 0 [
 ⟨(some 31),.bin .lss false (.tmp 30) (.tmp 29),none⟩])
 (.seq
 (.cond (.tmp 31)
 .skip
 (.exit 1))
 (.seq
 (.block 2
 (.seq
 (.reg 0 [
 ⟨(some 32),.mov (.tmp 30),none⟩,
 ⟨(some 6),.mov (.tmp 32),none⟩])
 (.seq
 (.seq
 (.reg 1 [
 ⟨(some 34),.mov (.tmp 0),none⟩,
 ⟨(some 35),.mov (.tmp 6),none⟩,
 ⟨(some 36),.bin .mul true (.tmp 35) (.const (.int .i64 129)),none⟩,
 ⟨(some 37),.call 26 [(.tmp 34),(.tmp 36)],none⟩,
 ⟨(some 33),.mov (.tmp 37),none⟩,
 ⟨(some 38),.ext (.tmp 33) 0,none⟩,
 ⟨(some 39),.ext (.tmp 33) 1,none⟩,
 ⟨(some 7),.alloc 0 (.agg (yaS 64 (.int .u8 0))),none⟩,
 ⟨none,.store 64 (.tmp 7) (.tmp 38),none⟩,
 ⟨(some 8),.mov (.tmp 39),none⟩])
 (.seq
 (.reg 0 [
 ⟨(some 40),.mov (.tmp 8),none⟩,
 ⟨(some 41),.bin .eql false (.tmp 40) (.const (.int .i64 0)),none⟩])
 (.cond (.tmp 41)
 (.seq
 (.reg 0 [
 ⟨(some 42),.prim (.pslc 64 true true false) [(.tmp 7),(.const (.int .i64 4)),(.const (.int .i64 12))],none⟩,
 ⟨(some 43),.call 27 [(.tmp 42)],none⟩,
 ⟨(some 9),.mov (.tmp 43),none⟩])
 (.seq
 (.tree 0
 (.take 0 [1,2,3,4,5,6,7,8,9,10,11,12] ⟨(some 44),.mov (.tmp 9),none⟩
 (.take 1 [2,3,4,5,6,7,8,9,10,11,12] ⟨(some 45),.bin .gtr false (.tmp 44) (.const (.int .i64 0)),none⟩
 (.take 2 [3,4,5,6,7,8,9,10,11,12] ⟨(some 46),.mov (.tmp 45),none⟩
 (.take 3 [4,5,6,7,8,9,10,11,12] ⟨(some 47),.mov (.tmp 9),(some (46,true))⟩
 (.take 4 [5,6,7,8,9,10,11,12] ⟨(some 48),.bin .leq false (.tmp 47) (.const (.int .i64 1152921504606846976)),(some (46,true))⟩
 (.take 5 [6,7,8,9,10,11,12] ⟨(some 49),.pick (.tmp 46) (.tmp 48) (.const (.bool false)),none⟩
 (.take 6 [7,8,9,10,11,12] ⟨(some 50),.mov (.tmp 49),none⟩
 (.take 8 [10,11,12] ⟨(some 52),.mov (.tmp 6),(some (50,true))⟩
 (.take 9 [10,11,12] ⟨(some 53),.mov (.tmp 9),(some (50,true))⟩
 (.alt 7 ⟨(some 51),.load (some 64) (.tmp 7),(some (50,true))⟩ true
 (.alt 10 ⟨(some 54),.call 28 [(.tmp 52),(.tmp 53)],(some (50,true))⟩ false
 (.take 11 [12] ⟨(some 55),.prim (.aeq false ((yab 0 64).map fun i=>(i,(.int .u8)))) [(.tmp 51),(.tmp 54)],(some (50,true))⟩
 (.take 12 [] ⟨(some 56),.pick (.tmp 50) (.tmp 55) (.const (.bool false)),none⟩
 .done))
 .none)
 (.alt 10 ⟨(some 54),.call 28 [(.tmp 52),(.tmp 53)],(some (50,true))⟩ false
 (.take 7 [11,12] ⟨(some 51),.load (some 64) (.tmp 7),(some (50,true))⟩
 (.take 11 [12] ⟨(some 55),.prim (.aeq false ((yab 0 64).map fun i=>(i,(.int .u8)))) [(.tmp 51),(.tmp 54)],(some (50,true))⟩
 (.take 12 [] ⟨(some 56),.pick (.tmp 50) (.tmp 55) (.const (.bool false)),none⟩
 .done)))
 .none))))))))))))
 (.cond (.tmp 56)
 (.tree 0
 (.take 0 [1,2,3,13,14,15,16,17] ⟨(some 57),.mov (.tmp 5),none⟩
 (.take 1 [2,3,13,14,15,16,17] ⟨(some 58),.nilc (.tmp 57),none⟩
 (.take 2 [3,13,14,15,16,17] ⟨(some 59),.fld 1 (.tmp 58),none⟩
 (.take 3 [13,14,15,16,17] ⟨(some 60),.load none (.tmp 59),none⟩
 (.take 4 [13,14,15,16,17] ⟨(some 61),.mov (.tmp 6),none⟩
 (.take 5 [15,16,17] ⟨(some 62),.mov (.tmp 5),none⟩
 (.take 6 [13,14,15,16,17] ⟨(some 63),.mov (.tmp 9),none⟩
 (.take 7 [8,9,10,12,13,14,15,16,17] ⟨(some 64),.mov (.tmp 5),none⟩
 (.take 8 [9,10,12,13,14,15,16,17] ⟨(some 65),.nilc (.tmp 64),none⟩
 (.take 9 [10,12,13,14,15,16,17] ⟨(some 66),.fld 2 (.tmp 65),none⟩
 (.take 10 [12,13,14,15,16,17] ⟨(some 67),.load none (.tmp 66),none⟩
 (.take 11 [12,15,16,17] ⟨(some 68),.mov (.tmp 9),none⟩
 (.take 12 [15,16,17] ⟨(some 69),.minmax true (.tmp 67) (.tmp 68),none⟩
 (.take 13 [14,15,16,17] ⟨(some 70),.idx 1 (.tmp 60) (.tmp 61),none⟩
 (.alt 14 ⟨none,.store 1 (.tmp 70) (.tmp 63),none⟩ false
 (.take 15 [16,17] ⟨(some 71),.nilc (.tmp 62),none⟩
 (.take 16 [17] ⟨(some 72),.fld 2 (.tmp 71),none⟩
 (.alt 17 ⟨none,.store 1 (.tmp 72) (.tmp 69),none⟩ false
 .done
 .none)))
 .none))))))))))))))))
 .skip)))
 .skip)))
 (.seq
 (.reg 0 [
 ⟨(some 73),.mov (.const (.int .i64 0)),none⟩])
 (.block 3
 (.loop c15ol1))))))
 (.reg 0 [
 ⟨(some 141),.bin .add true (.tmp 30) (.const (.int .i64 1)),none⟩,
 ⟨(some 30),.mov (.tmp 141),none⟩])))
def c15o:LCode :=
 (.seq
 (.reg 0 [
 ⟨(some 2),.mov (.const (.pointer none)),none⟩,
 ⟨(some 3),.mov (.const (.int .i64 0)),none⟩])
 (.seq
 (.reg 0 [
 ⟨(some 15),.mov (.tmp 0),none⟩,
 ⟨(some 16),.call 9 [(.tmp 15)],none⟩,
 ⟨(some 17),.bin .quo true (.tmp 16) (.const (.int .i64 129)),none⟩,
 ⟨(some 4),.mov (.tmp 17),none⟩])
 (.seq
 (.block 0
 (.seq
 (.reg 0 [
 ⟨(some 19),.mov (.tmp 4),none⟩,
 ⟨(some 20),.bin .eql false (.tmp 19) (.const (.int .i64 0)),none⟩,
 ⟨(some 18),.mov (.tmp 20),none⟩])
 (.cond (.tmp 18)
 (.seq
 (.reg 0 [
 ⟨(some 2),.mov (.const (.pointer none)),none⟩,
 ⟨(some 3),.mov (.const (.int .i64 1)),none⟩])
 .ret)
 (.seq
 (.reg 0 [
 ⟨(some 22),.mov (.tmp 0),none⟩,
 ⟨(some 23),.call 25 [(.tmp 22)],none⟩,
 ⟨(some 21),.mov (.tmp 23),none⟩])
 (.cond (.tmp 21)
 (.seq
 (.reg 0 [
 ⟨(some 2),.mov (.const (.pointer none)),none⟩,
 ⟨(some 3),.mov (.const (.int .i64 130)),none⟩])
 .ret)
 .skip)))))
 (.seq
 (.reg 2 [
 ⟨(some 24),.mov (.tmp 0),none⟩,
 ⟨(some 25),.mov (.tmp 4),none⟩,
 ⟨(some 26),.mk 0 1 8 [.int .i64 0] (.tmp 25) (.tmp 25),none⟩,
 ⟨(some 27),.build [.pointer none,.slice none 0 0,.int .i64 0,.int .i64 0,.slice none 0 0,.int .i64 0,.int .i64 0] [(0,1,(.tmp 24)),(1,1,(.tmp 26)),(5,1,(.const (.int .i64 (-1))))],none⟩,
 ⟨(some 28),.box 1 (.tmp 27),none⟩,
 ⟨(some 5),.mov (.tmp 28),none⟩])
 (.seq
 (.seq
 (.reg 0 [
 ⟨(some 29),.mov (.tmp 4),none⟩,
 ⟨(some 30),.mov (.const (.int .i64 0)),none⟩])
 (.block 1
 (.loop c15ol0)))
 (.seq
 (.reg 0 [
 ⟨(some 142),.mov (.tmp 5),none⟩,
 ⟨(some 143),.nilc (.tmp 142),none⟩,
 ⟨(some 144),.fld 4 (.tmp 143),none⟩,
 ⟨(some 145),.load none (.tmp 144),none⟩,
 ⟨(some 146),.call 31 [(.tmp 145),(.func 32)],none⟩])
 (.seq
 (.reg 0 [
 ⟨(some 147),.mov (.tmp 5),none⟩,
 ⟨(some 2),.mov (.tmp 147),none⟩,
 ⟨(some 3),.mov (.const (.int .i64 0)),none⟩])
 .ret)))))))
theorem lw15o:rlF Tryz.prog 6 c15o=some (c15o,[.tmp 2,.tmp 3],148):=by kernel_rfl
set_option maxRecDepth 20000
def dkX (S:MS) (X:List Blk):List Blk:=dkV 0 S.D::dkC S.D::.map (cD 0 S.D S.L) S.c::(dkT S.D++X)
theorem iN {S:MS}:∀ X,(Blk.var [.sl (0+1) 0 S.D.n,.mp (0+2),.i S.D.steps,.i S.D.after,.b S.D.dead]::Blk.arr 65 (S.D.cells.map Cl.enc)::Blk.map (cD 0 S.D S.L) S.c::(dkT S.D++X))=dkX S X:=fun X=>rfl
theorem Aw {S:MS} {X:List Blk}:dkX S X=S.bs 0++X:=rfl
theorem pA {S:MS} {X:List Blk}:aD [0,1,2] (dkX S X):=⟨trivial,trivial,trivial,trivial⟩
theorem Zu {S:MS} {X:List Blk} (hX:wfB (dkX S X) X):wfB (dkX S X) (dkX S X):=by
 have:=S.wf (p:=0) [] X rfl (C:=X) (by rw [Aw] at hX;exact hX)
 exact this
theorem adU {S:MS} {h Y:List Blk} {e p:Env} {b b':Nat} (he:leE e p) (hh:leH h (dkX S Y)) (hwe:wfE (dkX S Y) p) (hwb:wfB (dkX S Y) Y):leS [0,1,2] ⟨e,h,b⟩ ⟨p,dkX S Y,b'⟩:=⟨he,hh,pA,hwe,Zu hwb⟩
theorem Xc {S:MS} {X:List Blk} {j:Nat} (hj:∃ B,X[j]?=some B∧B≠.dead):aC (dkX S X) ((dkT S.D).length+(j+3)):=by
 obtain ⟨B,h1,h2⟩:=hj
 refine oC h2 ?_
 show (_::_::_::(dkT S.D++X))[(dkT S.D).length+j+1+1+1]?=_
 rw [yar,yar,yar,yan (by omega),yaF,h1]
theorem En {S:MS} {L:Lg} {X:List Blk} (hX:wfB (dkX S (op3 (dkT S.D).length L++X)) X):wfB (dkX S (op3 (dkT S.D).length L++X)) (op3 (dkT S.D).length L++X):=by
 refine ⟨⟨trivial,?_,trivial,trivial,?_,trivial,trivial,trivial⟩,hX⟩
 ·exact Xc (j:=0) ⟨_,rfl,by simp⟩
 ·exact Xc (j:=2) ⟨_,rfl,by simp⟩
section
variable {cx:Cx} {f:FuncId} {e:Env} {b:Nat} {K:V→St→Prop}
theorem Df (B:List Blk) (S:MS) (args xs:List V) (Q:V→MS→Prop) (hC:cx.C f (.ptr 0 0 0::xs) (S.bs 0) (yab 3 S.n) (QF MS.bs (3+S.n) Q))
  (ha:aE (dkX S B) (pos (yab 0 (3+S.n))) args∧wkL xs (aL (dkX S B) (pos (yab 0 (3+S.n))) args))
  (hbn:cx.bn=[]) (hfx:cx.fx=[0,1,2])
  (hB:B.map (aK (yab 3 S.n))=B)
  (h3:∀ (v:V) (S':MS),S'.n=S.n→Q v S'→(∀ f,ren f v=v)∧K v ⟨aM (yab 3 S.n) e,dkX S' B,b⟩):aR cx f (.ptr 0 0 0::args) ⟨e,dkX S B,b⟩ K:=by
 refine tX MS.bs 3 S.n (fun g hg p q f hf=>lS g.ok (by
  have h1:=hg 0
  rw [g.len] at h1
  intro j hj
  have hj2:j<3+g.n:=hj
  exact hf j (by omega))) [] B S (fun p=>S.len) (by decide) args xs Q hC ha (by rw [hbn];simp) (by rw [hfx];intro k hk;left;simp at hk;simp;omega) rfl (by simpa using hB) fun v S' h1 h2=>?_
 have hn':S'.n=S.n:=by have:=h1 0;rw [S'.len] at this;omega
 obtain ⟨q1,q2⟩:=h3 v S' hn' h2
 refine ⟨q1,by rw [hfx];exact pA,?_⟩
 simp only [yaE,yaL]
 exact q2
end
theorem amQ {L:Lg} {f:Value × V × Nat→Value × V × Nat}:(cD 0 L.S.D L.S.L).map f=cD 0 L.S.D L.S.L:=rfl
abbrev aoR (S:MS) (k:Nat) (L:Lg) (N:Nat) (j:Nat):St:=⟨[(73,.i j),(6,.i k),(5,.ptr ((dkT S.D).length+4) 0 0),(29,.i N),(30,.i k),(0,.ptr 0 0 0),(4,.i N)],dkX S (op3 (dkT S.D).length L),0⟩
section
variable {N R:St→Prop} {Xx:Nat→St→Prop} {bb:Nat}
theorem Mr (S:MS) (j:Nat) (h:3≤j):((dkT S.D).length+j∈yab 3 S.n)=False:=eq_false fun hm=>by
 have:=yae.1 hm
 have:=S.T_len
 omega
theorem Kg (S:MS):(0∈yab 3 S.n)=False:=eq_false fun hm=>by
 have:=yae.1 hm
 omega
theorem ajN {L0 L:Lg} {k j f nn:Nat} {e:Env} (g73:get e 73=.i j) (g6:get e 6=.i k) (g5:get e 5=.ptr ((dkT L0.S.D).length+4) 0 0) (g29:get e 29=.i nn) (g30:get e 30=.i k) (g0:get e 0=.ptr 0 0 0) (g4:get e 4=.i nn) (hs:Sc L0 L f) (hc:L0.Cln) (hk:k<L0.gens.length) (hj:j<16) (hf:L0.found.length+f≤20000) (hN:∀ e b',get e 73=.i j→get e 6=.i k→get e 5=.ptr ((dkT L0.S.D).length+4) 0 0→get e 29=.i nn→get e 30=.i k→get e 0=.ptr 0 0 0→get e 4=.i nn→∀ X,N ⟨e,dkX L0.S (op3 (dkT L0.S.D).length (L.slo k j)++X),b'⟩) :
  aw (cxN Tryz.prog [0,1,2]) (acM (pt 0 (rt 2 c15ol1))) N Xx R ⟨e,dkX L0.S (op3 (dkT L0.S.D).length L),bb⟩:=by
 have hcl:=hs.cln hc
 have hrb:=hcl.rdb (by rw [hs.gl];exact hk) hj
 have hD:L0.D=L.D:=hs.D.symm
 have hgl:=hs.gl
 have hfl:=hs.fl
 have hkb:k≤600:=by have:=hc.c;have:=hc.n;omega
 have hrd:∀ (i:Nat) (h:i<8),L0.S.D.rd ((k:Int)*129+1+(j:Int)*8+(i:Int))=((L.secs k j)[i]'(by rw [gX];exact h),0):=by
  intro i h
  show L0.D.rd _=_
  rw [hD]
  exact hrb.rd i h
 have h64:In64 [(k:Int),(j:Int)]:=by
  intro x hx
  simp only [yaI,yaR,or_false] at hx
  rcases hx with rfl|rfl<;>omega
 have hb:=pJ (L:=L) (a:=k) (b:=j)
 obtain ⟨u1,u2,u3⟩:=t8 hb
 have u1':(us (flB (L.secs k j))).length=512:=u1
 have d4:=Mr L0.S 4 (by omega)
 have d0:=Kg L0.S
 have ki:∀ {i:Nat} {x:Int},get e i=.i x→get (aM (yab 3 L0.S.n) e) i=.i x:=fun g=>by rw [a8,g];rfl
 have k0:get (aM (yab 3 L0.S.n) e) 0=.ptr 0 0 0:=by rw [a8,g0];simp only [kill,d0,if_false]
 have k5:get (aM (yab 3 L0.S.n) e) 5=.ptr ((dkT L0.S.D).length+4) 0 0:=by rw [a8,g5];simp only [kill,d4,if_false]
 have k6:=ki g6
 have k73:=ki g73
 have k29:=ki g29
 have k30:=ki g30
 have k4:=ki g4
 conv=>arg 2;whnf
 unfold dkX op3
 simp -implicitDefEqProofs only [rX,↓reduceIte,Nat.reduceEqDiff,Nat.reduceAdd,reduceCtorEq,cxN,dC,dkV,dkC,mF,g73,g6,g0]
 simp only [iN]
 have d3:=Mr L0.S 3 (by omega)
 have d5:=Mr L0.S 5 (by omega)
 have d6:=Mr L0.S 6 (by omega)
 have hz:us (flB (L.secs k j))++yaQ 512 (yac V.v (yaS 512 (Value.int IntKind.u8 0)).toList)=us (L.bts k j):=zD 512 pJ
 refine Df _ L0.S [.i k,.i j] [.i k,.i j] _ (vT (alG L0.S k j (L.secs k j) (by omega) (by omega) gX hrd)) ⟨⟨trivial,trivial,trivial⟩,rfl,rfl,trivial⟩ rfl rfl (by simp only [yap,yaz,aK,bD,kill,d3,d5,d0,if_false]) ?_
 rintro v S'-⟨rfl,rfl⟩
 refine ⟨fun g=>by simp [ren,bZ,cR],?_⟩
 unfold dkX
 simp -implicitDefEqProofs only [rX,↓rY,aA,cells?,splice,↓reduceIte,Nat.reduceEqDiff,Nat.reduceAdd,aF,aM,kill,St.kill,Kp,Vi,dkV,dkC,mF,n61,d0,u1',nR,k6]
 refine ⟨by simp,?_⟩
 rw [hz]
 rw [show ((0:Int) != 0)=false from rfl,wg]
 simp only [iN]
 refine ⟨Nat.le_add_right _ _,?_⟩
 rw [u2]
 refine aJ (alE k j (L.bts k j) hb h64) ⟨⟨trivial,trivial,tI.1,trivial⟩,rfl,rfl,tI.2,trivial⟩ ?_ pA ?_
 ·simp [ren,bZ,Lx]
 cases ho:lV k j (L.bts k j) with
 | none =>
  have hL:L.slo k j=L:=by unfold Lg.slo;rw [ho]
  rw [hL] at hN
  unfold dkX
  simp -implicitDefEqProofs only [rX,↓rY,aA,cells?,splice,↓reduceIte,Nat.reduceEqDiff,Nat.reduceAdd,aF,Xw,Vh,dkV,dkC,n61,Ql,adG,yaX]
  simp only [iN]
  exact hN _ _ (by exact k73) (by exact k6) (by exact k5) (by exact k29) (by exact k30) (by exact k0) (by exact k4) _
 | some x =>
  have hL:L.slo k j={ L with top:=max L.top x.gen,seq:=max L.seq x.seq,found:=if x.gen=L.gens.getD k 0 then L.found++[⟨k,j,x.seq,x.key⟩] else L.found }:=by unfold Lg.slo;rw [ho]
  rw [hL] at hN
  unfold dkX
  simp -implicitDefEqProofs only [rX,↓rY,qk,rdK,aA,cells?,splice,↓reduceIte,Nat.reduceEqDiff,dB,Nat.reduceAdd,reduceCtorEq,aF,bJ,bR,aM,aK,kill,bD,St.kill,isD,isC,Nat.reduceLT,Nat.reduceLeDiff,yao,yak,lK,dQ,pD,pZ,Kq,Of,Xw,Vh,dkV,dkC,mF,Iq,agX,afA,n61,slE,dV.enc,yaX,k5,k6,amQ,fZ,yaV,Nat.reduceEqDiff]
  simp only [iN]
  have hk':k<L.gens.length:=by omega
  have hgd:L.gens.getD k 0=L.gens[k]:=by rw [yad,yag hk'];rfl
  rw [hgd] at hN
  refine ⟨⟨by omega,by omega⟩,hk',?_⟩
  cases he:x.gen==L.gens[k] with
  | true =>
   rw [if_pos (by simpa using he)] at hN
   rw [we,yaB (by rw [yai];exact yam _)]
   simp only [op3,yax,yaq,yap,yaz,ybh,yay,yal] at hN
   have j73:get (aM [(dkT L0.S.D).length+5] (aM (yab 3 L0.S.n) e)) 73=.i j:=by rw [a8,k73];rfl
   have j6:get (aM [(dkT L0.S.D).length+5] (aM (yab 3 L0.S.n) e)) 6=.i k:=by rw [a8,k6];rfl
   have j5:get (aM [(dkT L0.S.D).length+5] (aM (yab 3 L0.S.n) e)) 5=.ptr ((dkT L0.S.D).length+4) 0 0:=by rw [a8,k5];simp [kill]
   have j29:get (aM [(dkT L0.S.D).length+5] (aM (yab 3 L0.S.n) e)) 29=.i nn:=by rw [a8,k29];rfl
   have j30:get (aM [(dkT L0.S.D).length+5] (aM (yab 3 L0.S.n) e)) 30=.i k:=by rw [a8,k30];rfl
   have j0:get (aM [(dkT L0.S.D).length+5] (aM (yab 3 L0.S.n) e)) 0=.ptr 0 0 0:=by rw [a8,k0];simp [kill]
   have j4:get (aM [(dkT L0.S.D).length+5] (aM (yab 3 L0.S.n) e)) 4=.i nn:=by rw [a8,k4];rfl
   exact ⟨⟨by omega,hN _ _ (by exact j73) (by exact j6) (by exact j5) (by exact j29) (by exact j30) (by exact j0) (by exact j4) _⟩,by omega,hN _ _ (by exact j73) (by exact j6) (by exact j5) (by exact j29) (by exact j30) (by exact j0) (by exact j4) _⟩
  | false =>
   rw [if_neg (by simpa using he)] at hN
   rw [wg]
   exact hN _ _ (by exact k73) (by exact k6) (by exact k5) (by exact k29) (by exact k30) (by exact k0) (by exact k4) _
end
set_option maxRecDepth 20000
theorem anG {S:MS} {X:List Blk} {j:Nat} {B:Blk} (hj:X[j]?=some B):blk (dkX S X) ((dkT S.D).length+(j+3))=B:=by
 rw [blk,yad]
 show ((_::_::_::(dkT S.D++X))[(dkT S.D).length+j+1+1+1]?).getD .dead=_
 rw [yar,yar,yar,yan (by omega),yaF,hj]
 rfl
section
variable {N R:St→Prop} {Xx:Nat→St→Prop} {bb:Nat}
theorem ajO {L0 L:Lg} {k f nn:Nat} {e:Env} (g6:get e 6=.i k) (g5:get e 5=.ptr ((dkT L0.S.D).length+4) 0 0) (g29:get e 29=.i nn) (g30:get e 30=.i k) (g0:get e 0=.ptr 0 0 0) (g4:get e 4=.i nn) (hs:Sc L0 L f) (hc:L0.Cln) (hk:k<L0.gens.length) (hN:∀ e b',get e 6=.i k→get e 5=.ptr ((dkT L0.S.D).length+4) 0 0→get e 29=.i nn→get e 30=.i k→get e 0=.ptr 0 0 0→get e 4=.i nn→∀ X,N ⟨e,dkX L0.S (op3 (dkT L0.S.D).length (L.hd k)++X),b'⟩) :
  aw (cxN Tryz.prog [0,1,2]) (pt 0 (rt 1 (acM (pt 0 (rt 2 c15ol0))))) N Xx R ⟨e,dkX L0.S (op3 (dkT L0.S.D).length L),bb⟩:=by
 have hcl:=hs.cln hc
 have hD:L0.D=L.D:=hs.D.symm
 have hgl:=hs.gl
 have hkb:k≤600:=by have:=hc.c;have:=hc.n;omega
 have hrd:L0.S.D.rd ((k:Int)*129)=((L.cells.getD (k*129) zC).s,0):=by
  show L0.D.rd _=_
  rw [hD]
  exact hcl.rd (by omega)
 have d4:=Mr L0.S 4 (by omega)
 have d3:=Mr L0.S 3 (by omega)
 have d5:=Mr L0.S 5 (by omega)
 have d6:=Mr L0.S 6 (by omega)
 have d0:=Kg L0.S
 obtain ⟨sc,hsc⟩:∃ sc,sc=(L.cells.getD (k*129) zC).s:=⟨_,rfl⟩
 have hg:L.hg k=dE (((p6 sc).drop 4).take 8):=by unfold Lg.hg;rw [←hsc]
 have hok:L.hok k=(decide (0<L.hg k)&&(decide (L.hg k≤1152921504606846976)&&decide (sc=hdS k (L.hg k)))):=by unfold Lg.hok;rw [←hsc]
 rw [←hsc] at hrd
 have ki:∀ {i:Nat} {x:Int},get e i=.i x→get (aM (yab 3 L0.S.n) e) i=.i x:=fun g=>by rw [a8,g];rfl
 have k0:get (aM (yab 3 L0.S.n) e) 0=.ptr 0 0 0:=by rw [a8,g0];simp only [kill,d0,if_false]
 have k5:get (aM (yab 3 L0.S.n) e) 5=.ptr ((dkT L0.S.D).length+4) 0 0:=by rw [a8,g5];simp only [kill,d4,if_false]
 have k6:=ki g6
 have k29:=ki g29
 have k30:=ki g30
 have k4:=ki g4
 conv=>arg 2;whnf
 unfold dkX op3
 simp -implicitDefEqProofs only [rX,↓rY,aA,↓reduceIte,Nat.reduceEqDiff,Nat.reduceAdd,cxN,dkV,dkC,mF,g6,g0]
 simp only [iN]
 refine ⟨⟨by simp only [lo];omega,by simp only [hi];omega⟩,?_⟩
 refine Df _ L0.S [.i ((k:Int)*129)] [.i ((k:Int)*129)] _ (vT (agA L0.S ((k:Int)*129))) ⟨⟨trivial,trivial⟩,rfl,trivial⟩ rfl rfl (by simp only [yap,yaz,aK,bD,kill,d3,d5,d0,if_false]) ?_
 rintro v S'-⟨rfl,rfl⟩
 rw [hrd]
 refine ⟨fun g=>by simp [ren,bZ,Cr],?_⟩
 unfold dkX
 simp -implicitDefEqProofs only [rX,↓rY,kg,aA,cells?,splice,↓reduceIte,Nat.reduceEqDiff,Nat.reduceAdd,aF,bN,aM,kill,St.kill,Iy,cB,Bi,Kp,Vi,dkV,dkC,gY,n61,d0]
 rw [show ((0:Int)==0)=true from rfl,we]
 simp only [iN]
 refine ⟨⟨⟨by decide,by decide⟩,by decide,by decide⟩,?_⟩
 refine aJ (alI (((p6 sc).drop 4).take 8)) ?_ rfl pA ?_
 ·have hb:=anG (S:=L0.S) (X:=[Blk.arr 1 (yac encI L.gens),Blk.var [V.ptr 0 0 0,V.sl ((dkT L0.S.D).length+3) 0 L.gens.length,V.i L.top,V.i L.seq,V.sl ((dkT L0.S.D).length+5) 0 L.found.length,V.i L.seg,V.i L.next],Blk.arr 4 (yac Ck.enc L.found),Blk.var sc.enc]) (j:=3) rfl
  have hx:a6 (dkX L0.S [Blk.arr 1 (yac encI L.gens),Blk.var [V.ptr 0 0 0,V.sl ((dkT L0.S.D).length+3) 0 L.gens.length,V.i L.top,V.i L.seq,V.sl ((dkT L0.S.D).length+5) 0 L.found.length,V.i L.seg,V.i L.next],Blk.arr 4 (yac Ck.enc L.found),Blk.var sc.enc]) (fun _=>none) (V.sl ((dkT L0.S.D).length+6) (yaH 4) (yaH 12-yaH 4))=byV (((p6 sc).drop 4).take 8):=by
   simp only [a6]
   rw [hb]
   simp only
   have h1:yaA 8 (yaQ 4 sc.enc)=us (((p6 sc).drop 4).take 8):=by rw [←vD,Jn,Cq]
   rw [show yaH 4=4 from rfl,show yaH 12-4=8 from rfl,cB,h1,Sn]
   rw [if_pos (by decide)]
   unfold byV us
   rw [ybg]
   rfl
  refine ⟨⟨?_,trivial⟩,?_,trivial⟩
  ·simp only [aG]
   rw [hb]
   trivial
  ·rw [hx]
   exact ⟨rfl,rfl⟩
 rw [←hg]
 have h64:In64 [(k:Int),L.hg k]→L.hg k=L.hg k:=fun _=>rfl
 unfold dkX
 simp -implicitDefEqProofs only [rX,↓rY,rdK,aA,↓reduceIte,Nat.reduceEqDiff,Nat.reduceAdd,cB,fL,Kp,dkV,dkC,n61,k6]
 simp only [iN]
 have hno:L.hok k=false→L.hd k=L:=fun h=>by unfold Lg.hd;rw [h];rfl
 have hyes:L.hok k=true→L.hd k={ L with gens:=L.gens.set k (L.hg k),top:=max L.top (L.hg k) }:=fun h=>by unfold Lg.hd;rw [if_pos h]
 cases h1:decide (0<L.hg k) with
 | false =>
  rw [h1,Bool.false_and] at hok
  rw [hno hok] at hN
  rw [wg]
  first|exact hN _ _ (by exact k6) (by exact k5) (by exact k29) (by exact k30) (by exact k0) (by exact k4) _|exact ⟨hN _ _ (by exact k6) (by exact k5) (by exact k29) (by exact k30) (by exact k0) (by exact k4) _,hN _ _ (by exact k6) (by exact k5) (by exact k29) (by exact k30) (by exact k0) (by exact k4) _⟩
 | true =>
 rw [h1,ybf] at hok
 rw [we]
 cases h2:decide (L.hg k≤1152921504606846976) with
 | false =>
  rw [h2,Bool.false_and] at hok
  rw [hno hok] at hN
  rw [wg]
  first|exact hN _ _ (by exact k6) (by exact k5) (by exact k29) (by exact k30) (by exact k0) (by exact k4) _|exact ⟨hN _ _ (by exact k6) (by exact k5) (by exact k29) (by exact k30) (by exact k0) (by exact k4) _,hN _ _ (by exact k6) (by exact k5) (by exact k29) (by exact k30) (by exact k0) (by exact k4) _⟩
 | true =>
 rw [h2,ybf] at hok
 rw [we]
 have h1':=of_decide_eq_true h1
 have h2':=of_decide_eq_true h2
 have h64:In64 [(k:Int),L.hg k]:=by
  intro x hx
  simp only [yaI,yaR,or_false] at hx
  rcases hx with rfl|rfl<;>omega
 have hk':k<L.gens.length:=by omega
 constructor
 all_goals
  refine aJ (alH k (L.hg k) h64) ⟨⟨trivial,trivial,trivial⟩,rfl,rfl,trivial⟩ (by simp [ren,cR]) pA ?_
  rw [Rn]
  unfold dkX
  simp -implicitDefEqProofs only [rX,↓rY,qk,rdK,cells?,splice,↓reduceIte,Nat.reduceEqDiff,dB,Nat.reduceAdd,isD,isC,Nat.reduceLeDiff,yao,yak,fD,cB,fL,dQ,fH,pD,pZ,Kp,dkV,dkC,n61,k5,k6,abV,Nat.reduceEqDiff]
  simp only [iN]
  cases h3:decide (sc=hdS (k:Int) (L.hg k)) with
  | false =>
   rw [h3] at hok
   rw [hno hok] at hN
   rw [wg]
   exact hN _ _ (by exact k6) (by exact k5) (by exact k29) (by exact k30) (by exact k0) (by exact k4) _
  | true =>
   rw [h3] at hok
   rw [hyes hok] at hN
   rw [we]
   refine ⟨⟨by omega,by omega⟩,hk',?_⟩
   simp only [op3,ybb,yaj] at hN
   exact hN _ _ (by exact k6) (by exact k5) (by exact k29) (by exact k30) (by exact k0) (by exact k4) _
end
set_option maxRecDepth 20000
abbrev B15:LCode:=acM (pt 0 (rt 2 c15ol0))
theorem Xk:c15ol0=.seq (pt 0 c15ol0) (.seq (pt 1 c15ol0) (.seq (.block 2 (.seq (pt 0 B15) (.seq (pt 0 (rt 1 B15)) (.seq (pt 0 (rt 2 B15)) (rt 3 B15))))) (rt 3 c15ol0))):=by rfl
theorem Xj:c15ol1=.seq (pt 0 c15ol1) (.seq (pt 1 c15ol1) (.seq (.block 4 (acM (pt 0 (rt 2 c15ol1)))) (rt 3 c15ol1))):=by rfl
section
variable {N R:St→Prop} {Xx:Nat→St→Prop} {bb:Nat}
theorem q7 {S:MS} {L:Lg} {X:List Blk}:aC (dkX S (op3 (dkT S.D).length L++X)) ((dkT S.D).length+4):=Xc (j:=1) ⟨_,rfl,by simp⟩
theorem ajM {L0 L:Lg} {k f nn:Nat} {e:Env} {X:List Blk} (hs:Sc L0 L f) (hc:L0.Cln) (hk:k<L0.gens.length) (hf:L0.found.length+f+16≤20000) (g73:get e 73=.i 0) (g6:get e 6=.i k) (g5:get e 5=.ptr ((dkT L0.S.D).length+4) 0 0) (g29:get e 29=.i nn) (g30:get e 30=.i k) (g0:get e 0=.ptr 0 0 0) (g4:get e 4=.i nn)
  (hN:∀ e b',get e 5=.ptr ((dkT L0.S.D).length+4) 0 0→get e 29=.i nn→get e 30=.i k→get e 0=.ptr 0 0 0→get e 4=.i nn→N ⟨e,dkX L0.S (op3 (dkT L0.S.D).length (L.slos k 16)),b'⟩) :
  aw (cxN Tryz.prog [0,1,2]) (.block 3 (.loop c15ol1)) N Xx R ⟨e,dkX L0.S (op3 (dkT L0.S.D).length L++X),bb⟩:=by
 simp -implicitDefEqProofs only [rX,cxN]
 refine cX (fun j:Nat=>aoR L0.S k (L.slos k j) nn j) (fun j=>j≤16) (fun j=>16-j) 0 (yaw _) ?_ ?_
 ·refine adU ⟨g73,g6,g5,g29,g30,g0,g4,trivial⟩ ?_ ⟨trivial,trivial,?_,trivial,trivial,trivial,trivial,trivial⟩ ?_
  ·show leH (L0.S.bs 0++(op3 _ L++X)) (L0.S.bs 0++op3 _ L)
   rw [←yas]
   exact dR
  ·have:=q7 (S:=L0.S) (L:=L) (X:=[])
   rw [yaf] at this
   exact this
  ·have:=En (S:=L0.S) (L:=L) (X:=[]) trivial
   rw [yaf] at this
   exact this
 intro j hj
 rw [Xj,zb]
 conv=>arg 2;whnf
 simp -implicitDefEqProofs only [rX,↓rY,aA,↓reduceIte]
 conv=>arg 2;whnf
 simp -implicitDefEqProofs only [rX,↓reduceIte]
 cases hd:decide ((j:Int)<16) with
 | true =>
  have hj2:j<16:=by have:=of_decide_eq_true hd;omega
  rw [we]
  have hsj:=hs.slos (k:=k) (j:=j)
  refine ajN (nn:=nn) rfl rfl rfl rfl rfl rfl rfl hsj hc hk hj2 (by omega) fun e b' g73 g6 g5 g29 g30 g0 g4 X=>?_
  conv=>arg 2;whnf
  simp -implicitDefEqProofs only [rX,↓rY,aA,↓reduceIte,Nat.reduceEqDiff,reduceCtorEq,leE,aD,aC,wfE,wfV,g73]
  refine ⟨⟨by simp only [lo];omega,by simp only [hi];omega⟩,j+1,⟨by omega,by omega⟩,?_⟩
  have hkp:=pA (S:=L0.S) (X:=op3 (dkT L0.S.D).length (L.slos k (j+1)))
  have hlv:=q7 (S:=L0.S) (L:=L.slos k (j+1)) (X:=[])
  have hw:=En (S:=L0.S) (L:=L.slos k (j+1)) (X:=[]) trivial
  rw [yaf] at hlv hw
  refine ⟨⟨by rw [Int.natCast_add];rfl,g6,g5,g29,g30,g0,g4⟩,?_,⟨hkp.1,hkp.2.1,hkp.2.2.1⟩,⟨hlv,hkp.1⟩,Zu hw⟩
  show leH (L0.S.bs 0++(op3 _ _++X)) (L0.S.bs 0++op3 _ _)
  rw [←yas]
  exact dR
 | false =>
  have hj2:j=16:=by have:=of_decide_eq_false hd;omega
  subst hj2
  rw [wg]
  try simp -implicitDefEqProofs only [rX,↓rY,qg,qi,qk,ql,qm,qp,qq,qt,qw,qx,qy,qz,qA,qC,qD,qE,qF,qG,qH,qI,qO,rdK,zF,zI,zR,zW,zX,zY,zZ,ka,kg,kh,kj,kk,kp,kq,kv,kw,kF,kM,kN,kY,aA,cells?,splice,↓reduceIte,Nat.reduceEqDiff,dB,Nat.reduceAdd,reduceCtorEq,aF,bN,bJ,bR,aY,a7,leE,leH,leB,leV,cI,aD,aC,wfE,wfB,wfV,wfL,aM,aK,kill,bD,St.kill,isD,isC,Nat.reduceLT,Nat.reduceLeDiff,wZ,ja,jd,je,ji,jj,jn,jo,jt,ju,jz,jA,jE,jF,jJ,jK,jU,jV,jW,jX,jY,jZ,qaa,qab,qac,qad,qae,qaf,qag,qah,qai,qaj,qak,qal,qam,qan,qao,qap,qaq,qar,↓qau,↓qaN,↓qaO,↓qaS,↓qaT,↓qaX,↓qbe,↓qbf,↓qbl,↓qbm,↓qbo,↓qbp,↓qbq,↓qbt,↓qbu,↓qbx,↓qbz,↓qbB,↓qbC,↓qbD,↓qbH,↓qbI,↓qbK,↓qbL,↓qbM,↓qbN,↓qbQ,↓qbR,↓qbS,↓qbW,↓qbY,↓qcb,↓qcc,↓qcd,↓qce,↓qcf,↓qcg,↓qch,↓qci,↓qcj,↓qck,↓qcl,↓qcm,↓qcn,yao,yak,cxN,Fi,pI,uG,Nat.mul_one,bP,dZ,uP,pE,lN,Gb,Ga,Fz,Fy,lQ,lO,pF,Gc,lR,lJ,lK,fD,Ft,dC,less]
  exact hN _ _ rfl rfl rfl rfl rfl
abbrev Uz (S:MS) (nn:Nat) (L:Lg) (k:Nat):St:=⟨[(30,.i k),(29,.i nn),(5,.ptr ((dkT S.D).length+4) 0 0),(0,.ptr 0 0 0),(4,.i nn)],dkX S (op3 (dkT S.D).length L),0⟩
theorem ajL {L0:Lg} (hc:L0.Cln) (h0:L0.found=[]) (k:Nat) (hk:k≤L0.gens.length)
  (hN:k=L0.gens.length→∀ e b',get e 5=.ptr ((dkT L0.S.D).length+4) 0 0→get e 0=.ptr 0 0 0→Xx 1 ⟨e,dkX L0.S (op3 (dkT L0.S.D).length (L0.scan L0.gens.length)),b'⟩) :
  aw (cxN Tryz.prog [0,1,2]) c15ol0 (fun s'=>∃ g':Nat,(g'≤L0.gens.length∧L0.gens.length-g'<L0.gens.length-k)∧leS [0,1,2] s' (Uz L0.S L0.gens.length (L0.scan g') g')) Xx R (Uz L0.S L0.gens.length (L0.scan k) k):=by
 have hs:=Sc.scan (L0:=L0) (k:=k)
 have hcc:=hc.c
 have hcn:=hc.n
 rw [Xk,zb]
 conv=>arg 2;whnf
 simp -implicitDefEqProofs only [rX,↓rY,↓reduceIte,Nat.reduceEqDiff,cxN]
 conv=>arg 2;whnf
 simp -implicitDefEqProofs only [rX,↓reduceIte]
 cases hd:decide ((k:Int)<(L0.gens.length:Int)) with
 | false =>
  have hk2:k=L0.gens.length:=by have:=of_decide_eq_false hd;omega
  rw [wg]
  have:=hN hk2
  rw [←hk2] at this
  first|exact this _ _ rfl rfl
 | true =>
  have hk2:k<L0.gens.length:=by have:=of_decide_eq_true hd;omega
  have hf0:L0.found.length=0:=by rw [h0];rfl
  rw [we]
  conv=>arg 2;whnf
  simp -implicitDefEqProofs only [rX,↓reduceIte,Nat.reduceEqDiff]
  refine ajO (nn:=L0.gens.length) rfl rfl rfl rfl rfl rfl hs hc hk2 fun e b' g6 g5 g29 g30 g0 g4 X=>?_
  rw [zb]
  conv=>arg 2;whnf
  simp -implicitDefEqProofs only [rX,aA]
  have hs2:=hs.hd (k:=k)
  refine ajM (nn:=L0.gens.length) (X:=X) hs2 hc hk2 (by omega) rfl g6 g5 g29 g30 g0 g4 fun e b' g5 g29 g30 g0 g4=>?_
  conv=>arg 2;whnf
  simp -implicitDefEqProofs only [rX,↓rY,aA,↓reduceIte,Nat.reduceEqDiff,reduceCtorEq,leE,aD,aC,wfE,wfV,g30]
  have hkp:=pA (S:=L0.S) (X:=op3 (dkT L0.S.D).length (L0.scan (k+1)))
  have hlv:=q7 (S:=L0.S) (L:=L0.scan (k+1)) (X:=[])
  have hw:=En (S:=L0.S) (L:=L0.scan (k+1)) (X:=[]) trivial
  rw [yaf] at hlv hw
  refine ⟨⟨by simp only [lo];omega,by simp only [hi];omega⟩,k+1,⟨by omega,by omega⟩,⟨by rw [Int.natCast_add];rfl,g29,g5,g0,g4⟩,aU _,⟨hkp.1,hkp.2.1,hkp.2.2.1⟩,⟨hlv,hkp.1⟩,Zu hw⟩
end
set_option maxRecDepth 20000
def Lg.blank (L:Lg):Lg:=⟨yaa (L.cells.length/129) 0,0,0,[],-1,0,L.cells,L.steps,L.c⟩
def opB (L:Lg) (p:Nat):List Blk:=L.S.bs p++[.arr 1 (L.gens.map encI),.var [.ptr p 0 0,.sl (p+L.cells.length+3) 0 L.gens.length,.i L.top,.i L.seq,.sl (p+L.cells.length+5) 0 L.found.length,.i L.seg,.i L.next],.arr 4 (L.found.map Ck.enc)]
def Lg.opn (L:Lg) (fd:List Ck):Lg:={ L.blank.scan (L.cells.length/129) with found:=fd }
def R15 (L:Lg):V→List Blk→Prop:=fun r h =>
 (L.cells.length<129∧r=.tup [.v (.pointer none),.i 1]∧h=L.S.bs 0) ∨
 (129≤L.cells.length∧∃ fd,Px (L.blank.scan (L.cells.length/129)).found fd∧r=.tup [.ptr (L.cells.length+4) 0 0,.i 0]∧h=opB (L.opn fd) 0)
theorem c15_parts:c15o=.seq (pt 0 c15o) (.seq (pt 1 c15o) (.seq (pt 2 c15o) (.seq (pt 3 c15o) (.seq (.seq (pt 0 (pt 4 c15o)) (.block 1 (.loop c15ol0))) (.seq (pt 5 c15o) (rt 6 c15o)))))):=by rfl
section
variable {N R:St→Prop} {Xx:Nat→St→Prop} {bb n:Nat} {e:Env} {L:Lg}
abbrev anK (n:Nat) (R:V→List Blk→Prop):St→Prop:=dD [0,1,2] (3+n) [.tmp 2,.tmp 3] R
theorem ajT (g0:get e 0=.ptr 0 0 0) (hl:L.cells.length≤70000) (hN:∀ e b',get e 0=.ptr 0 0 0→get e 4=.i ((L.cells.length/129:Nat):Int)→N ⟨e,dkX L.S [],b'⟩) :
  aw (cxN Tryz.prog [0,1,2]) (pt 1 c15o) N Xx R ⟨e,dkX L.S [],bb⟩:=by
 have d0:=Kg L.S
 have k0:get (aM (yab 3 L.S.n) e) 0=.ptr 0 0 0:=by rw [a8,g0];simp only [kill,d0,if_false]
 conv=>arg 2;whnf
 simp -implicitDefEqProofs only [rX,↓reduceIte,cxN,g0]
 refine Df [] L.S [] [] _ (vT (ok9 L.S)) ⟨trivial,trivial⟩ rfl rfl rfl ?_
 rintro v S'-⟨rfl,rfl⟩
 refine ⟨fun g=>rfl,?_⟩
 simp -implicitDefEqProofs only [rX,↓rY,aA,↓reduceIte,aM,kill,St.kill]
 have e1:((L.S.n:Nat):Int).tdiv 129=((L.cells.length/129:Nat):Int):=by
  rw [Int.tdiv_eq_ediv_of_nonneg (by omega)]
  have:L.S.n=L.cells.length:=rfl
  omega
 rw [e1]
 exact ⟨by decide,⟨by simp only [lo];omega,by simp only [hi];omega⟩,hN _ _ (by exact k0) rfl⟩
theorem ajS {Rr:V→List Blk→Prop} (g0:get e 0=.ptr 0 0 0) (g4:get e 4=.i ((L.cells.length/129:Nat):Int)) (hR:L.cells.length<129→Rr (.tup [.v (.pointer none),.i 1]) (L.S.bs 0)) (hn:L.cells.length=n)
  (hN:129≤L.cells.length→∀ e b',get e 0=.ptr 0 0 0→get e 4=.i ((L.cells.length/129:Nat):Int)→N ⟨e,dkX L.S [],b'⟩) :
  aw (cxN Tryz.prog [0,1,2]) (pt 2 c15o) N Xx (anK n Rr) ⟨e,dkX L.S [],bb⟩:=by
 have d0:=Kg L.S
 have k0:get (aM (yab 3 L.S.n) e) 0=.ptr 0 0 0:=by rw [a8,g0];simp only [kill,d0,if_false]
 have k4:get (aM (yab 3 L.S.n) e) 4=.i ((L.cells.length/129:Nat):Int):=by rw [a8,g4];rfl
 conv=>arg 2;whnf
 simp -implicitDefEqProofs only [rX,↓rY,aA,↓reduceIte,reduceCtorEq,cxN,g0,g4]
 cases hd:(((L.cells.length/129:Nat):Int)==0) with
 | true =>
  have h0:((L.cells.length/129:Nat):Int)=0:=by simpa using hd
  rw [we]
  unfold anK
  rw [cC]
  simp only [aY,a7,yau,yav,yal,yay]
  refine ⟨L.S.bs 0,⟨?_,⟨trivial,trivial,trivial,trivial⟩,by rw [L.S.len];show 3+n≤3+L.cells.length;omega,⟨trivial,trivial,trivial⟩,?_⟩,hR (by omega)⟩
  ·rw [Aw,yaf];exact aU _
  ·have:=Zu (S:=L.S) (X:=[]) trivial
   rw [Aw,yaf] at this
   exact this
 | false =>
  have h0:¬((L.cells.length/129:Nat):Int)=0:=by simpa using hd
  rw [wg]
  refine Df [] L.S [] [] _ (vT (aqQ L.S)) ⟨trivial,trivial⟩ rfl rfl rfl ?_
  rintro v S'-⟨rfl,rfl⟩
  refine ⟨fun g=>rfl,?_⟩
  simp -implicitDefEqProofs only [rX,aA,↓reduceIte,aM,kill,St.kill]
  rw [show L.S.D.dead=false from rfl,wg]
  exact hN (by omega) _ _ (by exact k0) (by exact k4)
theorem ajR (g0:get e 0=.ptr 0 0 0) (g4:get e 4=.i ((L.cells.length/129:Nat):Int)) (hl:L.cells.length≤70000)
  (hN:∀ e b',get e 0=.ptr 0 0 0→get e 4=.i ((L.cells.length/129:Nat):Int)→get e 5=.ptr ((dkT L.S.D).length+4) 0 0→N ⟨e,dkX L.S [.arr 1 (L.blank.gens.map encI),.var [.ptr 0 0 0,.sl ((dkT L.S.D).length+3) 0 L.blank.gens.length,.i 0,.i 0,.nil,.i (-1),.i 0]],b'⟩) :
  aw (cxN Tryz.prog [0,1,2]) (pt 3 c15o) N Xx R ⟨e,dkX L.S [],bb⟩:=by
 conv=>arg 2;whnf
 unfold dkX
 simp -implicitDefEqProofs only [rX,↓rY,aA,cells?,splice,↓reduceIte,Nat.reduceEqDiff,Nat.reduceAdd,aF,bJ,Nat.reduceLeDiff,yak,cxN,dQ,fH,pD,pZ,dkV,dkC,n61,g0,g4]
 have hg:yac encI L.blank.gens=yaa (L.cells.length/129) [V.v (Value.int IntKind.i64 0)]:=by
  unfold Lg.blank
  rw [yaO];rfl
 have hgl:L.blank.gens.length=L.cells.length/129:=by unfold Lg.blank;exact yah ..
 rw [hg,hgl] at hN
 refine ⟨⟨⟨by omega,by omega⟩,by omega,by omega⟩,hN _ _ (by exact g0) (by exact g4) rfl⟩
theorem Sb {S:MS} {X Y:List Blk}:dkX S X++Y=dkX S (X++Y):=by
 unfold dkX
 simp only [yay,yas]
theorem acC {S:MS} {X:List Blk} {j:Nat}:(dkX S X)[(dkT S.D).length+(j+3)]?=X[j]?:=by
 show (_::_::_::(dkT S.D++X))[(dkT S.D).length+j+1+1+1]?=_
 rw [yar,yar,yar,yan (by omega),yaF]
theorem Sa {S:MS} {X:List Blk} {j:Nat} {B:Blk}:(dkX S X).set ((dkT S.D).length+(j+3)) B=dkX S (X.set j B):=by
 show (_::_::_::(dkT S.D++X)).set ((dkT S.D).length+j+1+1+1) B=_
 rw [ybm,ybm,ybm,yaD _ _ (by omega),yaF]
 rfl
theorem aqX {a b c d e f:V} {k:Nat}:Kd [a,b,c,d,.nil,e,f] [a,b,c,d,.sl k 0 0,e,f]:=⟨rfl,fun i x y h1 h2=>by
 rcases i with _|_|_|_|_|_|_|i
 all_goals simp at h1 h2
 all_goals first|exact .inl (h2.symm.trans h1)|exact .inr ⟨h1.symm,k,h2.symm⟩⟩
theorem ajQ (g0:get e 0=.ptr 0 0 0) (g4:get e 4=.i ((L.cells.length/129:Nat):Int)) (g5:get e 5=.ptr ((dkT L.S.D).length+4) 0 0) (hl:L.cells.length≤70000) (hb:∀ c∈L.cells,c.bad=false)
  (hN:∀ e b',get e 5=.ptr ((dkT L.S.D).length+4) 0 0→get e 0=.ptr 0 0 0→N ⟨e,dkX L.S (op3 (dkT L.S.D).length (L.blank.scan (L.cells.length/129))),b'⟩) :
  aw (cxN Tryz.prog [0,1,2]) (.seq (pt 0 (pt 4 c15o)) (.block 1 (.loop c15ol0))) N Xx R ⟨e,dkX L.S [.arr 1 (L.blank.gens.map encI),.var [.ptr 0 0 0,.sl ((dkT L.S.D).length+3) 0 L.blank.gens.length,.i 0,.i 0,.nil,.i (-1),.i 0]],bb⟩:=by
 have hgl:L.blank.gens.length=L.cells.length/129:=by unfold Lg.blank;exact yah ..
 have hc:L.blank.Cln:=⟨by rw [hgl];show _≤L.cells.length;omega,hl,hb⟩
 rw [zb]
 conv=>arg 2;whnf
 simp -implicitDefEqProofs only [rX,aA,cxN,g4]
 refine fS (.virt 1 4 (by decide) (.nilB ((dkT L.S.D).length+4) [.ptr 0 0 0,.sl ((dkT L.S.D).length+3) 0 L.blank.gens.length,.i 0,.i 0,.nil,.i (-1),.i 0] [.ptr 0 0 0,.sl ((dkT L.S.D).length+3) 0 L.blank.gens.length,.i 0,.i 0,.sl ((dkT L.S.D).length+5) 0 0,.i (-1),.i 0] ?_ aqX (.refl _))) (fun k:Nat=>Uz L.S L.blank.gens.length (L.blank.scan k) k) (fun k=>k≤L.blank.gens.length) (fun k=>L.blank.gens.length-k) 0 (yaw _) ?_ ?_
 ·show (dkX L.S _++_)[(dkT L.S.D).length+(1+3)]?=_
  rw [Sb,acC]
  rfl
 ·have hw:=En (S:=L.S) (L:=L.blank) (X:=[]) trivial
  have hlv:=q7 (S:=L.S) (L:=L.blank) (X:=[])
  rw [yaf] at hlv hw
  refine adU ⟨rfl,?_,g5,g0,?_,trivial⟩ ?_ ⟨trivial,trivial,hlv,trivial,trivial,trivial⟩ hw
  ·rw [hgl];rfl
  ·rw [hgl];exact g4
  ·show leH ((dkX L.S _++_).set ((dkT L.S.D).length+(1+3)) _) _
   rw [Sb,Sa]
   exact aU _
 ·intro k hk
  refine ajL (L0:=L.blank) hc rfl k hk fun hk2 e b' g5 g0=>?_
  rw [if_pos rfl]
  have:=hN e b' g5 g0
  rw [←hgl] at this
  exact this
theorem ajP {L1:Lg} (hl:L1.found.length≤100000) (g5:get e 5=.ptr ((dkT L.S.D).length+4) 0 0)
  (hN:∀ fd e b',Px L1.found fd→get e 5=.ptr ((dkT L.S.D).length+4) 0 0→N ⟨e,dkX L.S (op3 (dkT L.S.D).length { L1 with found:=fd }),b'⟩) :
  aw (cxN Tryz.prog [0,1,2]) (pt 5 c15o) N Xx R ⟨e,dkX L.S (op3 (dkT L.S.D).length L1),bb⟩:=by
 conv=>arg 2;whnf
 unfold dkX op3
 simp -implicitDefEqProofs only [rX,↓rY,↓reduceIte,Nat.reduceAdd,cxN,pD,dkV,dkC,g5]
 simp only [iN]
 have hb:blk (dkX L.S [Blk.arr 1 (L1.gens.map encI),.var [.ptr 0 0 0,.sl ((dkT L.S.D).length+3) 0 L1.gens.length,.i L1.top,.i L1.seq,.sl ((dkT L.S.D).length+5) 0 L1.found.length,.i L1.seg,.i L1.next],.arr 4 (L1.found.map Ck.enc)]) ((dkT L.S.D).length+5)=.arr 4 (L1.found.map Ck.enc):=anG (j:=2) rfl
 have hlen:(dkT L.S.D).length+5<(dkX L.S [Blk.arr 1 (L1.gens.map encI),.var [.ptr 0 0 0,.sl ((dkT L.S.D).length+3) 0 L1.gens.length,.i L1.top,.i L1.seq,.sl ((dkT L.S.D).length+5) 0 L1.found.length,.i L1.seg,.i L1.next],.arr 4 (L1.found.map Ck.enc)]).length:=by
  unfold dkX
  simp only [yaW,yaq,yaE]
  omega
 refine Zb (Px L1.found) [(dkT L.S.D).length+5] [] [] [.sl 0 0 L1.found.length,.clo 32 []] (fun _=>.tup []) [.arr 4 (L1.found.map Ck.enc)] (fun d=>[.arr 4 (d.map Ck.enc)]) (aqP L1.found (by omega)) ⟨by simp,fun k hk=>⟨by rw [yaK] at hk;subst hk;exact hlen,by simp⟩⟩ ⟨rfl,by simp⟩ ?_ ?_ fun fd hfd=>?_
 ·simp only [yap,yaz,hb]
  rfl
 ·refine ⟨⟨?_,?_,trivial⟩,?_,?_,trivial⟩
  ·simp [aG,pos]
  ·simp [aG,aE]
  ·simp [a6,pos,wk]
  ·simp [a6,aL,wk,wkL]
 ·have hfl:fd.length=L1.found.length:=hfd.p.length_eq
  have hH:aN [(dkT L.S.D).length+5] (yac (bA (back [(dkT L.S.D).length+5] (dkX L.S [Blk.arr 1 (L1.gens.map encI),.var [.ptr 0 0 0,.sl ((dkT L.S.D).length+3) 0 L1.gens.length,.i L1.top,.i L1.seq,.sl ((dkT L.S.D).length+5) 0 L1.found.length,.i L1.seg,.i L1.next],.arr 4 (L1.found.map Ck.enc)]).length)) [Blk.arr 4 (yac Ck.enc fd)]) (yac (aK []) (dkX L.S [Blk.arr 1 (L1.gens.map encI),.var [.ptr 0 0 0,.sl ((dkT L.S.D).length+3) 0 L1.gens.length,.i L1.top,.i L1.seq,.sl ((dkT L.S.D).length+5) 0 L1.found.length,.i L1.seg,.i L1.next],.arr 4 (L1.found.map Ck.enc)]))=dkX L.S (op3 (dkT L.S.D).length { L1 with found:=fd }):=by
   rw [tR]
   simp only [yap,yaz,bA,aN,yaf]
   rw [show (dkT L.S.D).length+5=(dkT L.S.D).length+(2+3) from rfl,Sa]
   unfold op3
   simp only [hfl]
   rfl
  rw [hH]
  refine ⟨pA,?_⟩
  rw [i4]
  simp -implicitDefEqProofs only [rX]
  exact hN fd _ _ hfd (by exact g5)
end
theorem afD {L:Lg} {fd:List Ck}:(L.opn fd).S=L.S:=by
 have hs:=Sc.scan (L0:=L.blank) (k:=L.cells.length/129)
 have h1:(L.opn fd).cells=L.cells:=hs.cells
 have h2:(L.opn fd).steps=L.steps:=hs.steps
 have h3:(L.opn fd).c=L.c:=hs.c
 have hD:(L.opn fd).D=L.D:=by unfold Lg.D;rw [h1,h2]
 show (⟨(L.opn fd).D,[],(L.opn fd).c,_⟩:MS)=⟨L.D,[],L.c,_⟩
 congr 1
theorem ok6 (L:Lg) (hl:L.cells.length≤70000) (hb:∀ c∈L.cells,c.bad=false):OkN Tryz.prog 6 [.ptr 0 0 0] (L.S.bs 0) (yab 3 L.S.n) (R15 L):=by
 have e0:dkX L.S []=L.S.bs 0:=by rw [Aw,yaf]
 have hT:=L.S.T_len
 refine cO pol [0,1,2] lw15o (by simp) ⟨trivial,trivial,trivial,trivial⟩ (fun k hk hm=>?_) ?_
 ·rw [L.S.len] at hk
  have:¬(3≤k∧k<3+L.S.n):=fun h2=>hm (yae.2 h2)
  have h3:k=0∨k=1∨k=2:=by omega
  rcases h3 with rfl|rfl|rfl<;>simp
 rw [L.S.len,←e0,c15_parts,zb]
 conv=>arg 2;whnf
 simp -implicitDefEqProofs only [rX,aA,cxN,aO]
 refine ajT rfl hl fun e b' g0 g4=>?_
 rw [zb]
 refine ajS (n:=L.S.n) g0 g4 (fun h=>.inl ⟨h,rfl,rfl⟩) rfl fun h129 e b' g0 g4=>?_
 rw [zb]
 refine ajR g0 g4 hl fun e b' g0 g4 g5=>?_
 rw [zb]
 refine ajQ g0 g4 g5 hl hb fun e b' g5 g0=>?_
 have hs:=Sc.scan (L0:=L.blank) (k:=L.cells.length/129)
 have hfl:=hs.fl
 have hf0:L.blank.found.length=0:=rfl
 rw [zb]
 refine ajP (L1:=L.blank.scan (L.cells.length/129)) (by omega) g5 fun fd e b' hfd g5=>?_
 conv=>arg 2;whnf
 simp -implicitDefEqProofs only [rX,aA,↓reduceIte,g5]
 have hH:dkX L.S (op3 (dkT L.S.D).length (L.opn fd))=opB (L.opn fd) 0:=by
  rw [Aw]
  unfold opB
  rw [afD,hT]
  have h1:(L.opn fd).cells=L.cells:=hs.cells
  rw [h1]
  unfold op3
  simp only [yaL]
  rfl
 have hw:=En (S:=L.S) (L:=L.opn fd) (X:=[]) trivial
 rw [yaf] at hw
 have hlv:=q7 (S:=L.S) (L:=L.opn fd) (X:=[])
 rw [yaf] at hlv
 have hw2:=Zu hw
 rw [cC]
 simp only [aY,a7,yau,yav,yal,yay]
 refine ⟨dkX L.S (op3 (dkT L.S.D).length (L.opn fd)),⟨aU _,pA,?_,⟨hlv,trivial,trivial⟩,hw2⟩,.inr ⟨h129,fd,hfd,?_,hH⟩⟩
 ·rw [Aw,yaq,L.S.len];omega
 ·rw [hT];rfl
end Go.Fx.K
