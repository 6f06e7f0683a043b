import Derived.Test.YtpnikndmidcedaaGreatDoorTE5
import Derived.Test.YtpnikndmidcedaaGreatDoorKLow1
set_option linter.unusedVariables false
set_option linter.unusedSimpArgs false
set_option linter.unusedSectionVars false
open List renaming replicate → yaa, range' → yab, map → yac, getD_eq_getElem?_getD → yad, length_map → yae, mem_range'_1 → yag, getElem?_eq_getElem → yah, getElem_map → yai, append_nil → yak, length_append → yal, nil_append → yam, take → yao, take_of_length_le → yap, length_replicate → yaq, length_set → yar, map_append → yas, getElem?_append_right → yau, append_assoc → yav, map_cons → yaw, range → yax, reverse_cons → yay, reverse_nil → yaz, mem_map_of_mem → yaA, take_length → yaC, getElem_mem → yaD, mem_filter → yaE, set_append_right → yaF, filter_append → yaG, length_take → yaH, cons_append → yaI, take_add_one → yaJ, length_filter_le → yaK, map_nil → yaL, drop_zero → yaN, length_nil → yaO, mem_cons → yaP, mem_map → yaQ, getElem?_eq_none → yaR, mem_singleton → yaS, drop → yaT, map_congr_left → yaV, nodup_nil → yaW, map_replicate → yaX, getElem?_cons_succ → yaZ, filter_nil → yba, replicate_succ → ybb, not_mem_nil → ybd, getD_cons_succ → ybe, getD_cons_zero → ybf, nodup_cons → ybg, eraseIdx_cons_succ → ybh, map_set → ybi, filter_sublist → ybj, ext_getElem → ybk, mem_append → ybl, filter_cons → ybn, range_succ → ybo, length_cons → ybp, any_eq_true → ybr, getElem?_map → ybs, getElem?_range → ybt, filter_eq_nil_iff → ybu, drop_eq_getElem_cons → ybw, filter_eq_self → ybx, mem_iff_getElem → yby, getElem?_replicate → ybz, getElem?_range' → ybA, getElem?_append_left → ybB, flatMap_append → ybC, mem_or_eq_of_mem_set → ybD, getElem_of_mem → ybE, getElem?_set_ne → ybF, length_take_of_le → ybG
open Int renaming toNat_natCast → yaf, le_refl → ybv
open Nat renaming le_refl → yaj, zero_le → yan, zero_add → yaB, le_trans → yaM, add_left_cancel_iff → yaU, sub_self → yaY, add_sub_cancel_left → ybc, not_lt_zero → ybq
open Bool renaming true_and → yat
open Option renaming toList → ybm
namespace Go.Fx.K
open Go Go.Fx Go.Proofs
set_option maxRecDepth 20000
def rD (l:List Sec):Sec:=l.getLast?.getD zS
structure Syn (D D':Dk):Prop where
 n:D'.cells.length=D.cells.length
 st:D'.steps=D.steps
 af:D'.after=D.after
 dd:D'.dead=D.dead
 at_:∀ i,i<D.cells.length→(D'.op i=D.op i∧D'.cells.getD i zC=D.cells.getD i zC)∨(D.op i≠[]∧D'.op i=[]∧D'.cells.getD i zC=⟨rD (D.op i),false⟩)
theorem Qo (S:MS) {h Y:List Blk} {e p:Env} {b b':Nat} (he:leE e p) (hh:leH h (S.bs 0++Y)) (hwe:wfE (S.bs 0++Y) p) (hwb:wfB (S.bs 0++Y) Y):leS [0,1,2] ⟨e,h,b⟩ ⟨p,S.bs 0++Y,b'⟩:=by
 refine ⟨he,hh,⟨trivial,trivial,trivial,trivial⟩,hwe,?_⟩
 have:=S.wf (p:=0) [] Y rfl (C:=Y) (by simpa using hwb)
 simpa using this
theorem Fh {a b c B:Blk} {T X:List Blk} {i f:Nat} (hB:B≠.dead):wfV (a::b::c::(T++B::X)) (.ptr (T.length+3) i f):=by
 show aC _ _
 unfold aC
 rw [d1]
 cases B<;>first|trivial|exact absurd rfl hB
theorem Kw {α β:Type}:∀ {es:List (α × β × Nat)} {e:α × β × Nat},(es.map (·.2.2)).Nodup→e∈es→es.find? (fun q=>q.2.2==e.2.2)=some e
 | x::r,e,hn,he=>by
  have hn2:=ybg.1 hn
  rw [List.find?_cons]
  rcases yaP.1 he with rfl|h
  ·simp
  ·have:(x.2.2==e.2.2)=false:=by
    cases hb:x.2.2==e.2.2 with
    | false=>rfl
    | true =>
     have h3:x.2.2=e.2.2:=by simpa using hb
     exact absurd (by show x.2.2∈_;rw [h3];exact yaA h) hn2.1
   rw [this]
   exact Kw hn2.2 h
theorem Vt {p:Nat} {D:Dk} {L:List (Nat × Nat)}:(bR p D L).map (·.2.2)=L.map (·.2):=by simp [bR]
theorem Gg {p:Nat} {D:Dk} {L:List (Nat × Nat)} {e:Value × V × Nat} (h:e∈bR p D L):∃ x∈L,e=(.int .i64 x.1,.sl (p+3+x.1) 0 (D.op x.1).length,x.2):=by
 unfold bR at h
 obtain ⟨x,hx,rfl⟩:=yaQ.1 h
 exact ⟨x,hx,rfl⟩
theorem rL {k:Nat}:∀ {L:List (Nat × Nat)} {m:Nat},(L.map (·.1)).Nodup→(L[m]?).map (·.1)=some k→L.eraseIdx m=L.filter fun e=>e.1 != k
 | [],m,_,h=>by simp at h
 | x::r,0,hn,h=>by
  have hn2:=ybg.1 hn
  have hx:x.1=k:=by simpa using h
  rw [List.eraseIdx_cons_zero,List.filter_cons_of_neg (by simp [hx])]
  refine (ybx.2 fun e he=>?_).symm
  have:e.1≠k:=fun h2=>hn2.1 (by show x.1∈_;rw [hx,←h2];exact yaA he)
  simpa using this
 | x::r,m+1,hn,h=>by
  have hn2:=ybg.1 hn
  have ih:=rL (k:=k) (L:=r) (m:=m) hn2.2 (by simpa using h)
  have hm:k∈r.map (·.1):=by
   have h2:(r[m]?).map (·.1)=some k:=by simpa using h
   rcases Nat.lt_or_ge m r.length with h3|h3
   ·rw [yah h3] at h2
    rw [←Option.some.inj h2]
    exact yaA (yaD h3)
   ·rw [yaR h3] at h2;cases h2
  have hx:x.1≠k:=fun h2=>hn2.1 (by show x.1∈_;rw [h2];exact hm)
  rw [ybh,List.filter_cons_of_pos (by simpa using hx),ih]
theorem Bi {α β:Type} {f:α→β}:∀ {l:List α} {m:Nat},(l.map f).eraseIdx m=(l.eraseIdx m).map f
 | [],_=>rfl
 | x::r,0=>rfl
 | x::r,m+1=>by rw [yaw,ybh,ybh,yaw,Bi]
def Dk.durD (D:Dk) (k:Nat):Dk:={ D with cells:=D.cells.set k ⟨rD (D.op k),false⟩,opn:=D.opn.set k [] }
theorem Im {D:Dk} {k j:Nat} (hk:k<D.opn.length):(D.durD k).op j=if j=k then [] else D.op j:=by
 show ((D.opn.set k []).getD j [])=_
 rw [yad,List.getElem?_set]
 by_cases h:j=k
 ·subst h;rw [if_pos rfl,if_pos rfl,if_pos hk];rfl
 ·rw [if_neg (fun e=>h e.symm),if_neg h,←yad];rfl
theorem Xr {D:Dk} {k:Nat}:dkT (D.durD k)=(dkT D).set k .dead:=by
 show (D.opn.set k []).map tW=_
 rw [ybi];rfl
theorem Le {D:Dk} {k:Nat}:(D.durD k).cells.length=D.cells.length:=by simp [Dk.durD]
theorem MOk.dur {D:Dk} {L:List (Nat × Nat)} {c k:Nat} (h:MOk D L c) (hk:k<D.n):MOk (D.durD k) (L.filter fun e=>e.1 != k) c:=by
 have hk2:k<D.opn.length:=by rw [h.len];exact hk
 refine ⟨by show (D.opn.set k []).length=(D.durD k).cells.length;rw [yar,Le];exact h.len,(h.nod.sublist (List.Sublist.map _ ybj)),fun i=>?_,(h.st.sublist (List.Sublist.map _ ybj)),fun e he=>h.clk e (yaE.1 he).1⟩
 show _↔i<(D.durD k).cells.length∧_
 rw [Le,Im hk2]
 have hki:=h.key i
 constructor
 ·intro hm
  obtain ⟨e,he,rfl⟩:=yaQ.1 hm
  obtain ⟨h1,h2⟩:=yaE.1 he
  have h3:e.1≠k:=by simpa using h2
  have:=hki.1 (yaA h1)
  rw [if_neg h3];exact this
 ·rintro ⟨h1,h2⟩
  by_cases e:i=k
  ·rw [if_pos e] at h2;exact absurd rfl h2
  ·rw [if_neg e] at h2
   obtain ⟨x,hx,hxi⟩:=yaQ.1 (hki.2 ⟨h1,h2⟩)
   subst hxi
   exact yaA (yaE.2 ⟨hx,by simpa using e⟩)
theorem Sh {D:Dk} {L:List (Nat × Nat)} {k:Nat} (hk:k<D.opn.length):bR 0 (D.durD k) (L.filter fun e=>e.1 != k)=bR 0 D (L.filter fun e=>e.1 != k):=by
 unfold bR
 refine yaV fun e he=>?_
 have:e.1≠k:=by simpa using (yaE.1 he).2
 rw [Im hk,if_neg this]
theorem Kj {X:List Blk}:∀ {T:List Blk} {k:Nat},leH (T++X) (T.set k .dead++X)
 | [],_=>aG _
 | b::T,0=>⟨trivial,aG _⟩
 | b::T,k+1=>⟨aK b,Kj⟩
theorem Syn.dur {D D':Dk} {k:Nat} (h:Syn D D') (hl:D'.opn.length=D'.cells.length) (hk:k<D.cells.length) (ho:D'.op k≠[]):Syn D (D'.durD k):=by
 have hk2:k<D'.opn.length:=by rw [hl,h.n];exact hk
 refine ⟨Le.trans h.n,h.st,h.af,h.dd,fun i hi=>?_⟩
 rw [Im hk2]
 have e:(D'.durD k).cells.getD i zC=if i=k then ⟨rD (D'.op k),false⟩ else D'.cells.getD i zC:=by
  show (D'.cells.set k _).getD i zC=_
  rw [yad,List.getElem?_set]
  by_cases e:i=k
  ·subst e;rw [if_pos rfl,if_pos rfl,if_pos (by rw [h.n];exact hk)];rfl
  ·rw [if_neg (fun h=>e h.symm),if_neg e,←yad]
 rw [e]
 by_cases hik:i=k
 ·subst hik
  rcases h.at_ i hi with ⟨h1,h2⟩|⟨_,h2,_⟩
  ·exact .inr ⟨h1▸ho,if_pos rfl,by rw [if_pos rfl,h1]⟩
  ·exact absurd h2 ho
 ·rw [if_neg hik,if_neg hik];exact h.at_ i hi
def Dk.allD (D:Dk):Dk:={ D with cells:=(yax D.cells.length).map fun i=>if D.op i=[] then D.cells.getD i zC else ⟨rD (D.op i),false⟩,opn:=yaa D.cells.length [] }
theorem Syn.all {D D':Dk} (h:Syn D D') (hl:D'.opn.length=D'.cells.length) (ho:∀ i,i<D.cells.length→D'.op i=[]):D'=D.allD:=by
 have e1:D'.cells=(yax D.cells.length).map fun i=>if D.op i=[] then D.cells.getD i zC else ⟨rD (D.op i),false⟩:=by
  apply ybk
  ·simp [h.n]
  ·intro i h1 h2
   have hi:i<D.cells.length:=by rw [←h.n];exact h1
   have e:D'.cells[i]=D'.cells.getD i zC:=by rw [yad,yah h1];rfl
   rw [yai,List.getElem_range,e]
   rcases h.at_ i hi with ⟨h3,h4⟩|⟨h3,_,h4⟩
   ·rw [if_pos (by rw [←h3];exact ho i hi),h4]
   ·rw [if_neg h3,h4]
 have e2:D'.opn=yaa D.cells.length []:=by
  apply ybk
  ·simp [hl,h.n]
  ·intro i h1 h2
   have hi:i<D.cells.length:=by rw [←h.n,←hl];exact h1
   have e:D'.opn[i]=D'.op i:=by rw [Dk.op,yad,yah h1];rfl
   rw [e,ho i hi];simp
 have h3:=h.st
 have h4:=h.af
 have h5:=h.dd
 cases D'
 simp only at e1 e2 h3 h4 h5
 subst e1 e2 h3 h4 h5
 rfl
def Dk.syE (D:Dk):Int:=if D.chk 0≠0 then D.chk 0 else D.stepE
def Dk.syD (D:Dk):Dk:=if D.chk 0≠0 then D else if D.stepE≠0 then D.stepD else D.stepD.allD
theorem aeU (S:MS) (hs:S.D.steps≤1000000000000000) (ha:-1≤S.D.after∧S.D.after≤9223372036854775807):OkD 73 [.ptr 0 0 0] S (fun r S'=>S'.D=S.D.syD∧r=.i S.D.syE):=by
 refine nK lw73 (by simp) ?_
 unfold c73
 simp -implicitDefEqProofs only [rX,aA,↓reduceIte,reduceCtorEq,cxN,dkV,dkC,aR]
 refine Lm (S:=S) (Zg S 0) (fun _ _=>⟨⟨trivial,trivial⟩,rfl,trivial⟩) (by simp) (by simp) (by simp [aB,kill,yag]) ?_
 rintro r S' hn ⟨hS,rfl⟩
 subst S'
 refine ⟨fun g=>rfl,?_⟩
 simp -implicitDefEqProofs only [rX,↓rY,zX,aA,↓reduceIte,Nat.reduceEqDiff,reduceCtorEq,aE,d1,fU,dkV,dkC]
 simp only [br,decide_eq_true_eq,decide_eq_false_iff_not,bne_iff_ne,bne_eq_false_iff_eq,beq_iff_eq,beq_eq_false_iff_ne]
 refine ⟨fun h=>?_,fun h=>?_⟩
 ·refine Lm (S:=S) (aeR S hs ha) (fun _ _=>⟨trivial,trivial⟩) (by simp) (by simp) (by simp [aB,kill,yag]) ?_
  rintro r S1 hn1 ⟨hS1,rfl⟩
  refine ⟨fun g=>rfl,?_⟩
  simp -implicitDefEqProofs only [rX,↓rY,zX,aA,↓reduceIte,Nat.reduceEqDiff,reduceCtorEq,aE,d1,fU,dkV,dkC]
  simp only [br,decide_eq_true_eq,decide_eq_false_iff_not,bne_iff_ne,bne_eq_false_iff_eq,beq_iff_eq,beq_eq_false_iff_ne]
  refine ⟨fun h2=>?_,fun h2=>?_⟩
  ·refine vP S1 (aG _) hn1 ⟨trivial,?_,?_⟩
   ·rw [Dk.syD,if_neg (by rw [h];simp),if_pos h2,hS1,Cg]
   ·show V.i S.D.stepE=_
    rw [Dk.syE,if_neg (by rw [h];simp)]
  ·refine a8 (fun g:MS × List Nat=>(⟨[(19,.ptr ((dkT g.1.D).length+3) 0 0),(0,.ptr 0 0 0)],dkV 0 g.1.D::dkC g.1.D::.map (bR 0 g.1.D g.1.L) g.1.c::(dkT g.1.D++[.it (.mp 2) g.1.c g.2 g.1.c]),0⟩:St)) (fun g=>g.1.c=S1.c∧Syn S1.D g.1.D∧∀ e∈g.1.L,e.2∉g.2) (fun g=>g.1.L.length) (S1,[]) ⟨rfl,⟨rfl,rfl,rfl,rfl,fun i _=>.inl ⟨rfl,rfl⟩⟩,by simp⟩ ?_ ?_
   ·exact Qo S1 (Y:=[.it (.mp 2) S1.c [] S1.c]) ⟨rfl,rfl,trivial⟩ (aG _) ⟨Fh (by simp),trivial,trivial⟩ ⟨trivial,trivial⟩
   ·rintro ⟨S2,seen⟩ ⟨hc,hsy,hse⟩
    have hc:S2.c=S1.c:=hc
    have hsy:Syn S1.D S2.D:=hsy
    have hse:∀ e∈S2.L,e.2∉seen:=hse
    unfold c73l0
    simp -implicitDefEqProofs only [rX,↓rY,zY,zZ,aA,cells?,splice,↓reduceIte,Nat.reduceEqDiff,eG,reduceCtorEq,bK,leE,leH,leB,leV,cN,aF,aC,wfE,wfB,wfV,wfL,Nat.reduceLeDiff,↓qck,↓qcl,yai,In,d1,fU,dkV,dkC,Nm,Uw,Nk]
    refine ⟨⟨?_,yaj _⟩,fun hall=>?_,fun q hq hqn=>?_⟩
    ·rw [List.all_eq_true]
     intro q hq
     obtain ⟨x,hx,rfl⟩:=Gg hq
     simpa using S2.ok.clk x hx
    ·have hL:S2.L=[]:=by
      cases hL:S2.L with
      | nil=>rfl
      | cons x r =>
       have h3:=List.all_eq_true.1 hall _ (yaA (f:=fun e:Nat × Nat=>((.int .i64 e.1,.sl (0+3+e.1) 0 (S2.D.op e.1).length,e.2):Value × V × Nat)) (show x∈S2.L by rw [hL];exact List.mem_cons_self))
       have h4:=hse x (by rw [hL];exact List.mem_cons_self)
       exact absurd (by simpa using h3) h4
     have hall2:S2.D=S1.D.allD:=hsy.all S2.ok.len fun i hi=>by
      by_cases ho:S2.D.op i=[]
      ·exact ho
      ·have:=(S2.ok.key i).2 ⟨by show i<S2.D.cells.length;rw [hsy.n];exact hi,ho⟩
       rw [hL] at this;simp at this
     refine vP S2 (cL (h:=S2.bs 0)) (hsy.n.trans hn1) ⟨trivial,?_,?_⟩
     ·rw [Dk.syD,if_neg (by rw [h];simp),if_neg (by rw [h2];simp),hall2,hS1,Cg]
     ·show V.i 0=_
      rw [Dk.syE,if_neg (by rw [h];simp),h2]
    ·obtain ⟨x,hx,rfl⟩:=Gg hq
     have hkx:=(S2.ok.key x.1).1 (yaA hx)
     have hfind:=Kw (es:=bR 0 S2.D S2.L) (by rw [Vt];exact S2.ok.st) hq
     rw [List.getLast?_concat]
     simp -implicitDefEqProofs only [rX,↓rY,Nat.reduceEqDiff,eG,↓qbW,↓qch,↓qcj,yaf,hfind,↓qch]
     rw [Kv (by rw [S2.ok.len];exact hkx.1) hkx.2]
     simp -implicitDefEqProofs only [rX,↓rY,Nat.reduceAdd,yai,bV,fJ,alJ,alI,Wb,ahG,aaT,Ue,Xv,n61]
     obtain ⟨m,_,hm1,hm2,hm3⟩:=(rA (p:=0) (D:=S2.D) (k:=x.1) (L:=S2.L) (j:=0)).2 (yaA hx)
     simp only [hm3,Ve]
     have hl:0<(S2.D.op x.1).length:=List.length_pos_iff.2 hkx.2
     have hkn:(x.1:Int)<(S2.D.n:Int):=by have:=hkx.1;omega
     have hlast:∀ hx',(S2.D.op x.1)[((S2.D.op x.1).length-1:Int).toNat]'hx'=rD (S2.D.op x.1):=fun hx'=>by
      rw [rD,List.getLast?_eq_getElem?,yah (by omega)]
      show _=(S2.D.op x.1)[(S2.D.op x.1).length-1]
      congr 1;omega
     have hko:x.1<S2.D.opn.length:=by rw [S2.ok.len];exact hkx.1
     have hfe:(bR 0 S2.D S2.L).eraseIdx m=bR 0 (S2.D.durD x.1) (S2.L.filter fun e=>e.1 != x.1):=by
      rw [Sh hko]
      unfold bR
      rw [Bi,rL (m:=m) S2.ok.nod hm2]
     have hS3:=S2.ok.dur (k:=x.1) hkx.1
     have hlt:(S2.L.filter fun e=>e.1 != x.1).length<S2.L.length:=by
      rw [List.length_filter_lt_length_iff_exists]
      exact ⟨x,hx,by simp⟩
     have hmx:x.1<S1.D.cells.length:=by rw [←hsy.n];exact hkx.1
     refine fun hml=>⟨by simp only [lo,hi];unfold maxLen at hml;omega,⟨by omega,by omega⟩,by omega,⟨by omega,hkn⟩,hkx.1,(⟨S2.D.durD x.1,S2.L.filter fun e=>e.1 != x.1,S2.c,hS3⟩,seen++[x.2]),⟨⟨hc,hsy.dur S2.ok.len hmx hkx.2,?_⟩,hlt⟩,?_,⟨?_,?_,?_,?_⟩,?_⟩
     ·intro e he
      obtain ⟨h3,h4⟩:=yaE.1 he
      rw [ybl,yaS]
      rintro (h5|h5)
      ·exact hse e h3 h5
      ·have:e=x:=by
        have hn:=S2.ok.st
        obtain ⟨a,ha,hae⟩:=yby.1 h3
        obtain ⟨b,hb,hbe⟩:=yby.1 hx
        have:=(List.getElem_inj (xs:=S2.L.map (·.2)) (i:=a) (j:=b) (h₀:=by simpa using ha) (h₁:=by simpa using hb) hn).1 (by simp [hae,hbe,h5])
        subst this
        rw [←hae,←hbe]
       subst this
       simp at h4
     ·show V.ptr ((dkT S2.D).length+3) 0 0=V.ptr ((dkT (S2.D.durD x.1)).length+3) 0 0
      rw [Xr,yar]
     ·refine ⟨?_,rfl,rfl,rfl⟩
      show V.sl 1 0 S2.D.cells.length=V.sl 1 0 (S2.D.durD x.1).cells.length
      rw [Le]
     ·show Blk.arr 65 (yac Cl.enc (S2.D.cells.set x.1 _))=Blk.arr 65 (yac Cl.enc (S2.D.durD x.1).cells)
      rw [hlast];rfl
     ·rw [hfe]
     ·show leH (dkT S2.D++_) (dkT (S2.D.durD x.1)++_)
      rw [Xr]
      exact Kj
     ·have:=(⟨S2.D.durD x.1,S2.L.filter fun e=>e.1 != x.1,S2.c,hS3⟩:MS).wf (p:=0) [] [.it (.mp 2) S2.c (seen++[x.2]) S2.c] rfl (C:=[.it (.mp 2) S2.c (seen++[x.2]) S2.c]) ⟨trivial,trivial⟩
      exact ⟨this.2.1,this.2.2⟩
 ·refine ⟨fun h2=>?_,fun h2=>absurd h2 h⟩
  refine vP S (aG _) rfl ⟨trivial,?_,?_⟩
  ·rw [Dk.syD,if_pos h]
  ·show V.i (S.D.chk 0)=_
   rw [Dk.syE,if_pos h]
set_option maxRecDepth 20000
def Mn (n:Nat):Dk:=⟨yaa n zC,yaa n [],0,-1,false⟩
theorem Zs {n i:Nat}:(Mn n).op i=[]:=by
 unfold Dk.op Mn
 rw [yad,ybz]
 split<;>rfl
def Vd (n:Nat):MS:=⟨Mn n,[],0,⟨by show (yaa n ([]:List Sec)).length=(yaa n zC).length;simp,yaW,fun i=>by simp [Zs],yaW,by simp⟩⟩
theorem Zt {n:Nat}:dkT (Vd n).D=yaa n .dead:=by
 show (yaa n []).map tW=_
 rw [yaX];rfl
theorem Vc {n p:Nat}:(Vd n).bs p=.var [.sl (p+1) 0 n,.mp (p+2),.i 0,.i (-1),.b false]::.arr 65 (yaa n zC.enc)::.map [] 0::yaa n .dead:=by
 rw [←Zt]
 show Blk.var [.sl (p+1) 0 (yaa n zC).length,.mp (p+2),.i 0,.i (-1),.b false]::.arr 65 ((yaa n zC).map Cl.enc)::_=_
 rw [yaq,yaX];rfl
theorem vA {H:List Blk}:∀ {n:Nat},wfB H (yaa n .dead)
 | 0=>trivial
 | n+1=>vA (n:=n)
def Pp (n:Int):V→List Blk→Prop:=fun r h=>if n<1∨65536<n then r=.v (.pointer none)∧h=[] else r=.ptr 2 0 0∧h=[.arr 65 (yaa n.toNat zC.enc),.map [] 0,.var [.sl 0 0 n.toNat,.mp 1,.i 0,.i (-1),.b false]]
theorem afX (n:Int):Ok 14 [.i n] (Pp n):=by
 refine cD lw14 (by simp) ?_
 unfold c14
 simp -implicitDefEqProofs only [rX,↓rY,aA,cells?,splice,↓reduceIte,Nat.reduceEqDiff,Nat.reduceAdd,reduceCtorEq,aE,bK,Nat.reduceLeDiff,cxN,Nm,Nk,aR]
 simp only [br,decide_eq_true_eq,decide_eq_false_iff_not,beq_iff_eq,beq_eq_false_iff_ne]
 have fin0:∀ (e:Env),get e 2=.v (.pointer none)→(n<1∨65536<n)→cK [] 0 [eD.tmp 2] (Pp n) ⟨e,[],0⟩:=by
  intro e he h
  rw [cJ]
  simp only [aQ,yay,yaz,yam,aT,he]
  exact ⟨[],⟨trivial,trivial,yaj _,trivial,trivial⟩,by rw [Pp,if_pos h];exact ⟨rfl,rfl⟩⟩
 refine ⟨fun h=>fin0 _ rfl (.inl h),fun h=>⟨fun h2=>fin0 _ rfl (.inr h2),fun h2=>⟨⟨by omega,by omega,by omega⟩,?_⟩⟩⟩
 rw [cJ]
 refine ⟨[.arr 65 (yaa n.toNat zC.enc),.map [] 0,.var [.sl 0 0 n.toNat,.mp 1,.i 0,.i (-1),.b false]],⟨aG _,trivial,yan _,trivial,⟨trivial,⟨trivial,trivial,trivial,trivial,trivial,trivial⟩,trivial⟩⟩,?_⟩
 rw [Pp,if_neg (by omega)]
 exact ⟨rfl,rfl⟩
theorem Pi {n i j:Nat}:(yaa n Blk.dead).map (mvB i j)=yaa n .dead:=by simp [mvB]
theorem rC:∀ {n:Nat} {B:Blk},leH (yaa n B) (yaa n .dead)
 | 0,_=>trivial
 | n+1,B=>⟨trivial,rC⟩
set_option maxRecDepth 20000
structure Ck where
 seg:Int
 slot:Int
 seq:Int
 key:Bs
 deriving DecidableEq
def Ck.enc (c:Ck):List V:=[.i c.seg,.i c.slot,.i c.seq,sv c.key]
structure Lg where
 gens:List Int
 top:Int
 seq:Int
 found:List Ck
 seg:Int
 next:Int
 cells:List Cl
 steps:Nat
 c:Nat
def Lg.D (L:Lg):Dk:=⟨L.cells,yaa L.cells.length [],L.steps,-1,false⟩
theorem Lg.op (L:Lg) {i:Nat}:L.D.op i=[]:=by
 unfold Dk.op Lg.D
 rw [yad,ybz]
 split<;>rfl
def Lg.S (L:Lg):MS:=⟨L.D,[],L.c,⟨by show (yaa L.cells.length ([]:List Sec)).length=L.cells.length;simp,yaW,fun i=>by simp [L.op],yaW,by simp⟩⟩
abbrev Lg.n (L:Lg):Nat:=L.cells.length
theorem Lg.T (L:Lg):dkT L.S.D=yaa L.cells.length .dead:=by
 show (yaa L.cells.length []).map tW=_
 rw [yaX];rfl
def lgV (p:Nat) (L:Lg):Blk:=.var [.ptr (p+2) 0 0,.sl (p+1) 0 L.gens.length,.i L.top,.i L.seq,.sl (p+(L.cells.length+5)) 0 L.found.length,.i L.seg,.i L.next]
def lgF (L:Lg):Blk:=.arr 4 (L.found.map Ck.enc)
def lgG (L:Lg):Blk:=.arr 1 (L.gens.map encI)
def Lg.bs (L:Lg) (p:Nat):List Blk:=lgV p L::lgG L::(L.S.bs (p+2)++[lgF L])
def lgH (L:Lg):List Blk:=.var [.ptr 2 0 0,.sl 1 0 L.gens.length,.i L.top,.i L.seq,.sl (L.cells.length+5) 0 L.found.length,.i L.seg,.i L.next]::.arr 1 (L.gens.map encI)::.var [.sl 3 0 L.cells.length,.mp 4,.i L.steps,.i (-1),.b false]::.arr 65 (L.cells.map Cl.enc)::.map [] L.c::(yaa L.cells.length .dead++[.arr 4 (L.found.map Ck.enc)])
theorem Lg.bs0 (L:Lg):L.bs 0=lgH L:=by
 unfold lgH
 rw [←L.T]
 show lgV 0 L::_=_
 unfold lgV
 simp only [yaB]
 rfl
theorem Lg.len (L:Lg) {p:Nat}:(L.bs p).length=5+(L.n+1):=by
 show ((L.S.bs (p+2)++[lgF L]).length+1)+1=_
 rw [yal,L.S.len]
 show (3+L.S.n+1)+1+1=5+(L.S.n+1)
 omega
theorem xF {p q:Nat} {L:Lg} {g:Nat→Option Nat} (hg:∀ j,j<5+(L.n+1)→g (p+j)=some (q+j)):(L.bs p).map (bD g)=L.bs q:=by
 have h1:=hg 1 (by omega)
 have h2:=hg 2 (by omega)
 have h3:=hg (L.cells.length+5) (by show L.cells.length+5<5+(L.cells.length+1);omega)
 have hS:(L.S.bs (p+2)).map (bD g)=L.S.bs (q+2):=fN L.S.ok fun j hj=>by
  have hj2:j<3+L.S.n:=hj
  have:=hg (2+j) (by show 2+j<5+(L.S.n+1);omega)
  rw [show p+2+j=p+(2+j) by omega,show q+2+j=q+(2+j) by omega]
  exact this
 rw [Lg.bs,yaw,yaw,yas,hS]
 simp only [lgV,lgG,lgF,bD,dO,ren,h1,h2,h3,yaw,yaL]
 rfl
theorem Mp {p c m:Nat}:(yab c m).filterMap ((yab p (c+m))[·]?)=yab (p+c) m:=by
 have h:∀ (n a:Nat),a+n≤c+m→(yab a n).filterMap ((yab p (c+m))[·]?)=yab (p+a) n:=by
  intro n
  induction n with
  | zero=>intro a _;rfl
  | succ n ih =>
   intro a ha
   rw [List.range'_succ,List.filterMap_cons,ybA (by omega),ih (a+1) (by omega)]
   simp [List.range'_succ,Nat.add_assoc]
 exact h m c (by omega)
def QF {G:Type} (bs:G→Nat→List Blk) (N:Nat) (Q:V→G→Prop):V→List Blk→Prop:=fun r h=>∃ g',((∀ p,(bs g' p).length=N)∧Q r g')∧h=bs g' 0
section
variable {cx:Cx} {f:FuncId} {e:Env} {b:Nat} {K:V→St→Prop}
theorem fD {G:Type} (bs:G→Nat→List Blk) (c m:Nat) (hren:∀ g,(∀ p,(bs g p).length=c+m)→∀ {p q:Nat} {f:Nat→Option Nat},(∀ j,j<c+m→f (p+j)=some (q+j))→(bs g p).map (bD f)=bs g q)
  (A B:List Blk) (g:G) (hg:∀ p,(bs g p).length=c+m) (hcm:0<c) (args xs:List V) (Q:V→G→Prop) (hC:cx.C f (.ptr 0 0 0::xs) (bs g 0) (yab c m) (QF bs (c+m) Q))
  (ha:aJ (A++(bs g A.length++B)) (pos (yab A.length (c+m))) args∧wkL xs (aV (A++(bs g A.length++B)) (pos (yab A.length (c+m))) args))
  (hbn:∀ k∈cx.bn,k<A.length∨A.length+(c+m)≤k) (hfx:∀ k∈cx.fx,k<A.length+c∨A.length+c+m≤k)
  (hA:A.map (aD (yab (A.length+c) m))=A) (hB:B.map (aD (yab (A.length+c) m))=B)
  (h3:∀ (r:V) (g':G),(∀ p,(bs g' p).length=c+m)→Q r g'→(∀ f,ren f r=r)∧aF cx.fx (A++(bs g' A.length++B))∧K r ⟨aB (yab (A.length+c) m) e,A++(bs g' A.length++B),b⟩):cF cx f (.ptr A.length 0 0::args) ⟨e,A++(bs g A.length++B),b⟩ K:=by
 have hl:=hg A.length
 refine ⟨yab A.length (c+m),.ptr 0 0 0::xs,yab c m,QF bs (c+m) Q,⟨⟨List.nodup_range',fun k hk=>?_⟩,fun j hj k hk hkf=>?_⟩,?_,?_,?_,?_⟩
 ·rw [yag] at hk
  refine ⟨by simp only [yal,hl];omega,fun hb=>?_⟩
  have:=hbn k hb
  omega
 ·rw [yag] at hj
  rw [ybA (by omega)] at hk
  have:=hfx k hkf
  simp only [Option.some.injEq] at hk
  omega
 ·refine ⟨?_,ha.1⟩
  simp only [aU]
 ·refine ⟨?_,ha.2⟩
  simp only [bO,dI]
  rw [if_pos (by omega),yaY]
  exact rfl
 ·have e1:(yab A.length (c+m)).map (fun k=>bD (pos (yab A.length (c+m))) (blk (A++(bs g A.length++B)) k))=bs g 0:=by
   have h1:(bs g A.length).map (bD (pos (yab A.length (c+m))))=bs g 0:=hren g hg fun j hj=>by
    rw [dI,if_pos (by omega)];simp
   rw [←h1]
   apply ybk
   ·simp [hl]
   ·intro j h2 h3
    simp only [yai,List.getElem_range',blk]
    congr 1
    have hj:j<(bs g A.length).length:=by simpa using h3
    rw [yad,yau (by omega),show A.length+1*j-A.length=j by omega,ybB hj,yah hj];rfl
  rw [e1];exact hC
 ·rintro r h' ⟨g',⟨hn,hq⟩,rfl⟩ _
  obtain ⟨q1,q2,q3⟩:=h3 r g' hn hq
  have e2:(bs g' 0).map (bD (back (yab A.length (c+m)) (A++(bs g A.length++B)).length))=bs g' A.length:=hren g' hn fun j hj=>by
   rw [mR,if_pos (by omega)];simp
  rw [Mp,e2,yas,yas,hA,hB]
  have e3:aY (yab A.length (c+m)) (bs g' A.length) (A++((bs g A.length).map (aD (yab (A.length+c) m))++B))=A++(bs g' A.length++B):=by
   have:=fI (X:=(bs g A.length).map (aD (yab (A.length+c) m))) (Y:=bs g' A.length) (B:=B) (A:=A) (by rw [yae,hg,hn])
   rw [yae,hl] at this
   exact this
  rw [e3,q1]
  exact ⟨q2,q3⟩
end
abbrev OkL (f:FuncId) (xs:List V) (L:Lg) (Q:V→Lg→Prop):Prop:=OkN Tryz.prog f xs (L.bs 0) (yab 5 (L.n+1)) (QF Lg.bs (5+(L.n+1)) Q)
theorem i9 {f:FuncId} {l0 l:LCode} {rs:List eD} {nt:Nat} (hl:rlF Tryz.prog f l0=some (l,rs,nt)) {args:List V} {L:Lg} {Q:V→Lg→Prop} (hlen:args.length≤nt)
  (h:aw (cxN Tryz.prog [0,1,2,3,4]) l (cK [0,1,2,3,4] (5+(L.n+1)) rs (QF Lg.bs (5+(L.n+1)) Q)) (fun _ _=>False) (cK [0,1,2,3,4] (5+(L.n+1)) rs (QF Lg.bs (5+(L.n+1)) Q)) ⟨aR 0 args,lgH L,0⟩):OkL f args L Q:=by
 refine e6 pol [0,1,2,3,4] hl hlen ⟨trivial,trivial,trivial,trivial,trivial,trivial⟩ (fun k hk hm=>?_) (by rw [L.len,L.bs0];exact h)
 rw [L.len] at hk
 have:¬(5≤k∧k<5+(L.n+1)):=fun h2=>hm (yag.2 h2)
 have h3:k=0∨k=1∨k=2∨k=3∨k=4:=by omega
 rcases h3 with rfl|rfl|rfl|rfl|rfl<;>simp
theorem Lg.wf (L:Lg) (A B:List Blk) {p:Nat} (hp:p=A.length) {C:List Blk} (hC:wfB (A++(L.bs p++B)) C):wfB (A++(L.bs p++B)) (L.bs p++C):=by
 have e0:A++(L.bs p++B)=(A++[lgV p L,lgG L])++(L.S.bs (p+2)++(lgF L::B)):=by simp [Lg.bs]
 have e1:L.bs p++C=lgV p L::lgG L::(L.S.bs (p+2)++(lgF L::C)):=by simp [Lg.bs]
 have hlive:∀ j,j=1∨j=2∨j=L.cells.length+5→aC (A++(L.bs p++B)) (p+j):=by
  intro j hj
  subst hp
  unfold aC
  rw [yau (by omega),ybB (by rw [L.len];show _<5+(L.cells.length+1);omega),show A.length+j-A.length=j by omega]
  rcases hj with rfl|rfl|rfl
  ·trivial
  ·trivial
  ·have:(L.bs A.length)[L.cells.length+5]?=some (lgF L):=by
    rw [Lg.bs,show L.cells.length+5=(3+L.S.n)+1+1 by show L.cells.length+5=(3+L.cells.length)+1+1;omega,yaZ,yaZ,yau (by rw [L.S.len];exact yaj _),L.S.len,yaY]
    rfl
   rw [this]
   trivial
 rw [e1]
 have h5:=hlive (L.cells.length+5) (.inr (.inr rfl))
 refine ⟨⟨hlive 2 (.inr (.inl rfl)),hlive 1 (.inl rfl),trivial,trivial,h5,trivial,trivial,trivial⟩,?_⟩
 rw [e0] at hC ⊢
 exact L.S.wf _ _ (by simp [hp]) hC
theorem sJ (L':Lg) {n b:Nat} {e:Env} {h:List Blk} {rs:List eD} {Q:V→Lg→Prop} (hh:leH h (lgH L')) (hn:L'.n=n) (hr:aQ h e rs [] fun xs=>wfV (L'.bs 0) (aT xs)∧Q (aT xs) L'):cK [0,1,2,3,4] (5+(n+1)) rs (QF Lg.bs (5+(n+1)) Q) ⟨e,h,b⟩:=by
 rw [cJ]
 refine resP_mono _ _ ?_ hr
 rintro xs ⟨h1,h2⟩
 refine ⟨L'.bs 0,⟨by rw [L'.bs0];exact hh,⟨trivial,trivial,trivial,trivial,trivial,trivial⟩,by rw [L'.len,hn];exact yaj _,h1,?_⟩,L',⟨fun p=>by rw [L'.len,hn],h2⟩,rfl⟩
 have:=L'.wf (p:=0) [] [] rfl (C:=[]) trivial
 simpa using this
theorem afZ (L:Lg):OkL 12 [.ptr 0 0 0] L (fun r L'=>L'=L∧r=.i L.gens.length):=by
 refine i9 lw12 (by simp) ?_
 unfold c12
 simp -implicitDefEqProofs only [rX,↓rY,aA,↓reduceIte,reduceCtorEq,cxN,lgH,aR]
 intro h
 refine sJ L (aG _) rfl ?_
 simp only [aQ,yay,yaz,yam,aT]
 exact ⟨trivial,trivial,rfl⟩
set_option maxRecDepth 20000
theorem mJ {a b c d e:Blk} {n:Nat} {X:List Blk}:(a::b::c::d::e::(yaa n Blk.dead++X))[n+5]?=X[0]?:=by
 have:(a::b::c::d::e::(yaa n Blk.dead++X))[n+5]?=(yaa n Blk.dead++X)[n+0]?:=rfl
 rw [this,yau (by simp),yaq];congr 1;omega
theorem Oq {a b c d e B:Blk} {n:Nat} {X:List Blk}:(a::b::c::d::e::(yaa n Blk.dead++X)).set (n+5) B=a::b::c::d::e::(yaa n Blk.dead++X.set 0 B):=by
 have:(a::b::c::d::e::(yaa n Blk.dead++X)).set (n+5) B=a::b::c::d::e::((yaa n Blk.dead++X).set (n+0) B):=rfl
 rw [this,yaF _ _ (by simp),yaq,show n+0-n=0 by omega]
theorem Iv {a b c d e:Blk} {n:Nat} {X:List Blk}:blk (a::b::c::d::e::(yaa n Blk.dead++X)) (n+5)=blk X 0:=by
 rw [blk,blk,yad,yad,mJ]
theorem dC {a b c d e:Blk} {n:Nat} {X:List Blk}:(a::b::c::d::e::(yaa n Blk.dead++X))[n+6]?=X[1]?:=by
 have:(a::b::c::d::e::(yaa n Blk.dead++X))[n+6]?=(yaa n Blk.dead++X)[n+1]?:=rfl
 rw [this,yau (by simp),yaq];congr 1;omega
theorem fT {a b c d e B:Blk} {n:Nat} {X:List Blk}:(a::b::c::d::e::(yaa n Blk.dead++X)).set (n+6) B=a::b::c::d::e::(yaa n Blk.dead++X.set 1 B):=by
 have:(a::b::c::d::e::(yaa n Blk.dead++X)).set (n+6) B=a::b::c::d::e::((yaa n Blk.dead++X).set (n+1) B):=rfl
 rw [this,yaF _ _ (by simp),yaq,show n+1-n=1 by omega]
theorem Dx {a b c d e:Blk} {n:Nat} {X:List Blk}:blk (a::b::c::d::e::(yaa n Blk.dead++X)) (n+6)=blk X 1:=by
 rw [blk,blk,yad,yad,dC]
theorem gR {a b c d e:Blk} {n:Nat} {X:List Blk}:(a::b::c::d::e::(yaa n Blk.dead++X))[n+7]?=X[2]?:=by
 have:(a::b::c::d::e::(yaa n Blk.dead++X))[n+7]?=(yaa n Blk.dead++X)[n+2]?:=rfl
 rw [this,yau (by simp),yaq];congr 1;omega
theorem sA {a b c d e B:Blk} {n:Nat} {X:List Blk}:(a::b::c::d::e::(yaa n Blk.dead++X)).set (n+7) B=a::b::c::d::e::(yaa n Blk.dead++X.set 2 B):=by
 have:(a::b::c::d::e::(yaa n Blk.dead++X)).set (n+7) B=a::b::c::d::e::((yaa n Blk.dead++X).set (n+2) B):=rfl
 rw [this,yaF _ _ (by simp),yaq,show n+2-n=2 by omega]
theorem j7 {a b c d e:Blk} {n:Nat} {X:List Blk}:(a::b::c::d::e::(yaa n Blk.dead++X))[n+8]?=X[3]?:=by
 have:(a::b::c::d::e::(yaa n Blk.dead++X))[n+8]?=(yaa n Blk.dead++X)[n+3]?:=rfl
 rw [this,yau (by simp),yaq];congr 1;omega
theorem o0 {a b c d e B:Blk} {n:Nat} {X:List Blk}:(a::b::c::d::e::(yaa n Blk.dead++X)).set (n+8) B=a::b::c::d::e::(yaa n Blk.dead++X.set 3 B):=by
 have:(a::b::c::d::e::(yaa n Blk.dead++X)).set (n+8) B=a::b::c::d::e::((yaa n Blk.dead++X).set (n+3) B):=rfl
 rw [this,yaF _ _ (by simp),yaq,show n+3-n=3 by omega]
theorem Ih {a b c d e:Blk} {n:Nat} {X:List Blk}:(a::b::c::d::e::(yaa n Blk.dead++X))[n+9]?=X[4]?:=by
 have:(a::b::c::d::e::(yaa n Blk.dead++X))[n+9]?=(yaa n Blk.dead++X)[n+4]?:=rfl
 rw [this,yau (by simp),yaq];congr 1;omega
theorem Hi {a b c d e B:Blk} {n:Nat} {X:List Blk}:(a::b::c::d::e::(yaa n Blk.dead++X)).set (n+9) B=a::b::c::d::e::(yaa n Blk.dead++X.set 4 B):=by
 have:(a::b::c::d::e::(yaa n Blk.dead++X)).set (n+9) B=a::b::c::d::e::((yaa n Blk.dead++X).set (n+4) B):=rfl
 rw [this,yaF _ _ (by simp),yaq,show n+4-n=4 by omega]
theorem Rl {a b c d e:Blk} {n:Nat} {X:List Blk}:(a::b::c::d::e::(yaa n Blk.dead++X))[n+10]?=X[5]?:=by
 have:(a::b::c::d::e::(yaa n Blk.dead++X))[n+10]?=(yaa n Blk.dead++X)[n+5]?:=rfl
 rw [this,yau (by simp),yaq];congr 1;omega
theorem Oo {a b c d e B:Blk} {n:Nat} {X:List Blk}:(a::b::c::d::e::(yaa n Blk.dead++X)).set (n+10) B=a::b::c::d::e::(yaa n Blk.dead++X.set 5 B):=by
 have:(a::b::c::d::e::(yaa n Blk.dead++X)).set (n+10) B=a::b::c::d::e::((yaa n Blk.dead++X).set (n+5) B):=rfl
 rw [this,yaF _ _ (by simp),yaq,show n+5-n=5 by omega]
theorem dD {n:Nat} {X Y:List Blk}:yaa n Blk.dead++X++Y=yaa n Blk.dead++(X++Y):=yav ..
theorem lU {n:Nat} {X:List Blk} {M:List Nat}:yac (aD M) (yaa n Blk.dead++X)=yaa n Blk.dead++X.map (aD M):=by
 rw [yas,yaX];rfl
theorem j9 (c:Ck):c.enc.length=4:=rfl
theorem aaV (c:Ck):c.enc[0]?=some (.i c.seg):=rfl
theorem ahJ (c:Ck):c.enc[1]?=some (.i c.slot):=rfl
theorem ahI (c:Ck):c.enc[2]?=some (.i c.seq):=rfl
theorem ahH (c:Ck):c.enc[3]?=some (sv c.key):=rfl
theorem hU (c:Ck):yao 4 c.enc=c.enc:=rfl
theorem Dp (c:Ck):yaT 4 c.enc=[]:=rfl
theorem Wc (c:Ck):c.enc.all isD=true:=rfl
theorem My (c:Ck):c.enc.all isC=true:=rfl
theorem oL {c:Ck} {M:List Nat}:bB M c.enc=c.enc:=rfl
theorem Sy {c:Ck} {g:Nat→Option Nat}:dO g c.enc=c.enc:=rfl
def inL (l:List Ck) (s:Int):List Ck:=l.filter fun c=>c.seg==s
theorem xR {l:List Ck} {s:Int} {k:Nat} (h:k<l.length):inL (l.take (k+1)) s=inL (l.take k) s++(if l[k].seg=s then [l[k]] else []):=by
 unfold inL
 rw [yaJ,yah h,yaG]
 congr 1
 simp only [ybm,ybn,yba,beq_iff_eq]
theorem aaA {l:List Ck} {s:Int}:(inL l s).length≤l.length:=yaK ..
set_option maxRecDepth 20000
theorem rB {X Y:List Blk}:∀ {n:Nat},leH X Y→leH (yaa n Blk.dead++X) (yaa n Blk.dead++Y)
 | 0,h=>h
 | n+1,h=>⟨trivial,rB (n:=n) h⟩
theorem iV {H X:List Blk}:∀ {n:Nat},wfB H X→wfB H (yaa n Blk.dead++X)
 | 0,h=>h
 | n+1,h=>iV (n:=n) h
theorem agK {L:Lg} {X:List Blk}:aC (lgH L++X) (L.cells.length+5):=by
 unfold aC
 have e:(lgH L++X)[L.cells.length+5]?=some (.arr 4 (L.found.map Ck.enc)):=by
  show (_::_::_::_::_::((yaa L.cells.length Blk.dead++[.arr 4 (L.found.map Ck.enc)])++X))[L.cells.length+5]?=_
  rw [yav,mJ]
  rfl
 rw [e]
 trivial
theorem Xh {L:Lg} {X:List Blk} {sz:Nat} {els:List (List V)}:aC (lgH L++.arr sz els::X) (L.cells.length+6):=by
 unfold aC
 have e:(lgH L++.arr sz els::X)[L.cells.length+6]?=some (.arr sz els):=by
  show (_::_::_::_::_::((yaa L.cells.length Blk.dead++[.arr 4 (L.found.map Ck.enc)])++.arr sz els::X))[L.cells.length+6]?=_
  rw [yav,dC]
  rfl
 rw [e]
 trivial
theorem nO {L:Lg} {X:List Blk} (hX:wfB (lgH L++X) X):wfB (lgH L++X) (lgH L++X):=by
 have:=L.wf (p:=0) [] X rfl (C:=X) (by rw [L.bs0];exact hX)
 rw [L.bs0] at this
 exact this
theorem uS {L:Lg}:(lgH L).length=5+(L.n+1):=by rw [←L.bs0,L.len]
theorem i3 {L:Lg} {X:List Blk}:aF [0,1,2,3,4] (lgH L++X):=by
 unfold lgH
 exact ⟨trivial,trivial,trivial,trivial,trivial,trivial⟩
def aeH (L:Lg) (l:List Ck):V→List Blk→Prop:=fun r h=>h=lgH L++[.arr 4 (l.map Ck.enc)]∧r=.sl (L.cells.length+6) 0 l.length
theorem afB (L:Lg) (s:Int) (hl:L.found.length≤100000):OkN Tryz.prog 59 [.ptr 0 0 0,.i s] (L.bs 0) (yab 5 (L.n+1)) (aeH L (inL L.found s)):=by
 refine e6 pol [0,1,2,3,4] lw59 (by simp) ⟨trivial,trivial,trivial,trivial,trivial,trivial⟩ (fun k hk hm=>?_) ?_
 ·rw [L.len] at hk
  have:¬(5≤k∧k<5+(L.n+1)):=fun h2=>hm (yag.2 h2)
  have h3:k=0∨k=1∨k=2∨k=3∨k=4:=by omega
  rcases h3 with rfl|rfl|rfl|rfl|rfl<;>simp
 rw [L.len,L.bs0]
 unfold c59
 simp -implicitDefEqProofs only [rX,↓rY,aA,↓reduceIte,reduceCtorEq,cxN,lgH,aR]
 intro hml
 refine dV (.virt 1 4 (by decide) (.nilE 5 (L.cells.length+6) rfl (.refl _))) (fun k:Nat=>(⟨[(13,.i k),(12,.i L.found.length),(11,.sl (L.cells.length+5) 0 L.found.length),(5,.sl (L.cells.length+6) 0 (inL (L.found.take k) s).length),(1,.i s)],lgH L++[.arr 4 ((inL (L.found.take k) s).map Ck.enc)],0⟩:St)) (fun k=>k≤L.found.length) (fun k=>L.found.length-k) 0 (yan _) ?_ ?_
 ·refine ⟨⟨rfl,rfl,rfl,rfl,rfl,trivial⟩,?_,⟨trivial,trivial,trivial,trivial,trivial,trivial⟩,?_,?_⟩
  ·exact aG _
  ·exact ⟨trivial,trivial,agK,Xh,trivial,trivial⟩
  ·exact nO trivial
 intro k hk
 unfold c59l0
 simp -implicitDefEqProofs only [rX,↓rY,aA,cells?,splice,↓reduceIte,Nat.reduceEqDiff,eG,Nat.reduceAdd,reduceCtorEq,aE,cE,leE,leH,leB,leV,cN,aF,aC,wfE,wfB,wfV,wfL,aB,aD,kill,bB,St.kill,Nat.reduceLT,yai,yaf,dM,mJ,dC,fT,gR,sA,j7,o0,dD,lU,j9,aaV,hU,Wc,My,oL,lgH,yaU,Nat.reduceEqDiff]
 cases hd:decide ((k:Int)<(L.found.length:Int)) with
 | true =>
  rw [wd]
  have hk2:k<L.found.length:=by have:=of_decide_eq_true hd;omega
  have hin:(inL (L.found.take k) s).length≤L.found.length:=yaM aaA (by rw [yaH];omega)
  refine ⟨⟨by omega,by omega⟩,hk2,?_⟩
  cases hc:L.found[k].seg==s with
  | true =>
   have hc':L.found[k].seg=s:=by simpa using hc
   rw [wd]
   refine ⟨by omega,⟨by simp only [lo];omega,by simp only [hi];omega⟩,k+1,⟨by omega,by omega⟩,⟨by omega,?_⟩,?_,?_⟩
   ·rw [xR hk2,if_pos hc',yal];rfl
   ·refine rB ⟨aK _,?_,trivial⟩
    rw [xR hk2,if_pos hc',yap (by rw [yae];exact yaj _),yas]
    exact aK _
   ·exact iV trivial
  | false =>
   have hc':¬L.found[k].seg=s:=by simpa using hc
   rw [we]
   have e:inL (L.found.take (k+1)) s=inL (L.found.take k) s:=by rw [xR hk2,if_neg hc',yak]
   refine ⟨⟨by simp only [lo];omega,by simp only [hi];omega⟩,k+1,⟨by omega,by omega⟩,⟨by omega,by rw [e]⟩,?_,?_⟩
   ·rw [e]
    exact rB ⟨aK _,aK _,trivial⟩
   ·exact iV trivial
 | false =>
  rw [we]
  have hk2:k=L.found.length:=by have:=of_decide_eq_false hd;omega
  subst hk2
  rw [yaC]
  rw [cJ]
  have hlen:5+(L.n+1)≤(lgH L++[Blk.arr 4 ((inL L.found s).map Ck.enc)]).length:=by
   rw [yal,uS]
   exact Nat.le_add_right _ _
  have hl6:aC (lgH L++[Blk.arr 4 ((inL L.found s).map Ck.enc)]) (L.cells.length+6):=Xh
  have hwf:wfB (lgH L++[Blk.arr 4 ((inL L.found s).map Ck.enc)]) (lgH L++[Blk.arr 4 ((inL L.found s).map Ck.enc)]):=nO trivial
  exact ⟨lgH L++[Blk.arr 4 ((inL L.found s).map Ck.enc)],⟨by unfold lgH;simp only [yaI,yav];exact aG _,i3,hlen,hl6,hwf⟩,rfl,rfl⟩
set_option maxRecDepth 20000
theorem Kt {M:Nat→Bool} {h X:List Blk}:∀ {n k:Nat},gvH M h k (yaa n Blk.dead++X)=yaa n Blk.dead++gvH M h (k+n) X
 | 0,k=>rfl
 | n+1,k=>by
  have:=Kt (M:=M) (h:=h) (X:=X) (n:=n) (k:=k+1)
  rw [ybb,yaI,yaI]
  show (if M k=true then Blk.dead else Blk.dead)::gvH M h (k+1) _=_
  rw [this,ite_self,show k+1+n=k+(n+1) by omega]
theorem Xn {L:Lg} {M:Nat→Bool} {h X:List Blk} (hM:∀ j,j<L.cells.length+6→M j=false):gvH M h 0 (lgH L++X)=lgH L++gvH M h (L.cells.length+6) X:=by
 have m0:=hM 0 (by omega)
 have m1:=hM 1 (by omega)
 have m2:=hM 2 (by omega)
 have m3:=hM 3 (by omega)
 have m4:=hM 4 (by omega)
 have m5:=hM (L.cells.length+5) (by omega)
 unfold lgH
 simp only [yaI,yav,gvH,m0,m1,m2,m3,m4,Bool.false_eq_true,if_false,yaB,Kt,yam]
 rw [show 0+1+1+1+1+1+L.cells.length=L.cells.length+5 by omega]
 simp only [m5,Bool.false_eq_true,if_false,gvB,gvL,gvV,m1,m2,m3,m4,yaL]
theorem Td {L:Lg} {X:List Blk} {B:Blk}:blk (lgH L++B::X) (L.cells.length+6)=B:=by
 show blk (_::_::_::_::_::((yaa L.cells.length Blk.dead++[.arr 4 (L.found.map Ck.enc)])++B::X)) (L.cells.length+6)=_
 rw [yav,Dx]
 rfl
theorem Vp {L:Lg} {sz:Nat} {els:List (List V)}:leG [0,1,2,3,4] ⟨[(0,.sl (L.cells.length+6) 0 els.length)],lgH L++[.arr sz els],0⟩ ⟨[(0,.ro sz els)],lgH L,0⟩:=by
 refine ⟨_,.give (fun k=>k==L.cells.length+6) (fun k hk=>?_) (.refl _),?_⟩
 ·simp at hk
  simp;omega
 ·show leS [0,1,2,3,4] ⟨[(0,gvV _ _ _)],gvH _ _ 0 (lgH L++_),0⟩ _
  rw [Xn fun j hj=>by simp;omega]
  have e2:gvV (fun k=>k==L.cells.length+6) (lgH L++[.arr sz els]) (.sl (L.cells.length+6) 0 els.length)=.ro sz els:=by
   simp only [gvV,beq_self_eq_true,if_true,Td,yaB,yaj,yaN]
   rw [yap (by simp)]
  have hk:=i3 (L:=L) (X:=[])
  have hw:=nO (L:=L) (X:=[]) trivial
  rw [yak] at hk hw
  exact ⟨⟨by simp only [get,if_true];exact e2,trivial⟩,cL,hk,⟨trivial,trivial⟩,hw⟩
theorem Ao {f:FuncId} {xs:List V} {L:Lg} {R:V→List Blk→Prop} {Q:V→Lg→Prop} (h:OkN Tryz.prog f xs (L.bs 0) (yab 5 (L.n+1)) R)
  (hR:∀ r hs,R r hs→aF [0,1,2,3,4] hs∧∃ r' L',L'.n=L.n∧Q r' L'∧leG [0,1,2,3,4] ⟨[(0,r)],hs,0⟩ ⟨[(0,r')],lgH L',0⟩):OkL f xs L Q:=by
 refine ⟨h.1,tH [0,1,2,3,4] (fun k hk hm=>?_) (fun k hk=>?_) h.2 ?_⟩
 ·rw [L.len] at hk
  have:¬(5≤k∧k<5+(L.n+1)):=fun h2=>hm (yag.2 h2)
  have h3:k=0∨k=1∨k=2∨k=3∨k=4:=by omega
  rcases h3 with rfl|rfl|rfl|rfl|rfl<;>simp
 ·rw [L.len,yag]
  simp at hk;omega
 intro r hs hh
 obtain ⟨h1,r',L',h2,h3,h4⟩:=hR r hs hh
 refine ⟨h1,r',L'.bs 0,⟨L',⟨fun p=>by rw [L'.len,h2],h3⟩,rfl⟩,by rw [L.len,L'.len,h2];exact yaj _,?_⟩
 rw [L'.bs0]
 exact h4
theorem afC (L:Lg) (s:Int) (hl:L.found.length≤100000):OkL 59 [.ptr 0 0 0,.i s] L (fun r L'=>L'=L∧r=.ro 4 ((inL L.found s).map Ck.enc)):=by
 refine Ao (afB L s hl) ?_
 rintro r hs ⟨rfl,rfl⟩
 refine ⟨i3,_,L,rfl,⟨rfl,rfl⟩,?_⟩
 have:=Vp (L:=L) (sz:=4) (els:=(inL L.found s).map Ck.enc)
 rw [yae] at this
 exact this
def lgX (L:Lg) (B:List Blk):List Blk:=.var [.ptr 2 0 0,.sl 1 0 L.gens.length,.i L.top,.i L.seq,.sl (L.cells.length+5) 0 L.found.length,.i L.seg,.i L.next]::.arr 1 (L.gens.map encI)::.var [.sl 3 0 L.cells.length,.mp 4,.i L.steps,.i (-1),.b false]::.arr 65 (L.cells.map Cl.enc)::.map [] L.c::(yaa L.cells.length .dead++.arr 4 (L.found.map Ck.enc)::B)
theorem eC {L:Lg} {B:List Blk}:lgH L++B=lgX L B:=by
 unfold lgH lgX
 simp only [yaI,yav,yam]
section
variable {cx:Cx} {f:FuncId} {e:Env} {b:Nat} {K:V→St→Prop}
theorem eT (B:List Blk) (L:Lg) (args xs:List V) (Q:V→Lg→Prop) (hC:cx.C f (.ptr 0 0 0::xs) (L.bs 0) (yab 5 (L.n+1)) (QF Lg.bs (5+(L.n+1)) Q))
  (ha:aJ (lgX L B) (pos (yab 0 (5+(L.n+1)))) args∧wkL xs (aV (lgX L B) (pos (yab 0 (5+(L.n+1)))) args))
  (hbn:cx.bn=[]) (hfx:cx.fx=[0,1,2,3,4])
  (hB:B.map (aD (yab 5 (L.n+1)))=B)
  (h3:∀ (r:V) (L':Lg),L'.n=L.n→Q r L'→(∀ f,ren f r=r)∧K r ⟨aB (yab 5 (L.n+1)) e,lgX L' B,b⟩):cF cx f (.ptr 0 0 0::args) ⟨e,lgX L B,b⟩ K:=by
 have h:=fD (cx:=cx) (f:=f) (e:=e) (b:=b) (K:=K) Lg.bs 5 (L.n+1) (fun g hg p q f hf=>xF (by
  have:=hg 0
  rw [g.len] at this
  intro j hj
  exact hf j (by omega))) [] B L (fun p=>L.len) (by decide) args xs Q hC (by simp only [yaO,yam,L.bs0,eC];exact ha) (by rw [hbn];simp) (by rw [hfx];intro k hk;left;simp at hk;simp;omega) rfl (by simpa using hB) (fun r L' hn hq=>?_)
 ·simp only [yaO,yam,L.bs0,eC] at h
  exact h
 ·have hn':L'.n=L.n:=by have:=hn 0;rw [L'.len] at this;omega
  obtain ⟨q1,q2⟩:=h3 r L' hn' hq
  refine ⟨q1,?_,?_⟩
  ·simp only [yaO,yam,L'.bs0,hfx]
   exact i3
  ·simp only [yaO,yam,L'.bs0,eC,yaB]
   exact q2
theorem u5 (B:List Blk) (L:Lg) (args xs:List V) (Q:V→Lg→Prop) (hC:cx.C f (.ptr 0 0 0::xs) (L.bs 0) (yab 5 (L.n+1)) (QF Lg.bs (5+(L.n+1)) Q))
  (ha:aJ (lgX L B) (pos (yab 0 (5+(L.n+1)))) args∧wkL xs (aV (lgX L B) (pos (yab 0 (5+(L.n+1)))) args))
  (hbn:cx.bn=[]) (hfx:cx.fx=[0,1,2,3,4])
  (hB:B.map (aD (yab 5 (L.n+1)))=B) (hE:aB (yab 5 (L.n+1)) e=e)
  (h3:∀ (r:V) (L':Lg),L'.n=L.n→Q r L'→(∀ f,ren f r=r)∧K r ⟨e,lgX L' B,b⟩):cF cx f (.ptr 0 0 0::args) ⟨e,lgX L B,b⟩ K :=
 eT B L args xs Q hC ha hbn hfx hB (by rw [hE];exact h3)
end
def Lg.free (L:Lg) (s:Int):Bool:=s != L.seg&&(inL L.found s).length==0
theorem afT (L:Lg) (s:Int) (hl:L.found.length≤100000):OkL 28 [.ptr 0 0 0,.i s] L (fun r L'=>L'=L∧r=.b (L.free s)):=by
 refine i9 lw28 (by simp) ?_
 unfold c28
 simp -implicitDefEqProofs only [rX,↓rY,aA,↓reduceIte,Nat.reduceEqDiff,reduceCtorEq,cxN,lgH,aR,Nat.reduceEqDiff]
 cases hs:s != L.seg with
 | true =>
  rw [wd]
  refine u5 [] L [.i s] [.i s] _ (afC L s hl) ⟨⟨trivial,trivial⟩,⟨rfl,trivial⟩⟩ rfl rfl rfl (by simp [aB,kill]) ?_
  rintro r L'-⟨rfl,rfl⟩
  refine ⟨fun f=>rfl,?_⟩
  unfold lgX
  simp -implicitDefEqProofs only [rX,↓rY,aA,↓reduceIte,Nat.reduceEqDiff,Nat.reduceEqDiff]
  intro hm
  refine sJ L' (aG _) rfl ?_
  simp only [aQ,yay,yaz,yam,aT]
  refine ⟨trivial,trivial,?_⟩
  unfold Lg.free
  rw [hs,yat]
  have:(((inL L'.found s).length:Int)==0)=((inL L'.found s).length==0):=by
   rw [Bool.eq_iff_iff];simp
  exact congrArg V.b this
 | false =>
  rw [we]
  refine sJ L (aG _) rfl ?_
  simp only [aQ,yay,yaz,yam,aT]
  refine ⟨trivial,trivial,?_⟩
  unfold Lg.free
  rw [hs];rfl
def Lg.freeN (L:Lg) (k:Nat):Nat:=((yax k).filter fun i:Nat=>L.free (i:Int)).length
theorem Ik {L:Lg} {k:Nat}:L.freeN (k+1)=L.freeN k+if L.free k then 1 else 0:=by
 unfold Lg.freeN
 rw [ybo,yaG,yal]
 congr 1
 cases h:L.free (k:Int)<;>simp [h]
theorem Ru {L:Lg} {k:Nat}:L.freeN k≤k:=yaM (yaK _ _) (by rw [List.length_range];exact yaj _)
theorem Zm (L:Lg) (hl:L.found.length≤100000) (hg:L.gens.length≤100000):OkL 10 [.ptr 0 0 0] L (fun r L'=>L'=L∧r=.i (L.freeN L.gens.length)):=by
 refine i9 lw10 (by simp) ?_
 unfold c10
 simp -implicitDefEqProofs only [rX,↓rY,aA,↓reduceIte,reduceCtorEq,cxN,lgH,aR]
 intro hm
 refine a8 (fun k:Nat=>(⟨[(10,.i k),(9,.i L.gens.length),(3,.i (L.freeN k)),(0,.ptr 0 0 0)],lgH L,0⟩:St)) (fun k=>k≤L.gens.length) (fun k=>L.gens.length-k) 0 (yan _) ?_ ?_
 ·refine ⟨⟨rfl,rfl,rfl,rfl,trivial⟩,aG _,?_,⟨trivial,trivial,trivial,trivial,trivial⟩,?_⟩
  ·have:=i3 (L:=L) (X:=[]);rw [yak] at this;exact this
  ·have:=nO (L:=L) (X:=[]) trivial;rw [yak] at this;exact this
 intro k hk
 unfold c10l0
 simp -implicitDefEqProofs only [rX,↓rY,↓reduceIte,Nat.reduceEqDiff,reduceCtorEq,lgH,Nat.reduceEqDiff]
 cases hd:decide ((k:Int)<(L.gens.length:Int)) with
 | true =>
  rw [wd]
  have hk2:k<L.gens.length:=by have:=of_decide_eq_true hd;omega
  refine u5 [] L [.i k] [.i k] _ (afT L k hl) ⟨⟨trivial,trivial⟩,⟨rfl,trivial⟩⟩ rfl rfl rfl (by simp [aB,kill]) ?_
  rintro r L'-⟨rfl,rfl⟩
  refine ⟨fun f=>rfl,?_⟩
  unfold lgX
  have hs:=Ik (L:=L') (k:=k)
  have hle:=Ru (L:=L') (k:=k)
  simp -implicitDefEqProofs only [rX,↓rY,aA,↓reduceIte,Nat.reduceEqDiff,reduceCtorEq,leE,leH,leB,leV,cN,aF,aC,wfE,wfB,wfV,wfL,mJ,Nat.reduceEqDiff]
  cases hf:L'.free (k:Int) with
  | true =>
   rw [hf,if_pos rfl] at hs
   rw [wd]
   refine ⟨⟨by simp only [lo];omega,by simp only [hi];omega⟩,⟨by simp only [lo];omega,by simp only [hi];omega⟩,k+1,⟨by omega,by omega⟩,?_⟩
   exact ⟨⟨by omega,by rw [hs];omega⟩,aG _,iV trivial⟩
  | false =>
   rw [hf] at hs
   rw [we]
   refine ⟨⟨by simp only [lo];omega,by simp only [hi];omega⟩,k+1,⟨by omega,by omega⟩,?_⟩
   exact ⟨⟨by omega,by rw [hs];simp⟩,aG _,iV trivial⟩
 | false =>
  rw [we]
  have hk2:k=L.gens.length:=by have:=of_decide_eq_false hd;omega
  subst hk2
  refine sJ L (aG _) rfl ?_
  simp only [aQ,yay,yaz,yam,aT]
  exact ⟨trivial,trivial,rfl⟩
set_option maxRecDepth 20000
theorem Xi {a b c d e:Blk} {n sz m:Nat} {X:List Blk} {rows:List (List V)} (hm:m=rows.length):aU (a::b::c::d::e::(yaa n Blk.dead++.arr sz rows::X)) (fun _=>none) (.sl (n+5) 0 m)∧bO (a::b::c::d::e::(yaa n Blk.dead++.arr sz rows::X)) (fun _=>none) (.sl (n+5) 0 m)=.bro sz rows:=by
 subst hm
 have e1:blk (a::b::c::d::e::(yaa n Blk.dead++.arr sz rows::X)) (n+5)=.arr sz rows:=by rw [Iv];rfl
 constructor
 ·simp [aU,e1]
 ·simp [bO,e1]
theorem aeK (l:List Ck) (hl:l.length≤100000):Ok 27 [.bro 4 (l.map Ck.enc)] (fun r h=>IsA (.sl 0 0 l.length) [.arr 4 (l.map Ck.enc)] r h∨(l=[]∧IsA .nil [] r h)):=by
 refine cD lw27 (by simp) ?_
 unfold c27
 simp -implicitDefEqProofs only [rX,↓rY,aA,↓reduceIte,Nat.reduceEqDiff,reduceCtorEq,aE,cE,aB,aD,kill,St.kill,↓qbm,cxN,dM,aR,Nat.reduceEqDiff]
 have hA:∀ {x:V},cK [] 0 [eD.tmp 2] (fun r h=>IsA (.sl 0 0 l.length) [.arr 4 (l.map Ck.enc)] r h∨(l=[]∧IsA .nil [] r h)) ⟨[(2,V.sl 0 0 l.length),(7,V.sl 0 0 l.length),(6,V.bro 4 (yac Ck.enc l)),(5,V.any),(4,V.b false),(3,V.bro 4 (yac Ck.enc l)),(2,V.v (Value.slice none 0 0)),(0,V.bro 4 (yac Ck.enc l))],[Blk.arr 4 (yac Ck.enc l),Blk.dead],0⟩:=by
  intro x
  rw [cJ]
  simp -implicitDefEqProofs only [rX,↓reduceIte,aQ,aT,aF,aC,wfV]
  exact ⟨[.arr 4 (l.map Ck.enc)],⟨by simp [leH,leB],by simp [wfV,wfL,aC],by simp [wfB]⟩,.inl ⟨rfl,rfl⟩⟩
 refine ⟨fun _=>⟨.inr trivial,by omega,hA (x:=.any)⟩,fun h=>⟨?_,.inr trivial,by omega,hA (x:=.any)⟩⟩
 have h0:l=[]:=by simpa using h
 rw [cJ]
 simp -implicitDefEqProofs only [rX,↓reduceIte,aQ,aT,aF,wfV]
 exact ⟨[],⟨by simp [leH],by simp,by simp [wfB]⟩,.inr ⟨h0,rfl,rfl⟩⟩
theorem afU (l:List Ck) (hl:l.length≤100000):Ok 27 [.bro 4 (l.map Ck.enc)] (IsA (.sl 0 0 l.length) [.arr 4 (l.map Ck.enc)]):=by
 refine sP (aeK l hl) ?_
 rintro r h (⟨rfl,rfl⟩|⟨rfl,rfl,rfl⟩)
 ·exact ⟨_,_,⟨rfl,rfl⟩,_,.refl _,by simp -implicitDefEqProofs only [rX,↓reduceIte,leE,leH,leB,aF,aC,wfE,wfB,wfV]⟩
 ·refine ⟨_,_,⟨rfl,rfl⟩,_,.virt 1 4 (by decide) (.nilE 0 0 rfl (.refl _)),?_⟩
  simp -implicitDefEqProofs only [rX,↓reduceIte,leE,leH,leB,aF,aC,wfE,wfB,wfV,ybb]
theorem akM (l:List Ck) (hl:l.length≤100000):Ok 27 [.bro 4 (l.map Ck.enc)] (Is (.ro 4 (l.map Ck.enc))):=by
 refine ⟨eL lw27,rT (R:=fun q hs=>wk (.ro 4 (l.map Ck.enc)) (gvV (fun _=>true) hs q)) ?_ fun _ _ h=>h⟩
 refine (iR (afU l hl) ?_).2
 rintro r h ⟨rfl,rfl⟩
 have ht:yao l.length (l.map Ck.enc)=l.map Ck.enc:=yap (by simp)
 simp [gvV,gvL,wk,wkL,wkR,blk,ht]
theorem ok9 (L:Lg) (hl:L.found.length≤100000):OkL 9 [.ptr 0 0 0] L (fun r L'=>L'=L∧r=.ro 4 (L.found.map Ck.enc)):=by
 refine i9 lw9 (by simp) ?_
 unfold c9
 simp -implicitDefEqProofs only [rX,↓rY,aA,↓reduceIte,reduceCtorEq,cxN,lgH,aR]
 have hle:L.found.length=(L.found.map Ck.enc).length:=by rw [yae]
 refine aS (akM L.found hl) ⟨⟨(Xi hle).1,trivial⟩,⟨?_,trivial⟩⟩ rfl ⟨trivial,trivial,trivial,trivial,trivial,trivial⟩ ?_
 ·rw [(Xi hle).2]
  exact ⟨rfl,rfl⟩
 simp -implicitDefEqProofs only [rX,↓reduceIte]
 refine sJ L (aG _) rfl ?_
 simp only [aQ,yay,yaz,yam,aT]
 exact ⟨trivial,trivial,rfl⟩
set_option maxRecDepth 20000
def nE (s:Sec):Bs:=s.l.map UInt8.ofBitVec
theorem Et {s:Sec}:(nE s).length=64:=by unfold nE;rw [yae,s.h]
theorem uM {s:Sec}:us (nE s)=s.enc:=by
 unfold us nE Sec.enc
 rw [List.map_map]
 rfl
def Wj (b:Bs) (h:b.length=64):Sec:=⟨b.map UInt8.toBitVec,by rw [yae,h]⟩
theorem Cm {b:Bs} {h:b.length=64}:nE (Wj b h)=b:=by
 unfold nE Wj
 rw [List.map_map]
 exact List.map_id _
def flB (ss:List Sec):Bs:=ss.flatMap nE
theorem uX:∀ {ss:List Sec},(flB ss).length=64*ss.length
 | []=>rfl
 | s::r=>by
  have:=uX (ss:=r)
  unfold flB at this ⊢
  rw [List.flatMap_cons,yal,Et,this,ybp]
  omega
def rdA (ss:List Sec) (k:Nat):Bs:=flB (ss.take k)++yaa (512-64*k) 0
theorem Ju {ss:List Sec} {k:Nat} (h:ss.length=8) (hk:k≤8):(rdA ss k).length=512:=by
 unfold rdA
 rw [yal,uX,yaH,yaq,h]
 omega
theorem Uq {ss:List Sec} {k:Nat} (h:ss.length=8) (hk:k<8):iU (rdA ss k) (64*k) (nE (ss[k]'(by omega)))=rdA ss (k+1):=by
 have e1:yaa (512-64*k) (0:UInt8)=yaa 64 0++yaa (512-64*(k+1)) 0:=by
  rw [List.replicate_append_replicate];congr 1;omega
 have e2:flB (ss.take (k+1))=flB (ss.take k)++nE (ss[k]'(by omega)):=by
  unfold flB
  rw [yaJ,yah (by omega),ybC]
  simp
 have e3:(flB (ss.take k)).length=64*k:=by rw [uX,yaH];omega
 unfold rdA
 rw [e1,e2,←e3,oC (by rw [yaq,Et]),yav]
theorem xI {a b:Blk}:∀ {T:List Blk},leH (T++[a,b]) (T++[a])
 | []=>⟨aK a,trivial⟩
 | x::T=>⟨aK x,xI⟩
theorem afO (S:MS) (seg k:Int) (ss:List Sec) (hs:0≤seg∧seg≤100000) (hk:0≤k∧k≤100000) (hl:ss.length=8) (hr:∀ (j:Nat) (h:j<8),S.D.rd (seg*129+1+k*8+(j:Int))=(ss[j]'(by omega),0)) :
  OkD 34 [.ptr 0 0 0,.i seg,.i k] S (fun r S'=>S'=S∧r=.tup [.agg (us (flB ss)),.i 0]):=by
 refine nK lw34 (by simp) ?_
 unfold c34
 simp -implicitDefEqProofs only [rX,↓rY,aA,cells?,Nat.reduceAdd,aE,cxN,d1,fU,dkV,dkC,aR]
 refine a8 (fun i:Nat=>(⟨[(11,.i i),(6,.ptr ((dkT S.D).length+3) 0 0),(7,.i 0),(0,.ptr 0 0 0),(1,.i seg),(2,.i k)],dkV 0 S.D::dkC S.D::.map (bR 0 S.D S.L) S.c::(dkT S.D++[.var (us (rdA ss i))]),0⟩:St)) (fun i=>i≤8) (fun i=>8-i) 0 (yan _) ?_ ?_
 ·rw [zU 512]
  refine Qo S (Y:=[.var (us (rdA ss 0))]) ⟨rfl,rfl,rfl,rfl,rfl,rfl,trivial⟩ ?_ ⟨trivial,Fh (by simp),trivial,trivial,trivial,trivial,trivial⟩ ⟨eO,trivial⟩
  have e:rdA ss 0=yaa 512 0:=rfl
  rw [e]
  exact aG _
 intro i hi
 unfold c34l0
 simp -implicitDefEqProofs only [rX,↓rY,aA,cells?,splice,↓reduceIte,Nat.reduceEqDiff,reduceCtorEq,d1,fU,dkV,dkC,i5]
 cases hd:decide ((i:Int)<8) with
 | true =>
  have hi2:i<8:=by have:=of_decide_eq_true hd;omega
  rw [wd]
  refine aS (Zi seg k hs hk) ⟨⟨trivial,trivial,trivial⟩,rfl,rfl,trivial⟩ rfl ⟨trivial,trivial,trivial,trivial⟩ ?_
  simp -implicitDefEqProofs only [rX,↓rY,↓reduceIte,Nat.reduceEqDiff]
  refine ⟨by simp only [lo,Fx.hi];omega,?_⟩
  refine yJ (B:=[.var (us (rdA ss i)),.dead]) (S:=S) (afR S (seg*129+1+k*8+i)) (fun _ _=>⟨⟨trivial,trivial⟩,rfl,trivial⟩) (by simp) (by simp) (by simp [aD,iL]) (by simp [aB,kill,yag,S.T_len];omega) ?_
  rintro r S' hn ⟨rfl,rfl⟩
  rw [hr i hi2]
  refine ⟨fun g=>?_,?_⟩
  ·simp [ren,dO,Jk]
  simp -implicitDefEqProofs only [rX,↓rY,aA,cells?,splice,↓reduceIte,Nat.reduceEqDiff,Nat.reduceAdd,reduceCtorEq,aE,bW,leE,leH,leB,leV,cN,aF,aC,wfE,wfB,wfV,wfL,↓qbv,yaf,Lq,bV,Ai,d1,fU,nQ,o4,dkV,dkC,lA]
  have h0:((0:Int) != 0)=false:=rfl
  rw [h0,we]
  have hz:((i:Int)*64).toNat=64*i:=by omega
  have t1:yao (64-Int.toNat 0) (yaT (Int.toNat 0) ss[i].enc)=ss[i].enc:=fJ _
  have t2:yao (512-64*i) (yac (fun c=>[c]) ss[i].enc)=yac (fun c=>[c]) ss[i].enc:=yap (by rw [yae,bV];omega)
  have hA:=Ju (k:=i) hl (by omega)
  rw [hz,t1,t2,rK,←uM,pO,fS,hA,Uq hl hi2]
  refine ⟨⟨by simp only [lo];omega,by simp only [Fx.hi];omega⟩,⟨by omega,⟨by omega,by omega⟩,by omega⟩,⟨⟨by omega,by omega⟩,by omega⟩,⟨by decide,Ty⟩,.inr trivial,by omega,⟨by simp only [lo];omega,by simp only [Fx.hi];omega⟩,i+1,⟨by omega,by omega⟩,by omega,?_,?_⟩
  ·exact xI
  ·have:=S'.wf (p:=0) [] [.var (us (rdA ss (i+1)))] rfl (C:=[.var (us (rdA ss (i+1)))]) ⟨eO,trivial⟩
   exact ⟨this.2.1,this.2.2⟩
 | false =>
  have hi2:i=8:=by have:=of_decide_eq_false hd;omega
  subst hi2
  rw [we]
  have hA:=Ju (k:=8) hl (by omega)
  have h8:rdA ss 8=flB ss:=by
   unfold rdA
   rw [yap (by omega),List.replicate_zero,yak]
  rw [h8] at hA ⊢
  obtain ⟨u1,u2,u3⟩:=pP hA
  rw [u2,u1,u3,yak,pQ]
  refine ⟨yaj _,rfl,rfl,yaj _,?_⟩
  refine vP S (cL (h:=S.bs 0) (X:=[.var (us (flB ss))])) rfl ?_
  simp -implicitDefEqProofs only [rX,↓rY,↓reduceIte,Nat.reduceEqDiff,aQ,aT,wfV,wfL,d1,aQ,aT,u1,u2]
  exact eO
set_option maxRecDepth 20000
theorem aaJ {a b:Blk} {T X:List Blk}:(a::b::(T++X))[T.length+2]?=X[0]?:=by
 have:(a::b::(T++X))[T.length+2]?=(T++X)[T.length+0]?:=rfl
 rw [this,yau (by omega)];congr 1;omega
theorem aaI {a b:Blk} {T X:List Blk}:(a::b::(T++X))[T.length+3]?=X[1]?:=by
 have:(a::b::(T++X))[T.length+3]?=(T++X)[T.length+1]?:=rfl
 rw [this,yau (by omega)];congr 1;omega
theorem Yg {a b B:Blk} {T X:List Blk}:(a::b::(T++X)).set (T.length+3) B=a::b::(T++X.set 1 B):=by
 have:(a::b::(T++X)).set (T.length+3) B=a::b::((T++X).set (T.length+1) B):=rfl
 rw [this,yaF _ _ (by omega)];congr 4;omega
theorem aaY {S:MS} {X Y:List Blk}:S.bs 2++X++Y=S.bs 2++(X++Y):=yav ..
def lgM (L:Lg) (S:MS) (B:List Blk):List Blk:=.var [.ptr 2 0 0,.sl 1 0 L.gens.length,.i L.top,.i L.seq,.sl (L.cells.length+5) 0 L.found.length,.i L.seg,.i L.next]::.arr 1 (L.gens.map encI)::(S.bs 2++.arr 4 (L.found.map Ck.enc)::B)
theorem Ax {L:Lg} {B:List Blk}:lgX L B=lgM L L.S B:=by
 unfold lgX lgM
 rw [←L.T]
 rfl
theorem Ql {L:Lg}:lgH L=lgM L L.S []:=by
 rw [←Ax,←eC,yak]
theorem n7 {s:Sec} {H:List Blk} {g:Nat→Option Nat}:aJ H g s.enc∧wkL s.enc (aV H g s.enc):=by
 unfold Sec.enc
 generalize s.l=l
 induction l with
 | nil=>exact ⟨trivial,trivial⟩
 | cons x r ih=>exact ⟨⟨trivial,ih.1⟩,rfl,ih.2⟩
structure Wr (D:Dk) (f:Nat) (ss:List Sec) (k:Nat) (D':Dk):Prop where
 cells:D'.cells=D.cells
 after:D'.after=-1
 dead:D'.dead=false
 steps:D'.steps=D.steps+k
 op:∀ i,D'.op i=if f≤i∧i<f+k then [ss.getD (i-f) zS] else []
theorem Wr.zero {L:Lg} {f:Nat} {ss:List Sec}:Wr L.D f ss 0 L.D:=⟨rfl,rfl,rfl,rfl,fun i=>by rw [L.op,if_neg (by omega)]⟩
theorem Wr.chk {D D':Dk} {f k:Nat} {ss:List Sec} (h:Wr D f ss k D') {i:Int} (h0:0≤i) (h1:i<D.cells.length):D'.chk i=0:=by
 unfold Dk.chk
 have hn:(D'.n:Int)=D.cells.length:=by show (D'.cells.length:Int)=_;rw [h.cells]
 rw [if_neg (by rw [h.dead];decide),if_neg (by omega)]
theorem Wr.step {D D':Dk} {f k:Nat} {ss:List Sec} (h:Wr D f ss k D') (ho:D'.opn.length=D'.cells.length) (hk:f+k<D.cells.length):Wr D f ss (k+1) (D'.wrD ((f+k:Nat):Int) (ss.getD k zS))∧D'.wrE ((f+k:Nat):Int)=0:=by
 have hc:=h.chk (i:=((f+k:Nat):Int)) (by omega) (by omega)
 have hst:D'.stepE=0:=by unfold Dk.stepE;rw [if_neg (by rw [h.after];decide)]
 have hsD:D'.stepD={ D' with steps:=D'.steps+1 }:=by
  unfold Dk.stepD
  rw [if_neg (by rw [h.after];decide),h.after]
  rw [if_neg (by decide)]
 constructor
 ·have hw:D'.wrD ((f+k:Nat):Int) (ss.getD k zS)=D'.stepD.addD (f+k) (ss.getD k zS):=by
   unfold Dk.wrD
   rw [if_neg (by rw [hc];simp),if_neg (by rw [hst];simp),yaf]
  rw [hw,hsD]
  refine ⟨h.cells,h.after,h.dead,by show D'.steps+1=_;rw [h.steps];omega,fun i=>?_⟩
  rw [nX (by show _<D'.opn.length;rw [ho,h.cells];omega)]
  have e:∀ j,({ D' with steps:=D'.steps+1 }:Dk).op j=D'.op j:=fun j=>rfl
  rw [e,e]
  by_cases hi:i=f+k
  ·subst hi
   rw [if_pos rfl,if_pos (by omega),h.op,if_neg (by omega),ybc]
   rfl
  ·rw [if_neg hi,h.op]
   by_cases h2:f≤i∧i<f+k
   ·rw [if_pos h2,if_pos (by omega)]
   ·rw [if_neg h2,if_neg (by omega)]
 ·unfold Dk.wrE
  rw [if_neg (by rw [hc];simp),hst]
def lI (cs:List Cl) (f:Nat) (ss:List Sec):List Cl:=(yax cs.length).map fun i=>if f≤i∧i<f+ss.length then ⟨ss.getD (i-f) zS,false⟩ else cs.getD i zC
theorem dA {cs:List Cl} {f:Nat} {ss:List Sec}:(lI cs f ss).length=cs.length:=by unfold lI;simp
def Lg.wrote (L:Lg) (f:Nat) (ss:List Sec) (c:Nat):Lg:={ L with cells:=lI L.cells f ss,steps:=L.steps+ss.length+1,c:=c }
theorem Wr.sync {L:Lg} {f:Nat} {ss:List Sec} {S S':MS} (h:Wr L.D f ss ss.length S.D) (hn:0<L.cells.length) (hs:S'.D=S.D.syD):S.D.syE=0∧S'=(L.wrote f ss S'.c).S:=by
 have hc:=h.chk (i:=0) (by omega) (by show (0:Int)<L.cells.length;omega)
 have hst:S.D.stepE=0:=by unfold Dk.stepE;rw [if_neg (by rw [h.after];decide)]
 have hsD:S.D.stepD={ S.D with steps:=S.D.steps+1 }:=by
  have:=h.after
  unfold Dk.stepD
  rw [if_neg (by rw [h.after];decide),h.after]
  rw [if_neg (by decide)]
  cases hD:S.D
  rw [hD] at this
  simp only at this
  subst this
  rfl
 refine ⟨by unfold Dk.syE;rw [if_neg (by rw [hc];simp),hst],?_⟩
 have e1:S'.D=(L.wrote f ss S'.c).D:=by
  rw [hs]
  unfold Dk.syD
  rw [if_neg (by rw [hc];simp),if_neg (by rw [hst];simp),hsD]
  unfold Dk.allD Lg.wrote Lg.D
  have hcell:S.D.cells=L.cells:=h.cells
  have e2:∀ j,({ S.D with steps:=S.D.steps+1 }:Dk).op j=S.D.op j:=fun j=>rfl
  have e3:((yax S.D.cells.length).map fun i=>if S.D.op i=[] then S.D.cells.getD i zC else ⟨rD (S.D.op i),false⟩)=lI L.cells f ss:=by
   unfold lI
   rw [hcell]
   refine yaV fun i _=>?_
   rw [h.op]
   by_cases h2:f≤i∧i<f+ss.length
   ·rw [if_pos h2,if_pos h2,if_neg (by simp)];rfl
   ·rw [if_neg h2,if_neg h2,if_pos rfl]
  simp only [e2]
  rw [e3,h.after,h.dead,dA,hcell,h.steps]
  rfl
 have e4:S'.L=[]:=by
  cases hL:S'.L with
  | nil=>rfl
  | cons x r =>
   have:=((S'.ok.key x.1).1 (by rw [hL];simp)).2
   rw [e1,Lg.op] at this
   exact absurd rfl this
 obtain ⟨D',L',c',ok'⟩:=S'
 simp only at e1 e4
 subst e4
 have:(L.wrote f ss c').S=⟨(L.wrote f ss c').D,[],c',(L.wrote f ss c').S.ok⟩:=rfl
 rw [this]
 congr 1
section
variable {cx:Cx} {f:FuncId} {e:Env} {b:Nat} {K:V→St→Prop}
theorem u6 (L:Lg) (S:MS) (B:List Blk) (args xs:List V) (Q:V→MS→Prop) (hC:cx.C f (.ptr 0 0 0::xs) (S.bs 0) (yab 3 S.n) (QM S.n Q))
  (ha:∀ (H:List Blk) (g:Nat→Option Nat),aJ H g args∧wkL xs (aV H g args)) (hn:S.n=L.cells.length)
  (hbn:∀ k∈cx.bn,k<2) (hfx:cx.fx=[0,1,2,3,4])
  (hB:B.map (aD (yab 5 S.n))=B) (hE:aB (yab 5 S.n) e=e)
  (h3:∀ (r:V) (S':MS),S'.n=S.n→Q r S'→(∀ g,ren g r=r)∧K r ⟨e,lgM L S' B,b⟩):cF cx f (.ptr 2 0 0::args) ⟨e,lgM L S B,b⟩ K:=by
 refine Lo [.var [.ptr 2 0 0,.sl 1 0 L.gens.length,.i L.top,.i L.seq,.sl (L.cells.length+5) 0 L.found.length,.i L.seg,.i L.next],.arr 1 (L.gens.map encI)] (.arr 4 (L.found.map Ck.enc)::B) S args xs Q hC (ha _ _) (fun k hk=>.inl (hbn k hk)) (by rw [hfx];intro k hk;left;simp at hk;simp;omega) ?_ ?_ hE fun r S' h1 h2=>?_
 ·have h2:(2:Nat)∉yab (2+3) S.n:=fun h=>by have:=yag.1 h;omega
  have h1:(1:Nat)∉yab (2+3) S.n:=fun h=>by have:=yag.1 h;omega
  have h5:(L.cells.length+5:Nat)∉yab (2+3) S.n:=fun h=>by have:=yag.1 h;omega
  show [aD (yab (2+3) S.n) _,aD (yab (2+3) S.n) _]=_
  simp only [aD,bB,kill,if_neg h2,if_neg h1,if_neg h5]
 ·rw [yaw]
  show aD _ (.arr 4 _)::B.map (aD (yab (2+3) S.n))=_
  rw [show 2+3=5 from rfl,hB]
  rfl
 ·obtain ⟨q1,q2⟩:=h3 r S' h1 h2
  refine ⟨q1,?_,q2⟩
  rw [hfx]
  exact ⟨trivial,trivial,trivial,trivial,trivial,trivial⟩
end
theorem Ie {L:Lg} {S:MS} {X:List Blk}:aF [0,1,2,3,4] (lgM L S X):=⟨trivial,trivial,trivial,trivial,trivial,trivial⟩
theorem Ia {L:Lg} {S:MS} {X:List Blk} (hn:S.n=L.cells.length):aC (lgM L S X) (L.cells.length+5):=by
 have e:L.cells.length+5=(S.bs 2).length+2:=by rw [S.len];omega
 unfold aC
 rw [e]
 show (match (_::_::(S.bs 2++.arr 4 (L.found.map Ck.enc)::X))[(S.bs 2).length+2]? with|some .dead=>False|some _=>True|none=>False)
 rw [aaJ]
 trivial
theorem abF {L:Lg} {S:MS} {X:List Blk} (hn:S.n=L.cells.length) (hX:wfB (lgM L S X) X):wfB (lgM L S X) (lgM L S X):=by
 refine ⟨⟨trivial,trivial,trivial,trivial,Ia hn,trivial,trivial,trivial⟩,?_⟩
 exact S.wf [.var [.ptr 2 0 0,.sl 1 0 L.gens.length,.i L.top,.i L.seq,.sl (L.cells.length+5) 0 L.found.length,.i L.seg,.i L.next],.arr 1 (L.gens.map encI)] (.arr 4 (L.found.map Ck.enc)::X) rfl hX
theorem Xk {L:Lg} {S:MS} {h Y:List Blk} {e p:Env} {b b':Nat} (hn:S.n=L.cells.length) (he:leE e p) (hh:leH h (lgM L S Y)) (hwe:wfE (lgM L S Y) p) (hwb:wfB (lgM L S Y) Y):leS [0,1,2,3,4] ⟨e,h,b⟩ ⟨p,lgM L S Y,b'⟩:=⟨he,hh,Ie,hwe,abF hn hwb⟩
theorem afL (L:Lg) (f:Nat) (ss:List Sec) (hn:0<L.cells.length) (hf:f+ss.length≤L.cells.length) (hl:L.cells.length≤100000) (hs:L.steps≤1000000000000):OkL 41 [.ptr 0 0 0,.i f,.bro 64 (ss.map Sec.enc)] L (fun r L'=>(∃ c,L'=L.wrote f ss c)∧r=.i 0):=by
 refine i9 lw41 (by simp) ?_
 rw [Ql]
 unfold c41
 simp -implicitDefEqProofs only [rX,↓rY,aA,↓reduceIte,Nat.reduceEqDiff,Nat.reduceAdd,reduceCtorEq,cxN,lgM,aR,Nat.reduceEqDiff]
 intro hm
 refine a8 (fun g:Nat × MS=>(⟨[(12,.i g.1),(11,.i ss.length),(10,.bro 64 (ss.map Sec.enc)),(0,.ptr 0 0 0),(1,.i f)],lgM L g.2 [],0⟩:St)) (fun g=>g.1≤ss.length∧g.2.n=L.cells.length∧Wr L.D f ss g.1 g.2.D) (fun g=>ss.length-g.1) (0,L.S) ⟨yan _,rfl,Wr.zero⟩ ?_ ?_
 ·exact Xk rfl ⟨rfl,rfl,rfl,rfl,rfl,trivial⟩ (aG _) ⟨trivial,trivial,trivial,trivial,trivial,trivial⟩ trivial
 rintro ⟨k,S⟩ ⟨hk,hSn,hW⟩
 unfold c41l0
 simp -implicitDefEqProofs only [rX,↓rY,aA,cells?,splice,↓reduceIte,Nat.reduceEqDiff,Nat.reduceAdd,reduceCtorEq,aE,yai,yaf,aaI,Yg,aaY,lgM,bV,fJ,Ai,lA,Lq,Nat.reduceEqDiff]
 cases hd:decide ((k:Int)<(ss.length:Int)) with
 | true =>
  have hk2:k<ss.length:=by have:=of_decide_eq_true hd;omega
  rw [wd]
  have hgd:ss.getD k zS=ss[k]:=by rw [yad,yah hk2];rfl
  obtain ⟨hW2,hE2⟩:=hW.step (S.ok.len) (by show f+k<L.cells.length;omega)
  rw [hgd] at hW2
  have hsl:S.D.steps=L.steps+k:=hW.steps
  refine ⟨⟨by omega,by omega⟩,hk2,⟨by simp only [lo];omega,by simp only [hi];omega⟩,?_⟩
  rw [show (f:Int)+(k:Int)=((f+k:Nat):Int) by omega]
  refine u6 L S [.var ss[k].enc] [.i ((f+k:Nat):Int),.agg ss[k].enc] [.i ((f+k:Nat):Int),.agg ss[k].enc] _ (aeW S ((f+k:Nat):Int) ss[k] (by omega) (by rw [hW.after];decide) (fun j=>by rw [hW.op];split<;>simp)) (fun _ _=>⟨⟨trivial,n7.1,trivial⟩,rfl,n7.2,trivial⟩) hSn (by simp) rfl (by simp [aD,fK]) ?_ ?_
  ·simp [aB,kill,fK,yag,S.len]
   omega
  rintro r S' hn' ⟨hD',rfl⟩
  rw [hE2]
  refine ⟨fun g=>rfl,?_⟩
  simp -implicitDefEqProofs only [rX,↓rY,aA,↓reduceIte,Nat.reduceEqDiff,Nat.reduceAdd,reduceCtorEq,leE,leH,leB,leV,cN,aF,aC,wfE,wfB,wfV,wfL,lgM,Nat.reduceEqDiff]
  rw [show ((0:Int) != 0)=false from rfl,we]
  refine ⟨⟨by simp only [lo];omega,by simp only [hi];omega⟩,(k+1,S'),⟨⟨by show k+1≤_;omega,by show S'.n=_;rw [hn',hSn],by show Wr L.D f ss (k+1) S'.D;rw [hD'];exact hW2⟩,by show _-(k+1)<_;omega⟩,?_⟩
  have hn2:S'.n=L.cells.length:=by rw [hn',hSn]
  have hkp:=Ie (L:=L) (S:=S') (X:=[])
  have hw:=abF (L:=L) (S:=S') (X:=[]) hn2 trivial
  exact ⟨by show (k:Int)+1=((k+1:Nat):Int);omega,xI,⟨hkp.2.2.1,hkp.2.2.2.1,hkp.2.2.2.2.1⟩,⟨hw.1.1,Ia hn2⟩,hw.2⟩
 | false =>
  rw [we]
  have hk2:k=ss.length:=by have:=of_decide_eq_false hd;omega
  subst hk2
  obtain ⟨-,hsE⟩:True∧S.D.steps=L.steps+ss.length:=⟨trivial,hW.steps⟩
  refine u6 L S [] [] [] _ (aeU S (by omega) (by rw [hW.after];decide)) (fun _ _=>⟨trivial,trivial⟩) hSn (by simp) rfl rfl (by simp [aB,kill,yag]) ?_
  rintro r S' hn' ⟨hD',rfl⟩
  obtain ⟨hE,hS'⟩:=hW.sync hn hD'
  rw [hE]
  refine ⟨fun g=>rfl,?_⟩
  simp -implicitDefEqProofs only [rX,↓reduceIte]
  have hM:lgM L S' []=lgM (L.wrote f ss S'.c) (L.wrote f ss S'.c).S []:=by
   rw [←hS']
   unfold lgM Lg.wrote
   simp only [dA]
  rw [hM,←Ql]
  have hn5:(L.wrote f ss S'.c).n=L.n:=dA
  refine sJ (L.wrote f ss S'.c) (aG _) hn5 ?_
  simp only [aQ,yay,yaz,yam,aT]
  exact ⟨trivial,⟨_,rfl⟩,rfl⟩
set_option maxRecDepth 20000
structure WrG (D:Dk) (o:Nat→Option Sec) (k:Nat) (D':Dk):Prop where
 cells:D'.cells=D.cells
 after:D'.after=-1
 dead:D'.dead=false
 steps:D'.steps=D.steps+k
 op:∀ i,D'.op i=(o i).toList
theorem WrG.zero {L:Lg}:WrG L.D (fun _=>none) 0 L.D:=⟨rfl,rfl,rfl,rfl,fun i=>by rw [L.op];rfl⟩
theorem WrG.chk {D D':Dk} {k:Nat} {o:Nat→Option Sec} (h:WrG D o k D') {i:Int} (h0:0≤i) (h1:i<D.cells.length):D'.chk i=0:=by
 unfold Dk.chk
 have hn:(D'.n:Int)=D.cells.length:=by show (D'.cells.length:Int)=_;rw [h.cells]
 rw [if_neg (by rw [h.dead];decide),if_neg (by omega)]
theorem WrG.stepD {D D':Dk} {k:Nat} {o:Nat→Option Sec} (h:WrG D o k D'):D'.stepE=0∧D'.stepD={ D' with steps:=D'.steps+1 }:=by
 refine ⟨by unfold Dk.stepE;rw [if_neg (by rw [h.after];decide)],?_⟩
 unfold Dk.stepD
 rw [if_neg (by rw [h.after];decide),h.after]
 rw [if_neg (by decide)]
theorem WrG.step {D D':Dk} {k i:Nat} {o:Nat→Option Sec} {s:Sec} (h:WrG D o k D') (ho:D'.opn.length=D'.cells.length) (hi:i<D.cells.length) (hf:o i=none):WrG D (fun j=>if j=i then some s else o j) (k+1) (D'.wrD (i:Int) s)∧D'.wrE (i:Int)=0:=by
 have hc:=h.chk (i:=(i:Int)) (by omega) (by omega)
 obtain ⟨hst,hsD⟩:=h.stepD
 constructor
 ·have hw:D'.wrD (i:Int) s=D'.stepD.addD i s:=by
   unfold Dk.wrD
   rw [if_neg (by rw [hc];simp),if_neg (by rw [hst];simp),yaf]
  rw [hw,hsD]
  refine ⟨h.cells,h.after,h.dead,by show D'.steps+1=_;rw [h.steps];omega,fun j=>?_⟩
  rw [nX (by show _<D'.opn.length;rw [ho,h.cells];omega)]
  have e:∀ j,({ D' with steps:=D'.steps+1 }:Dk).op j=D'.op j:=fun j=>rfl
  rw [e,e]
  by_cases hj:j=i
  ·subst hj
   rw [if_pos rfl,h.op,hf]
   simp
  ·rw [if_neg hj,h.op]
   simp [hj]
 ·unfold Dk.wrE
  rw [if_neg (by rw [hc];simp),hst]
def uC (cs:List Cl) (o:Nat→Option Sec):List Cl:=(yax cs.length).map fun i=>match o i with
 | some s=>⟨s,false⟩
 | none=>cs.getD i zC
theorem iP {cs:List Cl} {o:Nat→Option Sec}:(uC cs o).length=cs.length:=by unfold uC;simp
def Lg.wroteG (L:Lg) (o:Nat→Option Sec) (k c:Nat):Lg:={ L with cells:=uC L.cells o,steps:=L.steps+k+1,c:=c }
theorem WrG.sync {L:Lg} {o:Nat→Option Sec} {k:Nat} {S S':MS} (h:WrG L.D o k S.D) (hn:0<L.cells.length) (hs:S'.D=S.D.syD):S.D.syE=0∧S'=(L.wroteG o k S'.c).S:=by
 have hc:=h.chk (i:=0) (by omega) (by show (0:Int)<L.cells.length;omega)
 obtain ⟨hst,hsD⟩:=h.stepD
 refine ⟨by unfold Dk.syE;rw [if_neg (by rw [hc];simp),hst],?_⟩
 have e1:S'.D=(L.wroteG o k S'.c).D:=by
  rw [hs]
  unfold Dk.syD
  rw [if_neg (by rw [hc];simp),if_neg (by rw [hst];simp),hsD]
  unfold Dk.allD Lg.wroteG Lg.D
  have hcell:S.D.cells=L.cells:=h.cells
  have e2:∀ j,({ S.D with steps:=S.D.steps+1 }:Dk).op j=S.D.op j:=fun j=>rfl
  have e3:((yax S.D.cells.length).map fun i=>if S.D.op i=[] then S.D.cells.getD i zC else ⟨rD (S.D.op i),false⟩)=uC L.cells o:=by
   unfold uC
   rw [hcell]
   refine yaV fun i _=>?_
   rw [h.op]
   cases o i with
   | some s=>rfl
   | none=>rfl
  simp only [e2]
  rw [e3,h.after,h.dead,iP,hcell,h.steps]
  rfl
 have e4:S'.L=[]:=by
  cases hL:S'.L with
  | nil=>rfl
  | cons x r =>
   have:=((S'.ok.key x.1).1 (by rw [hL];simp)).2
   rw [e1,Lg.op] at this
   exact absurd rfl this
 obtain ⟨D',L',c',ok'⟩:=S'
 simp only at e1 e4
 subst e4
 have:(L.wroteG o k c').S=⟨(L.wroteG o k c').D,[],c',(L.wroteG o k c').S.ok⟩:=rfl
 rw [this]
 congr 1
theorem Ns {L:Lg} {o:Nat→Option Sec} {k c:Nat} {S:MS} {B:List Blk}:lgM (L.wroteG o k c) S B=lgM L S B:=by
 unfold lgM Lg.wroteG
 simp only [iP]
def erO (s k:Nat):Nat→Option Sec:=fun i=>if (∃ j,j<k∧i=s*129+1+j*8) then some zS else none
theorem Ry {s k:Nat}:(fun j=>if j=s*129+1+k*8 then some zS else erO s k j)=erO s (k+1):=by
 funext j
 unfold erO
 by_cases h:j=s*129+1+k*8
 ·rw [if_pos h,if_pos ⟨k,by omega,h⟩]
 ·rw [if_neg h]
  by_cases h2:∃ i,i<k∧j=s*129+1+i*8
  ·obtain ⟨i,h3,h4⟩:=h2
   rw [if_pos ⟨i,h3,h4⟩,if_pos ⟨i,by omega,h4⟩]
  ·rw [if_neg h2,if_neg]
   rintro ⟨i,h3,h4⟩
   by_cases h5:i=k
   ·subst h5;exact h h4
   ·exact h2 ⟨i,by omega,h4⟩
theorem Rz {s k:Nat}:erO s k (s*129+1+k*8)=none:=by
 unfold erO
 rw [if_neg]
 rintro ⟨j,h1,h2⟩
 omega
def Lg.erased (L:Lg) (s c:Nat):Lg:=L.wroteG (erO s 16) 16 c
theorem Ge {L:Lg} {s c:Nat}:(L.erased s c).n=L.n:=iP
def Lg.gen (L:Lg) (s:Nat):Lg:={ L with top:=L.top+1,gens:=L.gens.set s (L.top+1) }
def hdS (seg gen:Int):Sec:=Wj (tR seg gen) Bc
theorem Kr {seg gen:Int}:us (tR seg gen)=(hdS seg gen).enc:=by
 rw [←uM]
 unfold hdS
 rw [Cm]
theorem agM {L:Lg} {sz m:Nat} {rows:List (List V)} {X:List Blk} (hm:m=rows.length):aU (lgX L (.arr sz rows::X)) (pos (yab 0 (5+(L.n+1)))) (.sl (L.cells.length+6) 0 m)∧bO (lgX L (.arr sz rows::X)) (pos (yab 0 (5+(L.n+1)))) (.sl (L.cells.length+6) 0 m)=.bro sz rows:=by
 subst hm
 have e1:blk (lgX L (.arr sz rows::X)) (L.cells.length+6)=.arr sz rows:=by
  unfold lgX
  rw [Dx]
  rfl
 have e2:pos (yab 0 (5+(L.n+1))) (L.cells.length+6)=none:=by
  rw [dI,if_neg]
  show ¬(0≤L.cells.length+6∧L.cells.length+6<0+(5+(L.cells.length+1)))
  omega
 constructor
 ·simp [aU,e1,e2]
 ·simp [bO,e1,e2]
theorem Nv {v:V} {sz:Nat} {rows:List (List V)} (h:v=.bro sz rows):wk (.bro sz rows) v:=by subst h;exact ⟨rfl,rfl⟩
theorem c47_parts:c47=.seq (pt 0 c47) (.seq (pt 1 c47) (rt 2 c47)):=by rfl
theorem t47 (L:Lg) (s:Nat) (n m:Nat) (hn:L.n=n) (hs:s<L.gens.length) (hg:L.gens.length≤700) (hc:129*L.gens.length≤L.cells.length∧L.cells.length≤100000) (ht:0≤L.top∧L.top≤2000000000000000000) (hst:L.steps≤1000000000000) {Q:V→Lg→Prop} {e:Env} {bb:Nat} {N:St→Prop} {X:Nat→St→Prop} (g0:get e 0=.ptr 0 0 0) (g1:get e 1=.i s)
  (hQ:∀ c,Q (.i 0) ((L.wrote (s*129) [hdS s (L.top+1)] c).gen s)):aw (cxN Tryz.prog [0,1,2,3,4]) (rt 2 c47) N X (cK [0,1,2,3,4] (5+(n+1)) [.tmp 4] (QF Lg.bs (5+(n+1)) Q)) ⟨e,lgX L [],bb⟩:=by
 conv=>arg 2;whnf
 unfold lgX
 simp -implicitDefEqProofs only [rX,↓rY,aA,cells?,splice,↓reduceIte,Nat.reduceEqDiff,Nat.reduceAdd,reduceCtorEq,isC,Nat.reduceLeDiff,cxN,dD,Nat.reduceEqDiff,g0,g1]
 refine ⟨⟨by simp only [lo];omega,by simp only [hi];omega⟩,⟨by simp only [lo];omega,by simp only [hi];omega⟩,?_⟩
 refine aS (afP s (L.top+1) (by
  intro x hx
  simp only [yaP,ybd,or_false] at hx
  rcases hx with rfl|rfl<;>omega)) ⟨⟨trivial,trivial,trivial⟩,rfl,rfl,trivial⟩ (by simp [ren,cU]) ⟨trivial,trivial,trivial,trivial,trivial,trivial⟩ ?_
 rw [Kr]
 simp -implicitDefEqProofs only [rX,↓rY,cells?,↓reduceIte,Nat.reduceEqDiff,aE,cE,Nat.reduceLT,dC,fT,Nat.reduceEqDiff,bV,Es]
 have hld:=agM (L:={ L with top:=L.top+1 }) (sz:=64) (m:=1) (rows:=[hdS s (L.top+1)].map Sec.enc) (X:=[]) rfl
 refine eT [.arr 64 ([hdS s (L.top+1)].map Sec.enc)] { L with top:=L.top+1 } [.i ((s*129:Nat):Int),.sl (L.cells.length+6) 0 1] [.i ((s*129:Nat):Int),.bro 64 ([hdS s (L.top+1)].map Sec.enc)] _ (afL { L with top:=L.top+1 } (s*129) [hdS s (L.top+1)] (by show 0<L.cells.length;omega) (by show _≤L.cells.length;simp only [List.length_singleton];omega) (by show L.cells.length≤_;omega) hst) ⟨⟨trivial,hld.1,trivial⟩,rfl,?_,trivial⟩ rfl rfl (by simp [aD]) ?_
 ·exact Nv hld.2
 rintro r L' hn' ⟨⟨c,rfl⟩,rfl⟩
 refine ⟨fun f=>rfl,?_⟩
 have g0':get (aB (yab 5 (L.n+1)) e) 0=.ptr 0 0 0:=by rw [aH,g0];simp [kill]
 have g1':get (aB (yab 5 (L.n+1)) e) 1=.i s:=by rw [aH,g1];rfl
 unfold lgX
 simp -implicitDefEqProofs only [rX,↓rY,aA,cells?,splice,↓reduceIte,Nat.reduceEqDiff,eG,Nat.reduceAdd,reduceCtorEq,aB,kill,St.kill,isD,isC,yai,yaf,lS,Nat.reduceEqDiff,g0',g1',Lg.wrote]
 rw [show ((0:Int) != 0)=false from rfl,we]
 refine ⟨⟨by omega,by omega⟩,hs,?_⟩
 have e2:(yac encI L.gens).set s [V.v (.int .i64 (L.top+1))]=(L.gens.set s (L.top+1)).map encI:=by rw [ybi];rfl
 have e3:L.gens.length=(L.gens.set s (L.top+1)).length:=by rw [yar]
 have hh:leH (lgX ((L.wrote (s*129) [hdS s (L.top+1)] c).gen s) [.arr 64 [(hdS s (L.top+1)).enc]]) (lgH ((L.wrote (s*129) [hdS s (L.top+1)] c).gen s)):=by
  rw [←eC]
  exact cL
 refine sJ ((L.wrote (s*129) [hdS s (L.top+1)] c).gen s) ?_ (by rw [←hn];exact dA) ?_
 ·rw [e2,e3]
  exact hh
 ·simp only [aQ,yay,yaz,yam,aT]
  exact ⟨trivial,hQ c⟩
set_option maxRecDepth 20000
theorem e47 (L:Lg) (s:Nat) (hs:s<L.gens.length) (hg:L.gens.length≤700) (hc:129*L.gens.length≤L.cells.length∧L.cells.length≤100000) (hst:L.steps≤100000000000) {bb:Nat} {N R:St→Prop} {X:Nat→St→Prop}
  (hN:∀ (L':Lg) (e':Env) (b':Nat),(∃ c,L'=if L.gens.getD s 0=0 then L.erased s c else L)→get e' 0=.ptr 0 0 0→get e' 1=.i s→N ⟨e',lgX L' [],b'⟩) :
  aw (cxN Tryz.prog [0,1,2,3,4]) (pt 1 c47) N X R ⟨[(4,.i 0),(0,.ptr 0 0 0),(1,.i s)],lgM L L.S [],bb⟩:=by
 conv=>arg 2;whnf
 simp -implicitDefEqProofs only [rX,↓rY,aA,↓reduceIte,Nat.reduceEqDiff,eG,reduceCtorEq,yai,yaf,cxN,pE,lgM,Nat.reduceEqDiff]
 refine ⟨⟨by omega,by omega⟩,hs,?_⟩
 cases hz:L.gens[s]==0 with
 | false =>
  rw [we]
  have hne:¬L.gens.getD s 0=0:=by
   rw [yad,yah hs]
   simpa using hz
  have h:=fun e' b' h0 h1=>hN L e' b' ⟨0,by rw [if_neg hne]⟩ h0 h1
  rw [Ax] at h
  exact h _ _ rfl rfl
 | true =>
  rw [wd]
  refine a8 (fun g:Nat × MS=>(⟨[(17,.i g.1),(0,.ptr 0 0 0),(1,.i s)],lgM L g.2 [],0⟩:St)) (fun g=>g.1≤16∧g.2.n=L.cells.length∧WrG L.D (erO s g.1) g.1 g.2.D) (fun g=>16-g.1) (0,L.S) ⟨yan _,rfl,?_⟩ ?_ ?_
  ·have h0:erO s 0=fun _=>none:=by
    funext i
    unfold erO
    rw [if_neg]
    rintro ⟨j,h,_⟩
    omega
   show WrG L.D (erO s 0) 0 L.D
   rw [h0]
   exact WrG.zero
  ·exact Xk rfl ⟨rfl,rfl,rfl,trivial⟩ (aG _) ⟨trivial,trivial,trivial,trivial⟩ trivial
  rintro ⟨k,S⟩ ⟨hk,hSn,hW⟩
  unfold c47l0
  simp -implicitDefEqProofs only [rX,↓rY,rdK,aA,↓reduceIte,Nat.reduceEqDiff,reduceCtorEq,bK,lgM,Js,Nat.reduceEqDiff]
  cases hd:decide ((k:Int)<16) with
  | true =>
   have hk2:k<16:=by have:=of_decide_eq_true hd;omega
   rw [wd]
   refine aS (Zi s k ⟨by omega,by omega⟩ ⟨by omega,by omega⟩) ⟨⟨trivial,trivial,trivial⟩,rfl,rfl,trivial⟩ rfl ⟨trivial,trivial,trivial,trivial,trivial,trivial⟩ ?_
   simp -implicitDefEqProofs only [rX,↓reduceIte,Nat.reduceEqDiff,Nat.reduceEqDiff]
   have hi:s*129+1+k*8<L.cells.length:=by omega
   obtain ⟨hW2,hE2⟩:=hW.step (s:=zS) S.ok.len (i:=s*129+1+k*8) hi Rz
   rw [Ry] at hW2
   have hsl:S.D.steps=L.steps+k:=hW.steps
   rw [show (s:Int)*129+1+(k:Int)*8=((s*129+1+k*8:Nat):Int) by omega]
   refine u6 L S [] [.i ((s*129+1+k*8:Nat):Int),.agg zS.enc] [.i ((s*129+1+k*8:Nat):Int),.agg zS.enc] _ (aeW S ((s*129+1+k*8:Nat):Int) zS (by omega) (by rw [hW.after];decide) (fun j=>by rw [hW.op];cases erO s k j<;>simp)) (fun _ _=>⟨⟨trivial,n7.1,trivial⟩,rfl,n7.2,trivial⟩) hSn (by simp) rfl rfl ?_ ?_
   ·simp [aB,kill,fK,yag,S.len]
   rintro r S' hn' ⟨hD',rfl⟩
   rw [hE2]
   refine ⟨fun g=>rfl,?_⟩
   simp -implicitDefEqProofs only [rX,↓rY,aA,↓reduceIte,Nat.reduceEqDiff,reduceCtorEq,leE,leH,leB,leV,cN,aF,aC,wfE,wfB,wfV,wfL,lgM,Nat.reduceEqDiff]
   rw [show ((0:Int) != 0)=false from rfl,we]
   have hn2:S'.n=L.cells.length:=by rw [hn',hSn]
   have hkp:=Ie (L:=L) (S:=S') (X:=[])
   have hw:=abF (L:=L) (S:=S') (X:=[]) hn2 trivial
   refine ⟨⟨by simp only [lo];omega,by simp only [Fx.hi];omega⟩,(k+1,S'),⟨⟨by show k+1≤16;omega,hn2,by show WrG L.D (erO s (k+1)) (k+1) S'.D;rw [hD'];exact hW2⟩,by show 16-(k+1)<16-k;omega⟩,?_⟩
   exact ⟨by show (k:Int)+1=((k+1:Nat):Int);omega,aG _,⟨hkp.2.2.1,hkp.2.2.2.1,hkp.2.2.2.2.1⟩,⟨hw.1.1,Ia hn2⟩,hw.2⟩
  | false =>
   have hk2:k=16:=by have:=of_decide_eq_false hd;omega
   subst hk2
   rw [we]
   have hsl:S.D.steps=L.steps+16:=hW.steps
   refine u6 L S [] [] [] _ (aeU S (by omega) (by rw [hW.after];decide)) (fun _ _=>⟨trivial,trivial⟩) hSn (by simp) rfl rfl (by simp [aB,kill,yag]) ?_
   rintro r S' hn' ⟨hD',rfl⟩
   obtain ⟨hE,hS'⟩:=hW.sync (by omega) hD'
   rw [hE]
   refine ⟨fun g=>rfl,?_⟩
   simp -implicitDefEqProofs only [rX,↓rY,aA,↓reduceIte,Nat.reduceEqDiff]
   rw [show ((0:Int) != 0)=false from rfl,we]
   have hyz:L.gens.getD s 0=0:=by
    rw [yad,yah hs]
    simpa using hz
   have h:=fun e' b' h0 h1=>hN (L.erased s S'.c) e' b' ⟨S'.c,by rw [if_pos hyz]⟩ h0 h1
   have hM:lgX (L.erased s S'.c) []=lgM L S' []:=by
    rw [Ax]
    show lgM (L.wroteG (erO s 16) 16 S'.c) (L.wroteG (erO s 16) 16 S'.c).S []=_
    rw [←hS',Ns]
   rw [hM] at h
   exact h _ _ rfl rfl
def Lg.ren (L:Lg) (s:Nat) (c c':Nat):Lg:=((if L.gens.getD s 0=0 then L.erased s c else L).wrote (s*129) [hdS s (L.top+1)] c').gen s
theorem afI (L:Lg) (s:Nat) (hs:s<L.gens.length) (hg:L.gens.length≤700) (hc:129*L.gens.length≤L.cells.length∧L.cells.length≤100000) (ht:0≤L.top∧L.top≤2000000000000000000) (hst:L.steps≤100000000000) :
  OkL 47 [.ptr 0 0 0,.i s] L (fun r L'=>r=.i 0∧∃ c c',L'=L.ren s c c'):=by
 refine i9 lw47 (by simp) ?_
 rw [Ql,c47_parts]
 simp -implicitDefEqProofs only [zb]
 conv=>arg 2;whnf
 simp -implicitDefEqProofs only [rX,aA,cxN,aR]
 refine e47 L s hs hg hc hst ?_
 rintro L' e' b' ⟨c,hL'⟩ g0 g1
 have hn:L'.n=L.n∧L'.gens=L.gens∧L'.top=L.top∧L'.steps≤L.steps+17:=by
  rw [hL']
  split
  ·exact ⟨Ge,rfl,rfl,by show L.steps+16+1≤_;omega⟩
  ·exact ⟨rfl,rfl,rfl,by omega⟩
 obtain ⟨hn1,hn2,hn3,hn4⟩:=hn
 refine t47 L' s L.n L.n hn1 (by rw [hn2];exact hs) (by rw [hn2];exact hg) (by rw [hn2];show _≤L'.n∧L'.n≤_;rw [hn1];exact hc) (by rw [hn3];exact ht) (by omega) g0 g1 ?_
 intro c'
 refine ⟨rfl,c,c',?_⟩
 rw [hn3]
 unfold Lg.ren
 rw [←hL']
set_option maxRecDepth 20000
structure Lg.Sm (L:Lg):Prop where
 g:L.gens.length≤700
 c:129*L.gens.length≤L.cells.length∧L.cells.length≤100000
 t:0≤L.top∧L.top≤2000000000000000000
 st:L.steps≤100000000000
 f:L.found.length≤100000
def Lg.took (L:Lg) (s c c':Nat):Lg:={ L.ren s c c' with seg:=s,next:=0 }
theorem Xb {L:Lg} {s c c':Nat}:(L.ren s c c').n=L.n:=by
 have:(if L.gens.getD s 0=0 then L.erased s c else L).n=L.n:=by
  split
  ·exact Ge
  ·rfl
 rw [←this]
 exact dA
theorem afM (L:Lg) (h:L.Sm):OkL 39 [.ptr 0 0 0] L (fun r L'=>(∃ s c c',s<L.gens.length∧L.free s=true∧(∀ i,i<s→L.free i=false)∧r=.i 0∧L'=L.took s c c')∨((∀ i,i<L.gens.length→L.free i=false)∧r=.i 140∧L'=L)):=by
 refine i9 lw39 (by simp) ?_
 unfold c39
 simp -implicitDefEqProofs only [rX,↓rY,aA,↓reduceIte,reduceCtorEq,cxN,lgH,aR]
 intro hm
 refine a8 (fun k:Nat=>(⟨[(10,.i k),(9,.i L.gens.length),(0,.ptr 0 0 0)],lgH L,0⟩:St)) (fun k=>k≤L.gens.length∧∀ i:Nat,i<k→L.free i=false) (fun k=>L.gens.length-k) 0 ⟨yan _,fun i hi=>absurd hi (ybq _)⟩ ?_ ?_
 ·refine ⟨⟨rfl,rfl,rfl,trivial⟩,aG _,?_,⟨trivial,trivial,trivial,trivial⟩,?_⟩
  ·have:=i3 (L:=L) (X:=[]);rw [yak] at this;exact this
  ·have:=nO (L:=L) (X:=[]) trivial;rw [yak] at this;exact this
 rintro k ⟨hk,hfr⟩
 unfold c39l0
 simp -implicitDefEqProofs only [rX,↓rY,aA,↓reduceIte,Nat.reduceEqDiff,reduceCtorEq,lgH,Nat.reduceEqDiff]
 cases hd:decide ((k:Int)<(L.gens.length:Int)) with
 | true =>
  rw [wd]
  have hk2:k<L.gens.length:=by have:=of_decide_eq_true hd;omega
  refine u5 [] L [.i k] [.i k] _ (afT L k h.f) ⟨⟨trivial,trivial⟩,⟨rfl,trivial⟩⟩ rfl rfl rfl (by simp [aB,kill]) ?_
  rintro r L'-⟨rfl,rfl⟩
  refine ⟨fun f=>rfl,?_⟩
  unfold lgX
  simp -implicitDefEqProofs only [rX,↓rY,aA,↓reduceIte,Nat.reduceEqDiff,reduceCtorEq,leE,leH,leB,leV,cN,aF,aC,wfE,wfB,wfV,wfL,mJ,Nat.reduceEqDiff]
  have hg:=h.g
  cases hf:L'.free (k:Int) with
  | false =>
   rw [Bool.not_false,wd]
   refine ⟨⟨by simp only [lo];omega,by simp only [hi];omega⟩,k+1,⟨⟨by omega,fun i hi=>?_⟩,by omega⟩,by omega,aG _,iV trivial⟩
   by_cases he:i=k
   ·subst he;exact hf
   ·exact hfr i (by omega)
  | true =>
   rw [Bool.not_true,we]
   refine u5 [] L' [.i k] [.i k] _ (afI L' k hk2 h.g h.c h.t h.st) ⟨⟨trivial,trivial⟩,⟨rfl,trivial⟩⟩ rfl rfl rfl (by simp [aB,kill]) ?_
   rintro r L₂ hn2 ⟨rfl,c,c',rfl⟩
   refine ⟨fun f=>rfl,?_⟩
   unfold lgX
   simp -implicitDefEqProofs only [rX,↓rY,aA,cells?,splice,↓reduceIte,Nat.reduceEqDiff,Nat.reduceAdd,reduceCtorEq,isC,Nat.reduceLeDiff,Nat.reduceEqDiff]
   rw [show ((0:Int) != 0)=false from rfl,we]
   refine sJ (L'.took k c c') (aG _) (Xb (L:=L') (s:=k) (c:=c) (c':=c')) ?_
   simp only [aQ,yay,yaz,yam,aT]
   exact ⟨trivial,.inl ⟨k,c,c',hk2,hf,hfr,rfl,rfl⟩⟩
 | false =>
  rw [we]
  have hk2:k=L.gens.length:=by have:=of_decide_eq_false hd;omega
  subst hk2
  refine sJ L (aG _) rfl ?_
  simp only [aQ,yay,yaz,yam,aT]
  refine ⟨trivial,.inr ⟨hfr,?_⟩⟩
  first|trivial|exact ⟨rfl,rfl⟩|exact ⟨trivial,rfl⟩|exact ⟨rfl,trivial⟩
set_option maxRecDepth 20000
theorem o9 {L:Lg} {X:List Blk}:aF [0,1,2,3,4] (lgX L X):=⟨trivial,trivial,trivial,trivial,trivial,trivial⟩
theorem abB {L:Lg} {X:List Blk} (hX:wfB (lgX L X) X):wfB (lgX L X) (lgX L X):=by
 rw [←eC] at hX ⊢
 exact nO hX
theorem Kg {L:Lg} {X Y:List Blk}:lgX L X++Y=lgX L (X++Y):=by
 unfold lgX
 simp only [yaI,yav]
theorem Aw {L:Lg} {X:List Blk} {j:Nat} (hj:∃ B,X[j]?=some B∧B≠.dead):aC (lgX L X) (L.cells.length+(j+6)):=by
 obtain ⟨B,h1,h2⟩:=hj
 unfold aC
 have e:(lgX L X)[L.cells.length+(j+6)]?=some B:=by
  show (_::_::_::_::_::(yaa L.cells.length Blk.dead++.arr 4 (L.found.map Ck.enc)::X))[L.cells.length+(j+6)]?=_
  have:(lgV 0 L::lgV 0 L::lgV 0 L::lgV 0 L::lgV 0 L::(yaa L.cells.length Blk.dead++.arr 4 (L.found.map Ck.enc)::X))[L.cells.length+(j+6)]?=(yaa L.cells.length Blk.dead++.arr 4 (L.found.map Ck.enc)::X)[L.cells.length+(j+1)]?:=rfl
  show (yaa L.cells.length Blk.dead++.arr 4 (L.found.map Ck.enc)::X)[L.cells.length+(j+1)]?=_
  rw [yau (by simp),yaq,ybc,yaZ,h1]
 rw [e]
 cases B<;>first|trivial|exact absurd rfl h2
theorem agL {L:Lg} {sz m j:Nat} {rows:List (List V)} {X:List Blk} (hj:X[j]?=some (.arr sz rows)) (hm:m=rows.length):aU (lgX L X) (pos (yab 0 (5+(L.n+1)))) (.sl (L.cells.length+(j+6)) 0 m)∧bO (lgX L X) (pos (yab 0 (5+(L.n+1)))) (.sl (L.cells.length+(j+6)) 0 m)=.bro sz rows:=by
 subst hm
 have e1:blk (lgX L X) (L.cells.length+(j+6))=.arr sz rows:=by
  show blk (_::_::_::_::_::(yaa L.cells.length Blk.dead++.arr 4 (L.found.map Ck.enc)::X)) _=_
  rw [blk,yad]
  show ((yaa L.cells.length Blk.dead++.arr 4 (L.found.map Ck.enc)::X)[L.cells.length+(j+1)]?).getD .dead=_
  rw [yau (by simp),yaq,ybc,yaZ,hj]
  rfl
 have e2:pos (yab 0 (5+(L.n+1))) (L.cells.length+(j+6))=none:=by
  rw [dI,if_neg]
  show ¬(0≤L.cells.length+(j+6)∧L.cells.length+(j+6)<0+(5+(L.cells.length+1)))
  omega
 constructor
 ·simp [aU,e1,e2]
 ·simp [bO,e1,e2]
theorem uT {n j i f:Nat} (h:6≤j):kill (yab 5 (n+1)) (.ptr (n+j) i f)=.ptr (n+j) i f:=by
 simp only [kill]
 rw [if_neg fun hm=>by have:=yag.1 hm;omega]
def cutS (b:Bs) (i:Nat):Sec:=if h:((b.drop (64*i)).take 64).length=64 then Wj ((b.drop (64*i)).take 64) h else zS
def eR (b:Bs) (k:Nat):List Sec:=(yax k).map (cutS b)
theorem Sv {b:Bs} {i:Nat} (hb:b.length=512) (hi:i<8):(cutS b i).enc=us ((b.drop (64*i)).take 64):=by
 have h:((b.drop (64*i)).take 64).length=64:=by rw [yaH,List.length_drop];omega
 unfold cutS
 rw [dif_pos h,←uM,Cm]
theorem Bl {b:Bs} {k:Nat}:eR b (k+1)=eR b k++[cutS b k]:=by
 unfold eR
 rw [ybo,yas];rfl
theorem gM {b:Bs} {k:Nat}:(eR b k).length=k:=by unfold eR;simp
theorem Do {b:Bs} (hb:b.length=512):∀ {k:Nat},k≤8→flB (eR b k)=b.take (64*k)
 | 0,_=>by simp [eR,flB]
 | k+1,h=>by
  have ih:=Do hb (k:=k) (by omega)
  have h1:nE (cutS b k)=(b.drop (64*k)).take 64:=by
   have h:((b.drop (64*k)).take 64).length=64:=by rw [yaH,List.length_drop];omega
   unfold cutS
   rw [dif_pos h,Cm]
  rw [Bl]
  unfold flB at ih ⊢
  rw [ybC,ih]
  simp only [List.flatMap_cons,List.flatMap_nil,yak,h1]
  rw [show 64*(k+1)=64*k+64 by omega,List.take_add]
def Lg.slot (L:Lg) (key data:Bs):b6:=⟨L.gens.getD L.seg.toNat 0,L.seq+1,key,data⟩
def Lg.at (L:Lg):Nat:=(L.seg*129+1+L.next*8).toNat
def Lg.app (L:Lg) (key data:Bs) (c:Nat):Lg :=
 { L.wrote L.at (eR (dS L.seg L.next (L.slot key data)) 8) c with seq:=L.seq+1,next:=L.next+1,found:=L.found++[⟨L.seg,L.next,L.seq+1,key⟩] }
theorem c16_parts:c16=.seq (pt 0 c16) (.seq (pt 1 c16) (.seq (pt 2 c16) (.seq (pt 3 c16) (.seq (pt 4 c16) (.seq (pt 5 c16) (.seq (pt 6 c16) (.seq (pt 7 c16) (.seq (pt 8 c16) (.seq (pt 9 c16) (.seq (pt 10 c16) (rt 11 c16))))))))))):=by rfl
section
variable {N R:St→Prop} {X:Nat→St→Prop} {e:Env} {bb:Nat} {L:Lg} {key data:Bs}
structure E16 (key data:Bs) (n:Nat) (e:Env):Prop where
 g0:get e 0=.ptr 0 0 0
 g1:get e 1=sv key
 g2:get e 2=sv data
 g6:get e 6=.ptr (n+6) 0 0
abbrev z3:Blk:=.var [.i 0,.i 0,.i 0]
theorem adQ (hE:E16 key data L.n e) (hq:0≤L.seq∧L.seq≤2000000000000000000) (hN:∀ e b,E16 key data L.n e→N ⟨e,lgX { L with seq:=L.seq+1 } [z3],b⟩):aw (cxN Tryz.prog [0,1,2,3,4]) (pt 3 c16) N X R ⟨e,lgX L [z3],bb⟩:=by
 obtain ⟨g0,g1,g2,g6⟩:=hE
 conv=>arg 2;whnf
 unfold lgX
 simp -implicitDefEqProofs only [rX,↓rY,aA,cells?,splice,↓reduceIte,Nat.reduceEqDiff,Nat.reduceAdd,isC,Nat.reduceLeDiff,cxN,Nat.reduceEqDiff,g0]
 exact ⟨⟨by simp only [lo];omega,by simp only [hi];omega⟩,hN _ _ ⟨g0,g1,g2,g6⟩⟩
theorem adP (hE:E16 key data L.n e) (hN:∀ e b,E16 key data L.n e→get e 9=.ptr (L.n+7) 0 0→N ⟨e,lgX L [z3,.var [.i L.seg,.i L.next,.i L.seq]],b⟩):aw (cxN Tryz.prog [0,1,2,3,4]) (pt 4 c16) N X R ⟨e,lgX L [z3],bb⟩:=by
 obtain ⟨g0,g1,g2,g6⟩:=hE
 conv=>arg 2;whnf
 unfold lgX
 simp -implicitDefEqProofs only [rX,↓rY,rdK,aA,cells?,splice,↓reduceIte,Nat.reduceEqDiff,Nat.reduceAdd,reduceCtorEq,aE,bK,isC,Nat.reduceLeDiff,cxN,gR,sA,dD,Nat.reduceEqDiff,g0]
 exact hN _ _ ⟨g0,g1,g2,g6⟩ rfl
theorem adO (hE:E16 key data L.n e) (g9:get e 9=.ptr (L.n+7) 0 0) (hsg:0≤L.seg∧L.seg<L.gens.length) (hgl:L.gens.length≤1000) (hnx:0≤L.next∧L.next≤100) (hok:(b6.mk (L.gens.getD L.seg.toNat 0) L.seq key data).Ok)
  (hN:∀ e b,E16 key data L.n e→get e 9=.ptr (L.n+7) 0 0→get e 10=.ptr (L.n+8) 0 0→N ⟨e,lgX L [z3,.var [.i L.seg,.i L.next,.i L.seq],.var (us (dS L.seg L.next ⟨L.gens.getD L.seg.toNat 0,L.seq,key,data⟩))],b⟩) :
  aw (cxN Tryz.prog [0,1,2,3,4]) (pt 5 c16) N X R ⟨e,lgX L [z3,.var [.i L.seg,.i L.next,.i L.seq]],bb⟩:=by
 obtain ⟨g0,g1,g2,g6⟩:=hE
 have g9':get e 9=.ptr (L.cells.length+7) 0 0:=g9
 have h64:In64 [L.seg,L.next]:=by
  intro x hx
  simp only [yaP,ybd,or_false] at hx
  rcases hx with rfl|rfl<;>omega
 conv=>arg 2;whnf
 unfold lgX
 simp -implicitDefEqProofs only [rX,↓rY,rdK,aA,cells?,splice,↓reduceIte,Nat.reduceEqDiff,eG,Nat.reduceAdd,reduceCtorEq,aE,bK,Nat.reduceLeDiff,yai,cxN,pE,dM,gR,j7,o0,dD,Nat.reduceEqDiff,g0,g9',g1,g2]
 have hlt:L.seg.toNat<L.gens.length:=by omega
 have hgd:L.gens.getD L.seg.toNat 0=L.gens[L.seg.toNat]:=by rw [yad,yah hlt];rfl
 rw [hgd] at hN hok
 obtain ⟨u1,u2,u3⟩:=pP (eQ (seg:=L.seg) (k:=L.next) (s:=⟨L.gens[L.seg.toNat],L.seq,key,data⟩))
 refine ⟨⟨hsg.1,hsg.2⟩,hlt,?_,?_⟩
 ·refine aS (Zj L.seg L.next ⟨L.gens[L.seg.toNat],L.seq,key,data⟩ h64 hok) ⟨⟨trivial,trivial,⟨trivial,trivial,trivial,trivial,trivial⟩,trivial⟩,rfl,rfl,⟨rfl,rfl,rfl,rfl,trivial⟩,trivial⟩ (by simp [ren,cU]) ⟨trivial,trivial,trivial,trivial,trivial,trivial⟩ ?_
  simp -implicitDefEqProofs only [rX,↓rY,aA,cells?,splice,↓reduceIte,Nat.reduceEqDiff,aE,j7,o0,Nat.reduceEqDiff,u1,pQ,zD 512 eQ]
  exact ⟨by simp,hN _ _ ⟨g0,g1,g2,g6⟩ g9 rfl⟩
 ·refine aS (Zj L.seg L.next ⟨L.gens[L.seg.toNat],L.seq,key,data⟩ h64 hok) ⟨⟨trivial,trivial,⟨trivial,trivial,trivial,trivial,trivial⟩,trivial⟩,rfl,rfl,⟨rfl,rfl,rfl,rfl,trivial⟩,trivial⟩ (by simp [ren,cU]) ⟨trivial,trivial,trivial,trivial,trivial,trivial⟩ ?_
  simp -implicitDefEqProofs only [rX,↓rY,cells?,splice,↓reduceIte,Nat.reduceEqDiff,j7,o0,Nat.reduceEqDiff,u1,pQ,zD 512 eQ]
  exact ⟨by simp,hN _ _ ⟨g0,g1,g2,g6⟩ g9 rfl⟩
abbrev h16 (L:Lg) (b:Bs):List Blk:=[z3,.var [.i L.seg,.i L.next,.i L.seq],.var (us b)]
theorem adN {b:Bs} (hE:E16 key data L.n e) (g9:get e 9=.ptr (L.n+7) 0 0) (g10:get e 10=.ptr (L.n+8) 0 0) (hN:∀ e b',E16 key data L.n e→get e 9=.ptr (L.n+7) 0 0→get e 10=.ptr (L.n+8) 0 0→get e 11=.nil→N ⟨e,lgX L (h16 L b),b'⟩):aw (cxN Tryz.prog [0,1,2,3,4]) (pt 6 c16) N X R ⟨e,lgX L (h16 L b),bb⟩:=by
 obtain ⟨g0,g1,g2,g6⟩:=hE
 conv=>arg 2;whnf
 simp -implicitDefEqProofs only [rX,aA,cxN]
 exact hN _ _ ⟨g0,g1,g2,g6⟩ g9 g10 rfl
theorem adM {b:Bs} (hb:b.length=512) (hE:E16 key data L.n e) (g9:get e 9=.ptr (L.n+7) 0 0) (g10:get e 10=.ptr (L.n+8) 0 0) (g11:get e 11=.nil) (hN:∀ e b',E16 key data L.n e→get e 9=.ptr (L.n+7) 0 0→get e 10=.ptr (L.n+8) 0 0→get e 11=.sl (L.n+9) 0 8→N ⟨e,lgX L (h16 L b++[.arr 64 ((eR b 8).map Sec.enc)]),b'⟩):aw (cxN Tryz.prog [0,1,2,3,4]) (pt 7 c16) N X R ⟨e,lgX L (h16 L b),bb⟩:=by
 obtain ⟨g0,g1,g2,g6⟩:=hE
 conv=>arg 2;whnf
 simp -implicitDefEqProofs only [rX,aA,cxN]
 have g9':get e 9=.ptr (L.cells.length+7) 0 0:=g9
 have g10':get e 10=.ptr (L.cells.length+8) 0 0:=g10
 have g6':get e 6=.ptr (L.cells.length+6) 0 0:=g6
 refine dV (.virt 1 64 (by decide) (.nilE 11 (L.cells.length+9) g11 (.refl _))) (fun k:Nat=>(⟨[(79,.i k),(11,.sl (L.cells.length+9) 0 k),(10,.ptr (L.cells.length+8) 0 0),(9,.ptr (L.cells.length+7) 0 0),(6,.ptr (L.cells.length+6) 0 0),(0,.ptr 0 0 0),(1,sv key),(2,sv data)],lgX L (h16 L b++[.arr 64 ((eR b k).map Sec.enc)]),0⟩:St)) (fun k=>k≤8) (fun k=>8-k) 0 (yan _) ?_ ?_
 ·refine ⟨⟨rfl,rfl,g10',g9',g6',g0,g1,g2,trivial⟩,?_,o9,⟨trivial,Aw (j:=3) ⟨_,rfl,by simp⟩,?_,?_,?_,trivial,trivial,trivial,trivial⟩,abB ?_⟩
  ·show leH (lgX L (h16 L b)++[.arr 64 []]) (lgX L (h16 L b++[.arr 64 []]))
   rw [Kg]
   exact aG _
  ·exact Aw (j:=2) ⟨_,rfl,by simp⟩
  ·exact Aw (j:=1) ⟨_,rfl,by simp⟩
  ·exact Aw (j:=0) ⟨_,rfl,by simp⟩
  ·exact ⟨⟨trivial,trivial,trivial,trivial⟩,⟨trivial,trivial,trivial,trivial⟩,eO,trivial⟩
 intro k hk
 unfold c16l0 lgX
 simp -implicitDefEqProofs only [rX,↓rY,kf,aA,cells?,↓reduceIte,Nat.reduceEqDiff,Nat.reduceAdd,reduceCtorEq,aE,bW,cE,leE,leH,leB,leV,cN,aF,aC,wfE,wfB,wfV,wfL,aB,aD,kill,bB,St.kill,Nat.reduceLT,mJ,dC,gR,j7,Ih,Hi,Rl,Oo,dD,lU,yaU,Nat.reduceEqDiff]
 cases hd:decide ((k:Int)<8) with
 | true =>
  have hk2:k<8:=by have:=of_decide_eq_true hd;omega
  rw [wd]
  have e1:((k:Int)*64).toNat=64*k:=by omega
  have e2:(((k:Int)+1)*64).toNat=64*k+64:=by omega
  have e3:yao 64 (yaT (64*k) (us b))=(cutS b k).enc:=by rw [Cd,uL,Sv hb hk2]
  have e4:yao k (yac Sec.enc (eR b k))=yac Sec.enc (eR b k):=yap (by rw [yae,gM];exact yaj _)
  rw [e1,e2,e3,e4,iL,fS,hb,gM,bV,Es]
  refine ⟨⟨by simp only [lo];omega,by simp only [hi];omega⟩,⟨by simp only [lo];omega,by simp only [hi];omega⟩,⟨by simp only [lo];omega,by simp only [hi];omega⟩,⟨by omega,⟨by omega,by omega⟩,by omega,by omega⟩,by omega,by omega,⟨rfl,rfl⟩,⟨by omega,by omega⟩,⟨by simp only [lo];omega,by simp only [hi];omega⟩,k+1,⟨by omega,by omega⟩,⟨by omega,rfl⟩,?_,?_⟩
  ·refine rB ⟨aK _,aK _,aK _,aK _,?_,trivial⟩
   rw [Bl,yas]
   exact aK _
  ·exact iV ⟨⟨trivial,trivial,trivial,trivial⟩,⟨trivial,trivial,trivial,trivial⟩,eO,trivial⟩
 | false =>
  have hk2:k=8:=by have:=of_decide_eq_false hd;omega
  subst hk2
  rw [we]
  exact hN _ _ ⟨rfl,rfl,rfl,rfl⟩ rfl rfl rfl
theorem adL {b:Bs} {B:List Blk} (hE:E16 key data L.n e) (g9:get e 9=.ptr (L.n+7) 0 0) (g11:get e 11=.sl (L.n+9) 0 8) (hnx:0≤L.next∧L.next≤100) (hN:∀ e b',E16 key data L.n e→get e 9=.ptr (L.n+7) 0 0→get e 11=.sl (L.n+9) 0 8→N ⟨e,lgX { L with next:=L.next+1 } B,b'⟩):aw (cxN Tryz.prog [0,1,2,3,4]) (pt 8 c16) N X R ⟨e,lgX L B,bb⟩:=by
 obtain ⟨g0,g1,g2,g6⟩:=hE
 conv=>arg 2;whnf
 unfold lgX
 simp -implicitDefEqProofs only [rX,↓rY,aA,cells?,splice,↓reduceIte,Nat.reduceEqDiff,Nat.reduceAdd,isC,cxN,Nat.reduceEqDiff,g0]
 exact ⟨⟨by simp only [lo];omega,by simp only [hi];omega⟩,hN _ _ ⟨g0,g1,g2,g6⟩ g9 g11⟩
theorem adK {b:Bs} {sg sl sq:Int} (hE:E16 key data L.n e) (g9:get e 9=.ptr (L.n+7) 0 0) (g11:get e 11=.sl (L.n+9) 0 8) (hsg:0≤sg∧sg≤1000) (hsl:0≤sl∧sl≤100) (hf:(sg*129+1+sl*8).toNat+8≤L.cells.length) (hl:L.cells.length≤100000) (hs:L.steps≤1000000000000)
  (hN:∀ e b' c,E16 key data L.n e→get e 9=.ptr (L.n+7) 0 0→N ⟨e,lgX (L.wrote (sg*129+1+sl*8).toNat (eR b 8) c) [z3,.var [.i sg,.i sl,.i sq],.var (us b),.arr 64 ((eR b 8).map Sec.enc)],b'⟩) :
  aw (cxN Tryz.prog [0,1,2,3,4]) (pt 9 c16) N X R ⟨e,lgX L [z3,.var [.i sg,.i sl,.i sq],.var (us b),.arr 64 ((eR b 8).map Sec.enc)],bb⟩:=by
 obtain ⟨g0,g1,g2,g6⟩:=hE
 have g9':get e 9=.ptr (L.cells.length+7) 0 0:=g9
 have g11':get e 11=.sl (L.cells.length+9) 0 8:=g11
 conv=>arg 2;whnf
 unfold lgX
 simp -implicitDefEqProofs only [rX,↓rY,↓reduceIte,Nat.reduceEqDiff,Nat.reduceAdd,cxN,gR,Nat.reduceEqDiff,g0,g9']
 refine aS (Zi sg sl ⟨by omega,by omega⟩ ⟨by omega,by omega⟩) ⟨⟨trivial,trivial,trivial⟩,rfl,rfl,trivial⟩ rfl ⟨trivial,trivial,trivial,trivial,trivial,trivial⟩ ?_
 simp -implicitDefEqProofs only [rX,↓reduceIte,Nat.reduceEqDiff,Nat.reduceEqDiff,g11']
 have hat:sg*129+1+sl*8=(((sg*129+1+sl*8).toNat:Nat):Int):=by omega
 rw [hat]
 have hld:=agL (L:=L) (sz:=64) (m:=8) (j:=3) (rows:=(eR b 8).map Sec.enc) (X:=[z3,.var [.i sg,.i sl,.i sq],.var (us b),.arr 64 ((eR b 8).map Sec.enc)]) rfl (by rw [yae,gM])
 refine eT [z3,.var [.i sg,.i sl,.i sq],.var (us b),.arr 64 ((eR b 8).map Sec.enc)] L [.i (((sg*129+1+sl*8).toNat:Nat):Int),.sl (L.cells.length+9) 0 8] [.i (((sg*129+1+sl*8).toNat:Nat):Int),.bro 64 ((eR b 8).map Sec.enc)] _ (afL L (sg*129+1+sl*8).toNat (eR b 8) (by omega) (by rw [gM];omega) hl hs) ⟨⟨trivial,hld.1,trivial⟩,rfl,Nv hld.2,trivial⟩ rfl rfl (by simp [aD,bB,kill,iL]) ?_
 rintro r L' hn' ⟨⟨c,rfl⟩,rfl⟩
 refine ⟨fun f=>rfl,?_⟩
 simp -implicitDefEqProofs only [rX,↓rY,aA,cells?,↓reduceIte,Nat.reduceEqDiff,bK,aB,kill,St.kill]
 rw [show ((0:Int) != 0)=false from rfl,we]
 have k0:get (aB (yab 5 (L.n+1)) e) 0=.ptr 0 0 0:=by rw [aH,g0];simp [kill]
 have k1:get (aB (yab 5 (L.n+1)) e) 1=sv key:=by rw [aH,g1];rfl
 have k2:get (aB (yab 5 (L.n+1)) e) 2=sv data:=by rw [aH,g2];rfl
 have k6:get (aB (yab 5 (L.n+1)) e) 6=.ptr (L.n+6) 0 0:=by rw [aH,g6];exact uT (by omega)
 have k9:get (aB (yab 5 (L.n+1)) e) 9=.ptr (L.n+7) 0 0:=by rw [aH,g9];exact uT (by omega)
 exact hN _ _ c ⟨k0,k1,k2,k6⟩ k9
theorem Yq {b:Bs} {sg sl sq:Int} (hE:E16 key data L.n e) (g9:get e 9=.ptr (L.n+7) 0 0) (hfl:L.found.length≤99999)
  (hN:∀ e b' Y,get e 6=.ptr (L.n+6) 0 0→get e 9=.ptr (L.n+7) 0 0→N ⟨e,lgX { L with found:=L.found++[⟨sg,sl,sq,key⟩] } (z3::.var [.i sg,.i sl,.i sq]::Y),b'⟩) :
  aw (cxN Tryz.prog [0,1,2,3,4]) (pt 10 c16) N X R ⟨e,lgX L [z3,.var [.i sg,.i sl,.i sq],.var (us b),.arr 64 ((eR b 8).map Sec.enc)],bb⟩:=by
 obtain ⟨g0,g1,g2,g6⟩:=hE
 have g9':get e 9=.ptr (L.cells.length+7) 0 0:=g9
 conv=>arg 2;whnf
 unfold lgX
 simp -implicitDefEqProofs only [rX,↓rY,rdK,cells?,splice,↓reduceIte,Nat.reduceEqDiff,Nat.reduceAdd,reduceCtorEq,aE,bK,cE,aB,aD,kill,bB,St.kill,isD,isC,Nat.reduceLT,Nat.reduceLeDiff,cxN,dM,mJ,Oq,gR,Rl,Oo,dD,lU,yaU,Nat.reduceEqDiff,g0,g9',g1]
 have e1:yao L.found.length (yac Ck.enc L.found)++[[V.i sg,V.i sl,V.i sq,V.v (Value.string (sb key))]]=(L.found++[(⟨sg,sl,sq,key⟩:Ck)]).map Ck.enc:=by
  rw [yap (by rw [yae];exact yaj _),yas]
  rfl
 have e2:L.found.length+1=(L.found++[(⟨sg,sl,sq,key⟩:Ck)]).length:=by rw [yal];rfl
 have k6:get (aB [L.cells.length+5] e) 6=.ptr (L.n+6) 0 0:=by rw [aH,g6];simp [kill]
 have k9:get (aB [L.cells.length+5] e) 9=.ptr (L.n+7) 0 0:=by rw [aH,g9];simp [kill]
 refine ⟨by omega,?_⟩
 rw [e1,e2]
 exact hN _ _ _ k6 k9
theorem Yp {sg sl sq:Int} {n:Nat} {Q:V→Lg→Prop} {Y:List Blk} (hn:L.n=n) (g6:get e 6=.ptr (L.n+6) 0 0) (g9:get e 9=.ptr (L.n+7) 0 0) (hQ:Q (.tup [.agg [.i sg,.i sl,.i sq],.i 0]) L) :
  aw (cxN Tryz.prog [0,1,2,3,4]) (rt 11 c16) N X (cK [0,1,2,3,4] (5+(n+1)) [.cell 6 (some 3),.tmp 7] (QF Lg.bs (5+(n+1)) Q)) ⟨e,lgX L (z3::.var [.i sg,.i sl,.i sq]::Y),bb⟩:=by
 have g9':get e 9=.ptr (L.cells.length+7) 0 0:=g9
 have g6':get e 6=.ptr (L.cells.length+6) 0 0:=g6
 conv=>arg 2;whnf
 unfold lgX
 simp -implicitDefEqProofs only [rX,↓rY,aA,cells?,splice,↓reduceIte,Nat.reduceEqDiff,Nat.reduceAdd,isC,cxN,dC,fT,gR,Nat.reduceEqDiff,g9',g6']
 have hh:leH (lgX L (.var [.i sg,.i sl,.i sq]::.var [.i sg,.i sl,.i sq]::Y)) (lgH L):=by
  rw [←eC]
  exact cL
 refine sJ L hh hn ?_
 simp -implicitDefEqProofs only [rX,↓rY,↓reduceIte,Nat.reduceEqDiff,Nat.reduceAdd,aQ,aT,wfV,wfL,dC,Nat.reduceEqDiff,aQ,aT,g6']
 exact hQ
end
set_option maxRecDepth 20000
theorem t16 {N:St→Prop} {X:Nat→St→Prop} {e:Env} {bb:Nat} {L:Lg} {key data:Bs} {n:Nat} {Q:V→Lg→Prop} (hn:L.n=n) (hE:E16 key data L.n e) (hsg:0≤L.seg∧L.seg<L.gens.length) (hgl:L.gens.length≤700) (hnx:0≤L.next∧L.next<16) (hc:129*L.gens.length≤L.cells.length∧L.cells.length≤100000)
  (hq:0≤L.seq∧L.seq≤2000000000000000000) (hs:L.steps≤1000000000000) (hfl:L.found.length≤99999) (hok:(L.slot key data).Ok)
  (hQ:∀ c,Q (.tup [.agg [.i L.seg,.i L.next,.i (L.seq+1)],.i 0]) (L.app key data c)) :
  aw (cxN Tryz.prog [0,1,2,3,4]) (rt 3 c16) N X (cK [0,1,2,3,4] (5+(n+1)) [.cell 6 (some 3),.tmp 7] (QF Lg.bs (5+(n+1)) Q)) ⟨e,lgX L [z3],bb⟩:=by
 have hp:rt 3 c16=.seq (pt 3 c16) (.seq (pt 4 c16) (.seq (pt 5 c16) (.seq (pt 6 c16) (.seq (pt 7 c16) (.seq (pt 8 c16) (.seq (pt 9 c16) (.seq (pt 10 c16) (rt 11 c16)))))))):=by rfl
 rw [hp]
 rw [zb]
 refine adQ hE hq fun e b hE=>?_
 rw [zb]
 refine adP (L:={ L with seq:=L.seq+1 }) hE fun e b hE g9=>?_
 rw [zb]
 refine adO (L:={ L with seq:=L.seq+1 }) hE g9 hsg (by show L.gens.length≤1000;omega) (by show 0≤L.next∧L.next≤100;omega) hok fun e b hE g9 g10=>?_
 rw [zb]
 refine adN (L:={ L with seq:=L.seq+1 }) hE g9 g10 fun e b hE g9 g10 g11=>?_
 rw [zb]
 refine adM (L:={ L with seq:=L.seq+1 }) eQ hE g9 g10 g11 fun e b hE g9 g10 g11=>?_
 rw [zb]
 refine adL (L:={ L with seq:=L.seq+1 }) (b:=dS L.seg L.next (L.slot key data)) hE g9 g11 (by show 0≤L.next∧L.next≤100;omega) fun e b hE g9 g11=>?_
 rw [zb]
 refine adK (L:={ L with seq:=L.seq+1,next:=L.next+1 }) (b:=dS L.seg L.next (L.slot key data)) (sg:=L.seg) (sl:=L.next) (sq:=L.seq+1) hE g9 g11 (by omega) (by omega) (by show _≤L.cells.length;omega) (by show L.cells.length≤_;omega) hs fun e b c hE g9=>?_
 have hwn:({ L with seq:=L.seq+1,next:=L.next+1 }:Lg).n=(({ L with seq:=L.seq+1,next:=L.next+1 }:Lg).wrote (L.seg*129+1+L.next*8).toNat (eR (dS L.seg L.next (L.slot key data)) 8) c).n:=dA.symm
 rw [hwn] at hE g9
 rw [zb]
 refine Yq (L:=({ L with seq:=L.seq+1,next:=L.next+1 }:Lg).wrote (L.seg*129+1+L.next*8).toNat (eR (dS L.seg L.next (L.slot key data)) 8) c) (b:=dS L.seg L.next (L.slot key data)) hE g9 hfl fun e b Y g6 g9=>?_
 refine Yp (L:=L.app key data c) (by rw [←hn];exact dA) g6 g9 (hQ c)
set_option maxRecDepth 20000
section
variable {N:St→Prop} {X:Nat→St→Prop} {e:Env} {bb:Nat} {L:Lg} {key data:Bs} {n:Nat} {Q:V→Lg→Prop}
theorem Jo {q:Int} (hn:L.n=n) (g6:get e 6=.ptr (L.cells.length+6) 0 0) (g7:get e 7=.i q) (hQ:Q (.tup [.agg [.i 0,.i 0,.i 0],.i q]) L):cK [0,1,2,3,4] (5+(n+1)) [.cell 6 (some 3),.tmp 7] (QF Lg.bs (5+(n+1)) Q) ⟨e,lgX L [z3],bb⟩:=by
 have hh:leH (lgX L [z3]) (lgH L):=by
  rw [←eC]
  exact cL
 refine sJ L hh hn ?_
 unfold lgX
 simp -implicitDefEqProofs only [rX,↓rY,Nat.reduceAdd,aQ,aT,wfV,wfL,dC,aQ,aT,g6,g7]
 exact hQ
theorem adS (hn:L.n=n) (hE:E16 key data L.n e) (hk:key.length≤100000∧data.length≤100000) (hQ:100<key.length∨360<data.length→Q (.tup [.agg [.i 0,.i 0,.i 0],.i 2]) L) (hN:¬(100<key.length∨360<data.length)→∀ e b,E16 key data L.n e→N ⟨e,lgX L [z3],b⟩) :
  aw (cxN Tryz.prog [0,1,2,3,4]) (pt 1 c16) N X (cK [0,1,2,3,4] (5+(n+1)) [.cell 6 (some 3),.tmp 7] (QF Lg.bs (5+(n+1)) Q)) ⟨e,lgX L [z3],bb⟩:=by
 obtain ⟨g0,g1,g2,g6⟩:=hE
 have g6':get e 6=.ptr (L.cells.length+6) 0 0:=g6
 conv=>arg 2;whnf
 unfold lgX
 simp -implicitDefEqProofs only [rX,↓rY,aA,cells?,splice,↓reduceIte,Nat.reduceEqDiff,Nat.reduceAdd,bK,isC,cxN,dX,dC,fT,Nat.reduceEqDiff,g1,g2,g6']
 cases h1:decide (100<(key.length:Int)) with
 | true =>
  rw [wd]
  exact Jo hn g6' rfl (hQ (.inl (by have:=of_decide_eq_true h1;omega)))
 | false =>
  have h1':=of_decide_eq_false h1
  rw [we]
  cases h2:decide (360<(data.length:Int)) with
  | true =>
   rw [wd]
   exact Jo hn g6' rfl (hQ (.inr (by have:=of_decide_eq_true h2;omega)))
  | false =>
   have h2':=of_decide_eq_false h2
   rw [we]
   exact hN (by omega) _ _ ⟨g0,g1,g2,g6⟩
def Lg.room (L L1:Lg):Prop:=(¬(L.seg<0∨L.next=16)∧L1=L)∨((L.seg<0∨L.next=16)∧∃ s c c',s<L.gens.length∧L.free s=true∧(∀ i:Nat,i<s→L.free i=false)∧L1=L.took s c c')
theorem adR (hn:L.n=n) (h:L.Sm) (hE:E16 key data L.n e) (hQ:(L.seg<0∨L.next=16)→(∀ i:Nat,i<L.gens.length→L.free i=false)→Q (.tup [.agg [.i 0,.i 0,.i 0],.i 140]) L) (hN:∀ L1 e b,L1.n=L.n→L.room L1→E16 key data L1.n e→N ⟨e,lgX L1 [z3],b⟩) :
  aw (cxN Tryz.prog [0,1,2,3,4]) (pt 2 c16) N X (cK [0,1,2,3,4] (5+(n+1)) [.cell 6 (some 3),.tmp 7] (QF Lg.bs (5+(n+1)) Q)) ⟨e,lgX L [z3],bb⟩:=by
 obtain ⟨g0,g1,g2,g6⟩:=hE
 have g6':get e 6=.ptr (L.cells.length+6) 0 0:=g6
 conv=>arg 2;whnf
 unfold lgX
 simp -implicitDefEqProofs only [rX,↓rY,aA,↓reduceIte,Nat.reduceEqDiff,Nat.reduceAdd,reduceCtorEq,cxN,Nat.reduceEqDiff,g0]
 have k0:get (aB (yab 5 (L.n+1)) e) 0=.ptr 0 0 0:=by rw [aH,g0];simp [kill]
 have k1:get (aB (yab 5 (L.n+1)) e) 1=sv key:=by rw [aH,g1];rfl
 have k2:get (aB (yab 5 (L.n+1)) e) 2=sv data:=by rw [aH,g2];rfl
 have k6:get (aB (yab 5 (L.n+1)) e) 6=.ptr (L.cells.length+6) 0 0:=by rw [aH,g6];exact uT (by omega)
 cases h1:decide (L.seg<0) with
 | true =>
  rw [wd]
  have hcd:L.seg<0∨L.next=16:=.inl (of_decide_eq_true h1)
  refine eT [z3] L [] [] _ (afM L h) ⟨trivial,trivial⟩ rfl rfl (by simp [aD,bB,kill]) ?_
  rintro r L1 hn1 (⟨s,c,c',h3,h4,h5,rfl,rfl⟩|⟨h3,rfl,rfl⟩)
  ·refine ⟨fun f=>rfl,?_⟩
   simp -implicitDefEqProofs only [rX,↓rY,aA,cells?,↓reduceIte,Nat.reduceEqDiff,bK,aB,kill,St.kill]
   rw [show ((0:Int) != 0)=false from rfl,we]
   have k6':get (aB (yab 5 (L.n+1)) e) 6=.ptr ((L.took s c c').n+6) 0 0:=by rw [hn1];exact k6
   exact hN _ _ _ hn1 (.inr ⟨hcd,s,c,c',h3,h4,h5,rfl⟩) ⟨k0,k1,k2,k6'⟩
  ·refine ⟨fun f=>rfl,?_⟩
   unfold lgX
   simp -implicitDefEqProofs only [rX,↓rY,aA,cells?,splice,↓reduceIte,Nat.reduceEqDiff,Nat.reduceAdd,bK,aB,kill,St.kill,isC,dC,fT,Nat.reduceEqDiff,k6]
   rw [show ((140:Int) != 0)=true from rfl,wd]
   exact Jo hn k6 rfl (hQ hcd h3)
 | false =>
  have h1':=of_decide_eq_false h1
  rw [we]
  cases h2:(L.next==16) with
  | true =>
   rw [wd]
   have hcd:L.seg<0∨L.next=16:=.inr (by simpa using h2)
   refine eT [z3] L [] [] _ (afM L h) ⟨trivial,trivial⟩ rfl rfl (by simp [aD,bB,kill]) ?_
   rintro r L1 hn1 (⟨s,c,c',h3,h4,h5,rfl,rfl⟩|⟨h3,rfl,rfl⟩)
   ·refine ⟨fun f=>rfl,?_⟩
    simp -implicitDefEqProofs only [rX,↓rY,aA,cells?,↓reduceIte,Nat.reduceEqDiff,bK,aB,kill,St.kill]
    rw [show ((0:Int) != 0)=false from rfl,we]
    have k6':get (aB (yab 5 (L.n+1)) e) 6=.ptr ((L.took s c c').n+6) 0 0:=by rw [hn1];exact k6
    exact hN _ _ _ hn1 (.inr ⟨hcd,s,c,c',h3,h4,h5,rfl⟩) ⟨k0,k1,k2,k6'⟩
   ·refine ⟨fun f=>rfl,?_⟩
    unfold lgX
    simp -implicitDefEqProofs only [rX,↓rY,aA,cells?,splice,↓reduceIte,Nat.reduceEqDiff,Nat.reduceAdd,bK,aB,kill,St.kill,isC,dC,fT,Nat.reduceEqDiff,k6]
    rw [show ((140:Int) != 0)=true from rfl,wd]
    exact Jo hn k6 rfl (hQ hcd h3)
  | false =>
   have h2':¬L.next=16:=by simpa using h2
   rw [we]
   exact hN L _ _ rfl (.inl ⟨by omega,rfl⟩) ⟨g0,g1,g2,g6⟩
end
set_option maxRecDepth 20000
theorem Uk {L L1:Lg} (h:L.Sm) (hr:L.room L1) (hsg:L.seg<L.gens.length) (hnx:0≤L.next∧L.next≤16) (hgi:∀ x∈L.gens,0≤x∧x≤2000000000000000000) :
  (0≤L1.seg∧L1.seg<L1.gens.length)∧L1.gens.length=L.gens.length∧(0≤L1.next∧L1.next<16)∧L1.seq=L.seq∧L1.steps≤L.steps+40∧L1.found=L.found∧∀ x∈L1.gens,0≤x∧x≤2000000000000000001:=by
 rcases hr with ⟨h1,rfl⟩|⟨h1,s,c,c',h2,h3,h4,rfl⟩
 ·exact ⟨by omega,rfl,by omega,rfl,by omega,rfl,fun x hx=>by have:=hgi x hx;omega⟩
 ·have hg:(L.took s c c').gens=L.gens.set s (L.top+1):=by
   unfold Lg.took Lg.ren Lg.gen Lg.wrote
   by_cases h0:L.gens.getD s 0=0
   ·simp only [if_pos h0];rfl
   ·simp only [if_neg h0]
  have hst:(L.took s c c').steps≤L.steps+40:=by
   unfold Lg.took Lg.ren Lg.gen Lg.wrote
   by_cases h0:L.gens.getD s 0=0
   ·simp only [if_pos h0]
    show L.steps+16+1+1+1≤_
    omega
   ·simp only [if_neg h0]
    show L.steps+1+1≤_
    omega
  have hf:(L.took s c c').found=L.found∧(L.took s c c').seq=L.seq:=by
   unfold Lg.took Lg.ren Lg.gen Lg.wrote
   by_cases h0:L.gens.getD s 0=0
   ·simp only [if_pos h0];exact ⟨rfl,rfl⟩
   ·simp only [if_neg h0];exact ⟨trivial,trivial⟩
  rw [hg]
  refine ⟨⟨by show (0:Int)≤s;omega,by show (s:Int)<_;rw [yar];omega⟩,yar,⟨by show (0:Int)≤0;omega,by show (0:Int)<16;omega⟩,hf.2,hst,hf.1,fun x hx=>?_⟩
  have ht:=h.t
  rcases ybD hx with h5|h5
  ·have:=hgi x h5;omega
  ·omega
theorem Zl (L:Lg) (key data:Bs) (h:L.Sm) (hk:key.length≤100000∧data.length≤100000) (hfl:L.found.length≤99999) (hq:0≤L.seq∧L.seq≤2000000000000000000) (hsg:L.seg<L.gens.length) (hnx:0≤L.next∧L.next≤16) (hgi:∀ x∈L.gens,0≤x∧x≤2000000000000000000) :
  OkL 16 [.ptr 0 0 0,sv key,sv data] L (fun r L'=>((100<key.length∨360<data.length)∧r=.tup [.agg [.i 0,.i 0,.i 0],.i 2]∧L'=L) ∨
   (¬(100<key.length∨360<data.length)∧(L.seg<0∨L.next=16)∧(∀ i:Nat,i<L.gens.length→L.free i=false)∧r=.tup [.agg [.i 0,.i 0,.i 0],.i 140]∧L'=L) ∨
   (¬(100<key.length∨360<data.length)∧∃ L1 c,L.room L1∧r=.tup [.agg [.i L1.seg,.i L1.next,.i (L1.seq+1)],.i 0]∧L'=L1.app key data c)):=by
 refine i9 lw16 (by simp) ?_
 rw [c16_parts,zb]
 conv=>arg 2;whnf
 simp -implicitDefEqProofs only [rX,↓rY,aA,cells?,Nat.reduceAdd,aE,cxN,dC,fT,dD,lgH,aR]
 refine adS rfl ⟨rfl,rfl,rfl,rfl⟩ hk (fun h1=>.inl ⟨h1,rfl,rfl⟩) fun hlim e b hE=>?_
 rw [zb]
 refine adR rfl h hE (fun h1 h2=>.inr (.inl ⟨hlim,h1,h2,rfl,rfl⟩)) fun L1 e b hn1 hr hE=>?_
 obtain ⟨r1,r2,r3,r4,r5,r6,r7⟩:=Uk h hr hsg hnx hgi
 have hst:=h.st
 have hg:=h.g
 refine t16 hn1 hE r1 (by omega) r3 (by show _≤L1.n∧L1.n≤_;rw [hn1,r2];exact h.c) (by omega) (by omega) (by rw [r6];exact hfl) ⟨?_,?_,hk.1,hk.2⟩ fun c=>.inr (.inr ⟨hlim,L1,c,hr,rfl,rfl⟩)
 ·show _≤L1.gens.getD L1.seg.toNat 0∧L1.gens.getD L1.seg.toNat 0≤_
  have hlt:L1.seg.toNat<L1.gens.length:=by omega
  rw [yad,yah hlt]
  have:=r7 _ (yaD hlt)
  show _≤L1.gens[L1.seg.toNat]∧L1.gens[L1.seg.toNat]≤_
  omega
 ·show _≤L1.seq+1∧L1.seq+1≤_
  omega
set_option maxRecDepth 20000
def nF {α:Type} (p:α→Bool) (l:List α):Int:=if l.any p then (l.findIdx p:Nat) else -1
structure NF {α:Type} (p:α→Bool) (l:List α) (k:Nat):Prop where
 h:∀ j (h:j<l.length),j<k→p l[j]=false
theorem NF.zero {α:Type} {p:α→Bool} {l:List α}:NF p l 0:=⟨fun _ _ h=>absurd h (ybq _)⟩
theorem NF.step {α:Type} {p:α→Bool} {l:List α} {k:Nat} (h:NF p l k) (hk:k<l.length) (hp:p l[k]=false):NF p l (k+1):=⟨fun j hj h2=>by
 by_cases h3:j=k
 ·subst h3;exact hp
 ·exact h.h j hj (by omega)⟩
theorem NF.at {α:Type} {p:α→Bool} {l:List α} {k:Nat} (h:NF p l k) (hk:k<l.length) (hp:p l[k]=true):nF p l=k:=by
 have h1:l.any p=true:=by
  rw [ybr];exact ⟨_,yaD hk,hp⟩
 have h2:l.findIdx p=k:=by
  rw [List.findIdx_eq hk]
  exact ⟨hp,fun j hj=>h.h j (by omega) hj⟩
 simp [nF,h1,h2]
theorem NF.any {α:Type} {p:α→Bool} {l:List α} {k:Nat} (h:NF p l k) (hk:l.length≤k):l.any p=false:=by
 rw [List.any_eq_false]
 intro y hy
 obtain ⟨j,hj,rfl⟩:=ybE hy
 simp [h.h j hj (by omega)]
theorem NF.no {α:Type} {p:α→Bool} {l:List α} {k:Nat} (h:NF p l k) (hk:l.length≤k):nF p l=-1:=by simp [nF,h.any hk]
theorem Vl {α:Type} {p:α→Bool} {l:List α} (h:l.any p=true):∃ k:Nat,nF p l=k∧∃ hk:k<l.length,p l[k]=true:=by
 have h1:l.findIdx p<l.length:=by
  rw [ybr] at h
  obtain ⟨x,hx,hp⟩:=h
  exact List.findIdx_lt_length_of_exists ⟨x,hx,hp⟩
 exact ⟨l.findIdx p,by simp [nF,h],h1,List.findIdx_getElem⟩
theorem Vk {α:Type} {p:α→Bool} {l:List α} (h:l.any p=false):nF p l=-1:=by simp [nF,h]
def Ck.isAt (a b c:Int) (x:Ck):Bool:=x.seg==a&&x.slot==b&&x.seq==c
theorem akI (x:Ck) (a b c:Int):OkN Tryz.prog 44 [.agg x.enc,.ptr 0 0 0] [.var [.i a,.i b,.i c]] [] (IsA (.b (x.isAt a b c)) [.var [.i a,.i b,.i c]]):=by
 refine e6 pol [0] lw44 (by simp) ⟨trivial,trivial⟩ (by simp) ?_
 unfold c44
 simp -implicitDefEqProofs only [rX,↓rY,aA,cells?,↓reduceIte,Nat.reduceEqDiff,Nat.reduceAdd,reduceCtorEq,aE,aQ,aT,leH,leB,leV,cN,aF,aC,wfB,wfV,wfL,Nat.reduceLeDiff,cxN,aR,Nat.reduceEqDiff,dJ,Ck.enc]
 refine ⟨⟨rfl,rfl⟩,⟨rfl,rfl⟩,⟨rfl,rfl⟩,?_⟩
 show (eqK (Value.int .i64 x.seg) (Value.int .i64 a)&&(eqK (Value.int .i64 x.slot) (Value.int .i64 b)&&(eqK (Value.int .i64 x.seq) (Value.int .i64 c)&&true)))=x.isAt a b c
 show ((x.seg==a)&&((x.slot==b)&&((x.seq==c)&&true)))=x.isAt a b c
 unfold Ck.isAt
 rw [Bool.and_true,Bool.and_assoc]
theorem akJ (l:List Ck) (hl:l.length≤100000) (a b c:Int):OkN Tryz.prog 43 [.bro 4 (l.map Ck.enc),.clo 44 [.ptr 0 0 0]] [.var [.i a,.i b,.i c]] [] (IsA (.i (nF (Ck.isAt a b c) l)) [.var [.i a,.i b,.i c]]):=by
 refine e6 pol [0] lw43 (by simp) ⟨trivial,trivial⟩ (by simp) ?_
 unfold c43
 simp -implicitDefEqProofs only [rX,↓rY,aA,↓reduceIte,reduceCtorEq,cxN,aR]
 intro hm
 refine a8 (fun k:Nat=>⟨[(8,.i k),(7,.i l.length),(1,.clo 44 [.ptr 0 0 0]),(0,.bro 4 (l.map Ck.enc))],[.var [.i a,.i b,.i c]],0⟩) (fun k=>k≤l.length∧NF (Ck.isAt a b c) l k) (fun k=>l.length-k) 0 ⟨by omega,.zero⟩ ?_ ?_
 ·simp -implicitDefEqProofs only [rX,↓reduceIte,Nat.reduceEqDiff,reduceCtorEq,leE,leH,leB,leV,cN,aF,aC,wfE,wfB,wfV,wfL,Nat.reduceEqDiff,Int.natCast_zero]
 rintro k ⟨hk,hv⟩
 unfold c43l0
 simp -implicitDefEqProofs only [rX,↓rY,aA,↓reduceIte,Nat.reduceEqDiff,reduceCtorEq,yai,yaf,j9,hU,Nat.reduceEqDiff]
 simp only [br,yaf,decide_eq_true_eq,decide_eq_false_iff_not]
 refine ⟨fun h=>⟨⟨by omega,h⟩,by omega,?_⟩,fun h=>?_⟩
 ·have hk:k<l.length:=by omega
  refine eU [0] [.agg l[k].enc,.ptr 0 0 0] (.b (l[k].isAt a b c)) (.b (l[k].isAt a b c)) [.var [.i a,.i b,.i c]] [.var [.i a,.i b,.i c]] _ (akI l[k] a b c) ⟨by simp,by simp⟩ rfl ?_ (by simp) rfl rfl ?_ ?_
  ·simp [aJ,aU,aV,bO,wkL,wk,wkR,pos,Ck.enc]
  ·simp [aY,aF,aC,bD]
  cases hb:l[k].isAt a b c with
  | true =>
   simp -implicitDefEqProofs only [rX,↓rY,↓reduceIte,Nat.reduceEqDiff,aQ,aT,leH,leB,leV,cN,aF,aC,wfB,wfV,wfL,Nat.reduceEqDiff,aY,bD,dJ,dO,ren]
   exact (hv.at (p:=Ck.isAt a b c) hk hb).symm
  | false =>
   simp -implicitDefEqProofs only [rX,↓rY,aA,↓reduceIte,Nat.reduceEqDiff,reduceCtorEq,leE,leH,leB,leV,cN,aF,aC,wfE,wfB,wfV,wfL,Nat.reduceEqDiff,aY,bD,dO,ren]
   exact ⟨by simp only [lo,hi,maxLen] at *;omega,k+1,⟨⟨by omega,hv.step hk hb⟩,by omega⟩,by simp⟩
 ·simp -implicitDefEqProofs only [rX,↓reduceIte,aQ,aT,leH,leB,leV,cN,aF,aC,wfB,wfV,wfL,dJ]
  exact (hv.no (by omega)).symm
set_option maxRecDepth 20000
structure It where
 c:Ck
 data:Bs
 deriving DecidableEq
def It.enc (x:It):List V:=[.i x.c.seg,.i x.c.slot,.i x.c.seq,sv x.c.key,sv x.data]
structure Md where
 l:List It
 segs:Int
 seg:Int
 next:Int
def itF (l:List It) (s:Int):List It:=l.filter fun x=>x.c.seg==s
def Md.inN (m:Md) (s:Int):Nat:=(itF m.l s).length
theorem Kn {l:List It} {s:Int}:(itF l s).map It.c=inL (l.map It.c) s:=by
 unfold itF inL
 rw [List.filter_map]
 rfl
def Md.fr (m:Md) (s:Int):Bool:=s != m.seg&&m.inN s==0
def cM (seg slot:Int):Nat:=(seg*129+1+slot*8).toNat
structure Ee (L:Lg) (x:It):Prop where
 sg:0≤x.c.seg∧x.c.seg<L.gens.length
 sl:0≤x.c.slot∧x.c.slot<16
 sq:1≤x.c.seq∧x.c.seq≤L.seq
 gn:1≤L.gens.getD x.c.seg.toNat 0
 key:x.c.key.length≤100
 dat:x.data.length≤360
 cl:∀ j,j<8→L.cells[cM x.c.seg x.c.slot+j]?=some ⟨cutS (dS x.c.seg x.c.slot ⟨L.gens.getD x.c.seg.toNat 0,x.c.seq,x.c.key,x.data⟩) j,false⟩
structure Inv (m:Md) (L:Lg) (B:Nat):Prop where
 fnd:L.found=m.l.map It.c
 seg:L.seg=m.seg
 nxt:0≤m.seg→L.next=m.next
 sg:-1≤m.seg∧m.seg<L.gens.length
 nx:0≤L.next∧L.next≤16
 gl:1≤L.gens.length∧L.gens.length≤700
 sgs:m.segs=L.gens.length
 cl:129*L.gens.length≤L.cells.length∧L.cells.length≤100000
 bad:∀ c∈L.cells,c.bad=false
 gp:∀ x∈L.gens,0≤x∧x≤B
 tp:0≤L.top∧L.top≤B
 sq:0≤L.seq∧L.seq≤B
 st:L.steps≤100*B
 fl:m.l.length≤B
 its:∀ x∈m.l,Ee L x
 asc:m.l.Pairwise fun x y=>x.c.seq<y.c.seq
 cur:∀ x∈m.l,x.c.seg=m.seg→x.c.slot<L.next
 cnt:∀ s,m.inN s≤16
 cnx:0≤m.seg→(m.inN m.seg:Int)≤L.next
 gcu:0≤m.seg→1≤L.gens.getD m.seg.toNat 0
theorem Inv.Sm {m:Md} {L:Lg} {B:Nat} (h:Inv m L B) (hB:B≤100000):L.Sm:=⟨h.gl.2,h.cl,⟨h.tp.1,by have:=h.tp;omega⟩,by have:=h.st;omega,by rw [h.fnd,yae];have:=h.fl;omega⟩
theorem Inv.free {m:Md} {L:Lg} {B:Nat} (h:Inv m L B) {s:Int}:L.free s=m.fr s:=by
 unfold Lg.free Md.fr Md.inN
 rw [h.seg,h.fnd,←Kn,yae]
theorem Inv.mono {m:Md} {L:Lg} {B B':Nat} (h:Inv m L B) (hB:B≤B'):Inv m L B' :=
 ⟨h.fnd,h.seg,h.nxt,h.sg,h.nx,h.gl,h.sgs,h.cl,h.bad,fun x hx=>by have:=h.gp x hx;omega,by have:=h.tp;omega,by have:=h.sq;omega,by have:=h.st;omega,by have:=h.fl;omega,h.its,h.asc,h.cur,h.cnt,h.cnx,h.gcu⟩
theorem lH {cs:List Cl} {f:Nat} {ss:List Sec} {i:Nat} (hi:i<cs.length):(lI cs f ss)[i]?=if f≤i∧i<f+ss.length then some ⟨ss.getD (i-f) zS,false⟩ else cs[i]?:=by
 unfold lI
 rw [ybs,ybt hi]
 simp only [Option.map_some]
 split
 ·rfl
 ·rw [yad,yah hi];rfl
theorem sM {cs:List Cl} {f:Nat} {ss:List Sec} {i:Nat} (hi:¬i<cs.length):(lI cs f ss)[i]?=none:=by
 rw [yaR];rw [dA];omega
theorem Ff {cs:List Cl} {o:Nat→Option Sec} {i:Nat} (hi:i<cs.length):(uC cs o)[i]?=match o i with
  | some s=>some ⟨s,false⟩
  | none=>cs[i]?:=by
 unfold uC
 rw [ybs,ybt hi]
 simp only [Option.map_some]
 cases o i with
 | some s=>rfl
 | none =>
  simp only
  rw [yad,yah hi];rfl
theorem Dz {cs:List Cl} {f:Nat} {ss:List Sec} (h:∀ c∈cs,c.bad=false):∀ c∈lI cs f ss,c.bad=false:=by
 intro c hc
 unfold lI at hc
 obtain ⟨i,hi,rfl⟩:=yaQ.1 hc
 split
 ·rfl
 ·have hi2:i<cs.length:=by simpa using hi
  rw [yad,yah hi2]
  exact h _ (yaD hi2)
theorem Te {cs:List Cl} {o:Nat→Option Sec} (h:∀ c∈cs,c.bad=false):∀ c∈uC cs o,c.bad=false:=by
 intro c hc
 unfold uC at hc
 obtain ⟨i,hi,rfl⟩:=yaQ.1 hc
 split
 ·rfl
 ·have hi2:i<cs.length:=by simpa using hi
  rw [yad,yah hi2]
  exact h _ (yaD hi2)
structure Wn (L L':Lg) (s:Nat):Prop where
 gens:L'.gens=L.gens.set s (L.top+1)
 top:L'.top=L.top+1
 seq:L'.seq=L.seq
 found:L'.found=L.found
 steps:L'.steps≤L.steps+40
 len:L'.cells.length=L.cells.length
 bad:(∀ c∈L.cells,c.bad=false)→∀ c∈L'.cells,c.bad=false
 far:∀ i:Nat,(i<s*129∨s*129+129≤i)→L'.cells[i]?=L.cells[i]?
theorem iZ {L:Lg} {s c c':Nat}:Wn L (L.ren s c c') s:=by
 have h:Wn L ((L.wrote (s*129) [hdS s (L.top+1)] c').gen s) s:=by
  refine ⟨rfl,rfl,rfl,rfl,?_,dA,fun h=>Dz h,fun i hi=>?_⟩
  ·show L.steps+1+1≤_
   omega
  ·show (lI L.cells (s*129) [hdS s (L.top+1)])[i]?=_
   by_cases hl:i<L.cells.length
   ·rw [lH hl,if_neg (by simp only [ybp,yaO];omega)]
   ·rw [sM hl,yaR (by omega)]
 unfold Lg.ren
 by_cases h0:L.gens.getD s 0=0
 ·rw [if_pos h0]
  refine ⟨rfl,rfl,rfl,rfl,?_,?_,fun h=>Dz (Te h),fun i hi=>?_⟩
  ·show L.steps+16+1+1+1≤_
   omega
  ·show (lI (uC L.cells (erO s 16)) _ _).length=_
   rw [dA,iP]
  ·show (lI (uC L.cells (erO s 16)) (s*129) [hdS s (L.top+1)])[i]?=_
   by_cases hl:i<L.cells.length
   ·rw [lH (by rw [iP];exact hl),if_neg (by simp only [ybp,yaO];omega),Ff hl]
    have:erO s 16 i=none:=by
     unfold erO
     rw [if_neg]
     rintro ⟨j,h1,h2⟩
     omega
    rw [this]
   ·rw [sM (by rw [iP];exact hl),yaR (by omega)]
 ·rw [if_neg h0]
  exact h
theorem Wn.held {L L':Lg} {s:Nat} {x:It} (h:Wn L L' s) (hx:Ee L x) (hs:x.c.seg≠s):Ee L' x:=by
 have h1:=hx.sg
 have h2:=hx.sl
 have hg:L'.gens.getD x.c.seg.toNat 0=L.gens.getD x.c.seg.toNat 0:=by
  rw [h.gens,yad,yad,ybF (by omega)]
 refine ⟨by rw [h.gens,yar];exact h1,h2,by rw [h.seq];exact hx.sq,by rw [hg];exact hx.gn,hx.key,hx.dat,fun j hj=>?_⟩
 rw [hg,h.far _ (by unfold cM;omega)]
 exact hx.cl j hj
theorem Gc {l:List Int} {s:Nat} {t:Int} {B:Nat} (h:∀ x∈l,0≤x∧x≤B) (ht:0≤t∧t≤B):∀ x∈l.set s (t+1),0≤x∧x≤((B+1:Nat):Int):=by
 intro x hx
 rcases ybD hx with h5|h5
 ·have:=h x h5;omega
 ·omega
theorem Inv.took {m:Md} {L:Lg} {B s c c':Nat} (h:Inv m L B) (hs:s<L.gens.length) (hf:L.free s=true):Inv { m with seg:=s,next:=0 } (L.took s c c') (B+1):=by
 have hr:=iZ (L:=L) (s:=s) (c:=c) (c':=c')
 have hno:m.inN s=0:=by
  rw [h.free] at hf
  unfold Md.fr at hf
  simp only [Bool.and_eq_true,beq_iff_eq] at hf
  exact hf.2
 have hne:∀ x∈m.l,x.c.seg≠s:=by
  intro x hx he
  unfold Md.inN itF at hno
  rw [List.length_eq_zero_iff,ybu] at hno
  exact hno x hx (by simpa using he)
 refine ⟨hr.found.trans h.fnd,rfl,fun _=>rfl,⟨by show (-1:Int)≤s;omega,by show (s:Int)<(L.ren s c c').gens.length;rw [hr.gens,yar];omega⟩,⟨by show (0:Int)≤0;omega,by show (0:Int)≤16;omega⟩,by show 1≤(L.ren s c c').gens.length∧(L.ren s c c').gens.length≤700;rw [hr.gens,yar];exact h.gl,by show m.segs=(L.ren s c c').gens.length;rw [hr.gens,yar];exact h.sgs,by show 129*(L.ren s c c').gens.length≤(L.ren s c c').cells.length∧(L.ren s c c').cells.length≤100000;rw [hr.gens,yar,hr.len];exact h.cl,hr.bad h.bad,?_,?_,?_,?_,?_,fun x hx=>?_,h.asc,?_,h.cnt,fun _=>?_,fun _=>?_⟩
 ·show ∀ x∈(L.ren s c c').gens,_
  rw [hr.gens]
  exact Gc h.gp h.tp
 ·show 0≤(L.ren s c c').top∧(L.ren s c c').top≤_
  rw [hr.top];have:=h.tp;omega
 ·show 0≤(L.ren s c c').seq∧(L.ren s c c').seq≤_
  rw [hr.seq];have:=h.sq;omega
 ·show (L.ren s c c').steps≤_
  have:=hr.steps;have:=h.st;omega
 ·show m.l.length≤_
  have:=h.fl;omega
 ·have:=hr.held (h.its x hx) (hne x hx)
  exact ⟨this.sg,this.sl,this.sq,this.gn,this.key,this.dat,this.cl⟩
 ·intro x hx he
  exact absurd he (hne x hx)
 ·show ((m.inN s:Nat):Int)≤0
  rw [hno];exact ybv _
 ·show 1≤(L.ren s c c').gens.getD ((s:Int).toNat) 0
  rw [hr.gens,yaf,yad,List.getElem?_set_self hs]
  have:=h.tp
  show 1≤L.top+1
  omega
def Md.put (m:Md) (a b c:Int) (key data:Bs):Md:={ m with l:=m.l++[⟨⟨a,b,c,key⟩,data⟩],seg:=a,next:=b+1 }
theorem Ko {m:Md} {a b c s:Int} {key data:Bs}:(m.put a b c key data).inN s=m.inN s+if a=s then 1 else 0:=by
 unfold Md.inN itF Md.put
 simp only [yaG,yal]
 congr 1
 by_cases h:a=s
 ·simp [h]
 ·simp [h]
theorem Gl {b:Bs} {j:Nat} (hj:j<8):(eR b 8).getD j zS=cutS b j:=by
 unfold eR
 rw [yad,ybs,ybt hj];rfl
theorem Inv.app {m:Md} {L:Lg} {B c:Nat} {key data:Bs} (h:Inv m L B) (hs:0≤m.seg) (hn:L.next<16) (hk:key.length≤100) (hd:data.length≤360):Inv (m.put m.seg L.next (L.seq+1) key data) (L.app key data c) (B+1):=by
 have hsg:=h.sg
 have hnx:=h.nx
 have hse:=h.seg
 have hcl:=h.cl
 have hw:(L.app key data c).cells=lI L.cells L.at (eR (dS L.seg L.next (L.slot key data)) 8):=rfl
 have hat:L.at=cM m.seg L.next:=by unfold Lg.at cM;rw [hse]
 have hfar:∀ i:Nat,(i<cM m.seg L.next∨cM m.seg L.next+8≤i)→(L.app key data c).cells[i]?=L.cells[i]?:=by
  intro i hi
  rw [hw]
  by_cases hl:i<L.cells.length
  ·rw [lH hl,if_neg (by rw [gM,hat];omega)]
  ·rw [sM hl,yaR (by omega)]
 have hheld:∀ x∈m.l,Ee (L.app key data c) x:=by
  intro x hx
  have hx1:=h.its x hx
  have h1:=hx1.sg
  have h2:=hx1.sl
  have hq:=hx1.sq
  refine ⟨h1,h2,⟨hq.1,by show x.c.seq≤L.seq+1;omega⟩,hx1.gn,hx1.key,hx1.dat,fun j hj=>?_⟩
  have hc:=h.cur x hx
  rw [hfar]
  ·exact hx1.cl j hj
  ·unfold cM
   by_cases he:x.c.seg=m.seg
   ·have:=hc he;omega
   ·omega
 have hnew:Ee (L.app key data c) ⟨⟨m.seg,L.next,L.seq+1,key⟩,data⟩:=by
  refine ⟨⟨hs,hsg.2⟩,⟨hnx.1,hn⟩,⟨by have:=h.sq;show 1≤L.seq+1;omega,ybv _⟩,h.gcu hs,hk,hd,fun j hj=>?_⟩
  show (L.app key data c).cells[cM m.seg L.next+j]?=some ⟨cutS (dS m.seg L.next ⟨L.gens.getD m.seg.toNat 0,L.seq+1,key,data⟩) j,false⟩
  rw [hw,lH (by unfold cM;omega),hat,if_pos (by rw [gM];omega),ybc,Gl hj]
  unfold Lg.slot
  rw [hse]
 refine ⟨?_,hse,fun _=>rfl,hsg,⟨by show 0≤L.next+1;omega,by show L.next+1≤16;omega⟩,h.gl,h.sgs,by rw [hw,dA];exact hcl,by rw [hw];exact Dz h.bad,fun x hx=>by have:=h.gp x hx;omega,?_,?_,?_,?_,?_,?_,?_,?_,?_,h.gcu⟩
 ·show L.found++[_]=yac It.c (m.l++[_])
  rw [yas,h.fnd,hse];rfl
 ·show 0≤L.top∧L.top≤_
  have:=h.tp;omega
 ·show 0≤L.seq+1∧L.seq+1≤_
  have:=h.sq;omega
 ·show L.steps+(eR _ 8).length+1≤_
  rw [gM];have:=h.st;omega
 ·show (m.l++[_]).length≤_
  rw [yal];have:=h.fl;simp;omega
 ·intro x hx
  rcases ybl.1 hx with hx|hx
  ·exact hheld x hx
  ·rw [yaS] at hx;subst hx;exact hnew
 ·show (m.l++[_]).Pairwise _
  rw [List.pairwise_append]
  refine ⟨h.asc,List.pairwise_singleton _ _,fun x hx y hy=>?_⟩
  rw [yaS] at hy;subst hy
  have:=(h.its x hx).sq
  show x.c.seq<L.seq+1
  omega
 ·intro x hx he
  rcases ybl.1 hx with hx|hx
  ·have:=h.cur x hx he
   show x.c.slot<L.next+1
   omega
  ·rw [yaS] at hx;subst hx
   show L.next<L.next+1
   omega
 ·intro s
  rw [Ko]
  have:=h.cnt s
  have h3:=h.cnx hs
  split
  ·rename_i he
   subst he
   omega
  ·omega
 ·intro _
  show ((m.put m.seg L.next (L.seq+1) key data).inN m.seg:Int)≤L.next+1
  rw [Ko,if_pos rfl]
  have h3:=h.cnx hs
  omega
theorem Vj {l:List It} {s a:Int}:itF (l.filter fun x=>x.c.seg != s) a=if a=s then [] else itF l a:=by
 unfold itF
 rw [List.filter_filter]
 split
 ·rename_i h
  subst h
  rw [ybu]
  intro x _
  simp
 ·rename_i h
  refine List.filter_congr fun x _=>?_
  by_cases h2:x.c.seg=a
  ·subst h2;simp [h]
  ·simp [h2]
def Md.wo (m:Md) (s:Int):Md:={ m with l:=m.l.filter fun x=>x.c.seg != s,seg:=if m.seg=s then -1 else m.seg }
def Lg.drop (L:Lg) (s c c':Nat):Lg:={ L.ren s c c' with found:=L.found.filter fun x=>x.seg != s,seg:=if L.seg=s then -1 else L.seg }
theorem Inv.drop {m:Md} {L:Lg} {B s c c':Nat} (h:Inv m L B) (hs:s<L.gens.length):Inv (m.wo s) (L.drop s c c') (B+1):=by
 have hr:=iZ (L:=L) (s:=s) (c:=c) (c':=c')
 have hsg:=h.sg
 have hnx:(L.ren s c c').next=L.next:=by
  unfold Lg.ren Lg.gen Lg.wrote
  by_cases h0:L.gens.getD s 0=0
  ·simp only [if_pos h0];rfl
  ·simp only [if_neg h0]
 have hle:(m.wo s).l.length≤m.l.length:=yaK ..
 have hin:∀ a,(m.wo s).inN a≤m.inN a:=by
  intro a
  unfold Md.inN Md.wo
  simp only [Vj]
  split<;>simp
 refine ⟨?_,?_,fun h0=>?_,?_,by show 0≤(L.ren s c c').next∧(L.ren s c c').next≤16;rw [hnx];exact h.nx,by show 1≤(L.ren s c c').gens.length∧(L.ren s c c').gens.length≤700;rw [hr.gens,yar];exact h.gl,by show m.segs=(L.ren s c c').gens.length;rw [hr.gens,yar];exact h.sgs,by show 129*(L.ren s c c').gens.length≤(L.ren s c c').cells.length∧(L.ren s c c').cells.length≤100000;rw [hr.gens,yar,hr.len];exact h.cl,hr.bad h.bad,?_,?_,?_,?_,?_,fun x hx=>?_,?_,?_,?_,fun h0=>?_,fun h0=>?_⟩
 ·show (L.found.filter _)=((m.l.filter _).map It.c)
  rw [h.fnd,List.filter_map];rfl
 ·show (if L.seg=s then (-1:Int) else L.seg)=if m.seg=s then -1 else m.seg
  rw [h.seg]
 ·show (L.ren s c c').next=m.next
  have h1:0≤m.seg:=by
   have h0':0≤(if m.seg=s then (-1:Int) else m.seg):=h0
   split at h0'
   ·omega
   ·exact h0'
  rw [hnx];exact h.nxt h1
 ·show (-1:Int)≤(if m.seg=s then (-1:Int) else m.seg)∧(if m.seg=s then (-1:Int) else m.seg)<(L.ren s c c').gens.length
  rw [hr.gens,yar]
  split<;>omega
 ·show ∀ x∈(L.ren s c c').gens,_
  rw [hr.gens]
  exact Gc h.gp h.tp
 ·show 0≤(L.ren s c c').top∧(L.ren s c c').top≤_
  rw [hr.top];have:=h.tp;omega
 ·show 0≤(L.ren s c c').seq∧(L.ren s c c').seq≤_
  rw [hr.seq];have:=h.sq;omega
 ·show (L.ren s c c').steps≤_
  have:=hr.steps;have:=h.st;omega
 ·have:=h.fl;omega
 ·obtain ⟨hx1,hx2⟩:=yaE.1 hx
  have:=hr.held (h.its x hx1) (by simpa using hx2)
  exact ⟨this.sg,this.sl,this.sq,this.gn,this.key,this.dat,this.cl⟩
 ·exact h.asc.sublist ybj
 ·intro x hx he
  obtain ⟨hx1,hx2⟩:=yaE.1 hx
  have hx2:x.c.seg≠s:=by simpa using hx2
  have he':x.c.seg=if m.seg=s then (-1:Int) else m.seg:=he
  show x.c.slot<(L.ren s c c').next
  rw [hnx]
  split at he'
  ·have:=(h.its x hx1).sg;omega
  ·exact h.cur x hx1 he'
 ·intro a
  exact yaM (hin a) (h.cnt a)
 ·show (((m.wo s).inN (if m.seg=s then (-1:Int) else m.seg):Nat):Int)≤(L.ren s c c').next
  rw [hnx]
  have h0':0≤(if m.seg=s then (-1:Int) else m.seg):=h0
  split at h0'
  ·omega
  ·rename_i h3
   rw [if_neg h3]
   have h4:=h.cnx h0'
   have h5:=hin m.seg
   omega
 ·show 1≤(L.ren s c c').gens.getD ((if m.seg=s then (-1:Int) else m.seg).toNat) 0
  have h0':0≤(if m.seg=s then (-1:Int) else m.seg):=h0
  split at h0'
  ·omega
  ·rename_i h3
   rw [if_neg h3,hr.gens,yad,ybF (by omega),←yad]
   exact h.gcu h0'
theorem Inv.off {m:Md} {L:Lg} {B:Nat} (h:Inv m L B):Inv { m with seg:=-1 } { L with seg:=-1 } B :=
 ⟨h.fnd,rfl,fun h0=>absurd h0 (by show ¬(0:Int)≤-1;decide),⟨ybv _,by show (-1:Int)<L.gens.length;omega⟩,h.nx,h.gl,h.sgs,h.cl,h.bad,h.gp,h.tp,h.sq,h.st,h.fl,fun x hx=>by have:=h.its x hx;exact ⟨this.sg,this.sl,this.sq,this.gn,this.key,this.dat,this.cl⟩,h.asc,fun x hx he=>by
  have he':x.c.seg=-1:=he
  have:=(h.its x hx).sg;omega,h.cnt,fun h0=>absurd h0 (by show ¬(0:Int)≤-1;decide),fun h0=>absurd h0 (by show ¬(0:Int)≤-1;decide)⟩
set_option maxRecDepth 20000
def Md.ff (m:Md):Option Nat:=(yax m.segs.toNat).find? fun s=>m.fr (s:Int)
def Md.fn (m:Md) (k:Nat):Nat:=((yax k).filter fun s:Nat=>m.fr (s:Int)).length
def Md.whr (m:Md) (key data:Bs):Int × Int × Int :=
 if 100<key.length∨360<data.length then (0,0,2) else
  if 0≤m.seg∧m.next<16 then (m.seg,m.next,0) else
   match m.ff with
   | some s=>((s:Int),0,0)
   | none=>(0,0,140)
theorem Kx {m:Md} {s:Nat} (h:s<m.segs.toNat) (h1:m.fr s=true) (h2:∀ i:Nat,i<s→m.fr i=false):m.ff=some s:=by
 unfold Md.ff
 rw [List.find?_range_eq_some]
 exact ⟨h1,by simpa using h,fun j hj=>by simp [h2 j hj]⟩
theorem Ky {m:Md} (h:∀ i:Nat,i<m.segs.toNat→m.fr i=false):m.ff=none:=by
 unfold Md.ff
 rw [List.find?_range_eq_none]
 intro j hj
 simp [h j hj]
theorem Inv.append {m:Md} {L:Lg} {B:Nat} {key data:Bs} (h:Inv m L B) (hB:B≤90000) (hk:key.length≤100000∧data.length≤100000) :
  OkL 16 [.ptr 0 0 0,sv key,sv data] L (fun r L'=>((m.whr key data).2.2≠0∧r=.tup [.agg [.i 0,.i 0,.i 0],.i (m.whr key data).2.2]∧L'=L) ∨
   ((m.whr key data).2.2=0∧r=.tup [.agg [.i (m.whr key data).1,.i (m.whr key data).2.1,.i (L.seq+1)],.i 0]∧L'.seq=L.seq+1∧L'.gens.length=L.gens.length∧Inv (m.put (m.whr key data).1 (m.whr key data).2.1 (L.seq+1) key data) L' (B+2))):=by
 have hfl:=h.fl
 have hsq:=h.sq
 have hsg:=h.sg
 have hse:=h.seg
 have hnx:=h.nx
 have hss:=h.sgs
 refine iR (Zl L key data (h.Sm (by omega)) hk (by rw [h.fnd,yae];omega) (by omega) (by rw [hse];exact hsg.2) hnx (fun x hx=>by have:=h.gp x hx;omega)) ?_
 rintro r hs ⟨L',⟨h1,h2⟩,rfl⟩
 refine ⟨L',⟨h1,?_⟩,rfl⟩
 rcases h2 with ⟨q1,rfl,rfl⟩|⟨q1,q2,q3,rfl,rfl⟩|⟨q1,L1,c,q2,rfl,rfl⟩
 ·left
  unfold Md.whr
  rw [if_pos q1]
  exact ⟨by decide,rfl,rfl⟩
 ·left
  have hf:m.ff=none:=Ky fun i hi=>by rw [←h.free];exact q3 i (by omega)
  have hn:¬(0≤m.seg∧m.next<16):=by
   rintro ⟨a1,a2⟩
   have:=h.nxt a1
   omega
  unfold Md.whr
  rw [if_neg q1,if_neg hn,hf]
  exact ⟨by decide,rfl,rfl⟩
 ·right
  rcases q2 with ⟨a1,rfl⟩|⟨a1,s,c1,c2,a2,a3,a4,rfl⟩
  ·have a5:0≤m.seg:=by omega
   have hx:=h.nxt a5
   have hw:m.whr key data=(m.seg,m.next,0):=by
    unfold Md.whr
    rw [if_neg q1,if_pos ⟨a5,by omega⟩]
   rw [hw,hse,hx]
   refine ⟨rfl,rfl,rfl,rfl,?_⟩
   have:=(h.app (c:=c) (key:=key) (data:=data) a5 (by omega) (by omega) (by omega)).mono (B':=B+2) (by omega)
   rw [hx] at this
   exact this
  ·have hf:m.ff=some s:=Kx (by omega) (by rw [←h.free];exact a3) fun i hi=>by rw [←h.free];exact a4 i hi
   have hn:¬(0≤m.seg∧m.next<16):=by
    rintro ⟨b1,b2⟩
    have:=h.nxt b1
    omega
   have hw:m.whr key data=((s:Int),0,0):=by
    unfold Md.whr
    rw [if_neg q1,if_neg hn,hf]
   have hr:=iZ (L:=L) (s:=s) (c:=c1) (c':=c2)
   have hq1:(L.took s c1 c2).seq=L.seq:=hr.seq
   have ht:=(h.took (c:=c1) (c':=c2) a2 a3)
   have:=ht.app (c:=c) (key:=key) (data:=data) (by show (0:Int)≤s;omega) (by show (0:Int)<16;omega) (by omega) (by omega)
   rw [hq1] at this
   rw [hw,hq1]
   refine ⟨rfl,rfl,?_,?_,this⟩
   ·show (L.took s c1 c2).seq+1=_
    rw [hq1]
   ·show (L.ren s c1 c2).gens.length=_
    rw [hr.gens,yar]
set_option maxRecDepth 20000
def Md.v (m:Md):V:=.agg [.ro 5 (m.l.map It.enc),.i m.segs,.i m.seg,.i m.next]
theorem sR (x:It):x.enc.length=5:=rfl
theorem Rc (x:It):x.enc[0]?=some (.i x.c.seg):=rfl
theorem agN (x:It):x.enc[1]?=some (.i x.c.slot):=rfl
theorem Vi (x:It):x.enc[2]?=some (.i x.c.seq):=rfl
theorem Rb (x:It):x.enc[3]?=some (sv x.c.key):=rfl
theorem Ra (x:It):x.enc[4]?=some (sv x.data):=rfl
theorem rE (x:It):yao 5 x.enc=x.enc:=rfl
theorem xP (x:It):yao 4 x.enc=x.c.enc:=rfl
theorem Km (x:It):yaT 5 x.enc=[]:=rfl
theorem Vh (x:It):x.enc.all isD=true:=rfl
theorem Zz (x:It):x.enc.all isC=true:=rfl
theorem rF {x:It} {M:List Nat}:bB M x.enc=x.enc:=rfl
theorem Qy {x:It} {g:Nat→Option Nat}:dO g x.enc=x.enc:=rfl
theorem xQ {l:List It} {s:Int} {k:Nat} (h:k<l.length):itF (l.take (k+1)) s=itF (l.take k) s++(if l[k].c.seg=s then [l[k]] else []):=by
 unfold itF
 rw [yaJ,yah h,yaG]
 congr 1
 simp only [ybm,ybn,yba,beq_iff_eq]
theorem Rd {l:List It} {s:Int}:(itF l s).length≤l.length:=yaK ..
theorem Yl {a b:Bs}:(sb a==sb b)=(a==b):=by
 show (a.toArray==b.toArray)=(a==b)
 simp
theorem agZ {x y:Ck} {K:Bool→Prop}:(cB (nH (V.agg x.enc)) fun xs=>cB (nH (V.agg y.enc)) fun ys=>eM xs ys [(0,TypeDesc.int IntKind.i64),(1,TypeDesc.int IntKind.i64),(2,TypeDesc.int IntKind.i64),(3,TypeDesc.string)] K)=K (decide (x=y)):=by
 have e:decide (x=y)=((x.seg==y.seg)&&((x.slot==y.slot)&&((x.seq==y.seq)&&((x.key==y.key)&&true)))):=by
  obtain ⟨a,b,c,d⟩:=x
  obtain ⟨a',b',c',d'⟩:=y
  rw [Bool.eq_iff_iff]
  simp
 rw [e,←Yl]
 exact propext ⟨fun h=>h.2.2.2.2,fun h=>⟨⟨rfl,rfl⟩,⟨rfl,rfl⟩,⟨rfl,rfl⟩,⟨rfl,rfl⟩,h⟩⟩
theorem afS (m:Md) (s:Int) (hl:m.l.length≤100000):Ok 29 [m.v,.i s] (Is (.i (m.inN s))):=by
 refine cD lw29 (by simp) ?_
 unfold c29
 simp -implicitDefEqProofs only [rX,↓rY,aA,cells?,↓reduceIte,aE,cxN,aR,Md.v]
 refine a8 (fun k:Nat=>(⟨[(6,.i k),(5,.i (itF (m.l.take k) s).length),(2,.ptr 0 0 0),(1,.i s)],[.var [.ro 5 (m.l.map It.enc),.i m.segs,.i m.seg,.i m.next]],0⟩:St)) (fun k=>k≤m.l.length) (fun k=>m.l.length-k) 0 (yan _) ?_ ?_
 ·simp -implicitDefEqProofs only [rX,↓reduceIte,Nat.reduceEqDiff,reduceCtorEq,leE,leH,leB,leV,cN,aF,aC,wfE,wfB,wfV,wfL]
  exact ⟨rfl,rfl⟩
 intro k hk
 unfold c29l0
 simp -implicitDefEqProofs only [rX,↓rY,aA,↓reduceIte,Nat.reduceEqDiff,aQ,aT,leE,leH,leB,leV,cN,aF,aC,wfE,wfB,wfV,wfL,yai,yaf,Rc]
 intro hm
 cases hd:decide ((k:Int)<(m.l.length:Int)) with
 | true =>
  have hk2:k<m.l.length:=by have:=of_decide_eq_true hd;omega
  rw [wd]
  have hle:=Rd (l:=m.l.take k) (s:=s)
  rw [yaH] at hle
  refine ⟨⟨by omega,by omega⟩,hk2,?_⟩
  cases hc:m.l[k].c.seg==s with
  | true =>
   have hc':m.l[k].c.seg=s:=by simpa using hc
   rw [wd]
   refine ⟨⟨by simp only [lo];omega,by simp only [hi];omega⟩,⟨by simp only [lo];omega,by simp only [hi];omega⟩,k+1,⟨by omega,by omega⟩,by omega,?_⟩
   rw [xQ hk2,if_pos hc',yal];rfl
  | false =>
   have hc':¬m.l[k].c.seg=s:=by simpa using hc
   rw [we]
   refine ⟨⟨by simp only [lo];omega,by simp only [hi];omega⟩,k+1,⟨by omega,by omega⟩,by omega,?_⟩
   rw [xQ hk2,if_neg hc',yak]
 | false =>
  rw [we]
  have hk2:k=m.l.length:=by have:=of_decide_eq_false hd;omega
  subst hk2
  rw [yaC];rfl
theorem aeS (m:Md) (hl:m.l.length≤100000) (hs:0≤m.segs∧m.segs≤100000):Ok 75 [m.v] (Is (.i (match m.ff with|some s=>(s:Int)|none=>-1))):=by
 refine cD lw75 (by simp) ?_
 unfold c75
 simp -implicitDefEqProofs only [rX,↓rY,aA,cells?,↓reduceIte,aE,cxN,aR,Md.v]
 refine a8 (fun k:Nat=>(⟨[(3,.i k),(1,.ptr 0 0 0)],[.var [.ro 5 (m.l.map It.enc),.i m.segs,.i m.seg,.i m.next]],0⟩:St)) (fun k=>(k:Int)≤m.segs∧∀ i:Nat,i<k→m.fr i=false) (fun k=>m.segs.toNat-k) 0 ⟨by omega,fun i hi=>absurd hi (ybq _)⟩ ?_ ?_
 ·simp -implicitDefEqProofs only [rX,↓reduceIte,Nat.reduceEqDiff,leE,leH,leB,leV,cN,aF,aC,wfE,wfB,wfV,wfL]
  rfl
 rintro k ⟨hk,hn⟩
 unfold c75l0
 simp -implicitDefEqProofs only [rX,↓rY,aA,↓reduceIte,Nat.reduceEqDiff,Nat.reduceAdd,aQ,aT,leE,leH,leB,leV,cN,aF,aC,wfE,wfB,wfV,wfL]
 cases hd:decide ((k:Int)<m.segs) with
 | true =>
  have hk2:(k:Int)<m.segs:=of_decide_eq_true hd
  rw [wd]
  have hnx:m.fr (k:Int)=false→∃ g':Nat,(((g':Int)≤m.segs∧∀ i:Nat,i<g'→m.fr i=false)∧m.segs.toNat-g'<m.segs.toNat-k)∧(k:Int)+1=g':=fun hf=>⟨k+1,⟨⟨by omega,fun i hi=>by
   by_cases he:i=k
   ·subst he;exact hf
   ·exact hn i (by omega)⟩,by omega⟩,by omega⟩
  cases h1:((k:Int) != m.seg) with
  | true =>
   rw [wd]
   refine aS (afS m k hl) (by simp [aJ,aU,aV,bO,wkL,wk,wkR,Md.v]) rfl trivial ?_
   simp -implicitDefEqProofs only [rX,↓rY,aA,↓reduceIte,Nat.reduceEqDiff,aQ,aT,leE,leH,leB,leV,cN,aF,aC,wfE,wfB,wfV,wfL]
   cases h2:((m.inN k:Int)==0) with
   | true =>
    rw [wd]
    have hf:m.fr k=true:=by unfold Md.fr;rw [h1,yat];simpa using h2
    have hff:m.ff=some k:=Kx (by omega) hf hn
    rw [hff]
   | false =>
    rw [we]
    have hf:m.fr k=false:=by unfold Md.fr;rw [h1,yat];simpa using h2
    exact ⟨⟨by simp only [lo];omega,by simp only [hi];omega⟩,hnx hf⟩
  | false =>
   rw [we]
   have hf:m.fr k=false:=by unfold Md.fr;rw [h1];rfl
   first|exact ⟨⟨by simp only [lo];omega,by simp only [hi];omega⟩,hnx hf⟩|(simp -implicitDefEqProofs only [rX,↓rY,qg,qi,qk,ql,qm,qp,qq,qt,qw,qx,qy,qz,qA,qC,qD,qE,qF,qG,qH,qI,qO,rdK,zF,zI,zR,zV,zW,zX,zY,zZ,kf,kg,kh,kj,kp,kq,kv,kw,kD,kL,kM,kX,aA,cells?,splice,↓reduceIte,Nat.reduceEqDiff,eG,Nat.reduceAdd,reduceCtorEq,aE,bW,bK,cE,aQ,aT,leE,leH,leB,leV,cN,aF,aC,wfE,wfB,wfV,wfL,aB,aD,kill,bB,St.kill,isD,isC,Nat.reduceLT,Nat.reduceLeDiff,wX,wY,jb,jc,jg,jh,jl,jm,jq,jr,jx,jy,jC,jD,jH,jI,jS,jT,jU,jV,jW,jX,jY,jZ,qaa,qab,qac,qad,qae,qaf,qag,qah,qai,qaj,qak,qal,qam,qan,qao,qap,↓qas,↓qaL,↓qaM,↓qaQ,↓qaR,↓qaV,↓qbc,↓qbd,↓qbj,↓qbk,↓qbm,↓qbn,↓qbo,↓qbr,↓qbs,↓qbv,↓qbx,↓qbz,↓qbA,↓qbB,↓qbF,↓qbG,↓qbI,↓qbJ,↓qbK,↓qbL,↓qbO,↓qbP,↓qbQ,↓qbU,↓qbW,↓qbZ,↓qca,↓qcb,↓qcc,↓qcd,↓qce,↓qcf,↓qcg,↓qch,↓qci,↓qcj,↓qck,↓qcl,yai,yaf,cxN,Qx,Du,Bp,Nat.mul_one,dX,iX,Hl,Dh,x8,So,Sn,Sl,Sk,yA,x9,Di,Sq,yB,x7,pE,lS,Sb,dM,less,sR,Rc,agN,Vi,Rb,Ra,rE,xP,Km,Vh,Zz,rF,Qy,j9,aaV,ahJ,ahI,ahH,hU,Dp,Wc,My,oL,Sy,aR,Md.v];exact ⟨⟨by simp only [lo];omega,by simp only [hi];omega⟩,hnx hf⟩)
 | false =>
  rw [we]
  have hk2:¬(k:Int)<m.segs:=of_decide_eq_false hd
  have hff:m.ff=none:=Ky fun i hi=>hn i (by omega)
  rw [hff]
theorem ok8 (m:Md) (l:List Ck) (hl:l.length≤100000):Ok 8 [m.v,.ro 4 (l.map Ck.enc)] (Is (.b (decide (m.l.map It.c=l)))):=by
 refine cD lw8 (by simp) ?_
 unfold c8
 simp -implicitDefEqProofs only [rX,↓rY,aA,cells?,↓reduceIte,Nat.reduceEqDiff,reduceCtorEq,aE,aQ,aT,wfV,cxN,aR,Md.v]
 intro h1 h2
 cases hd:((l.length:Int) != (m.l.length:Int)) with
 | true =>
  rw [wd]
  have:l.length≠m.l.length:=by
   have:(l.length:Int)≠m.l.length:=by simpa using hd
   omega
  rw [eq_comm,decide_eq_false_iff_not]
  intro he
  rw [←he,yae] at this
  exact this rfl
 | false =>
  rw [we]
  have hll:l.length=m.l.length:=by
   have:(l.length:Int)=m.l.length:=by simpa using hd
   omega
  refine a8 (fun k:Nat=>(⟨[(5,.i k),(2,.ptr 0 0 0),(1,.ro 4 (l.map Ck.enc))],[.var [.ro 5 (m.l.map It.enc),.i m.segs,.i m.seg,.i m.next]],0⟩:St)) (fun k=>k≤l.length∧(m.l.take k).map It.c=l.take k) (fun k=>l.length-k) 0 ⟨yan _,by simp⟩ ?_ ?_
  ·simp -implicitDefEqProofs only [rX,↓reduceIte,Nat.reduceEqDiff,reduceCtorEq,leE,leH,leB,leV,cN,aF,aC,wfE,wfB,wfV,wfL]
   rfl
  rintro k ⟨hk,he⟩
  unfold c8l0
  simp -implicitDefEqProofs only [rX,↓rY,aA,↓reduceIte,Nat.reduceEqDiff,aQ,aT,leE,leH,leB,leV,cN,aF,aC,wfE,wfB,wfV,wfL,Nat.reduceLeDiff,yai,yaf,sR,xP,j9,hU]
  simp -implicitDefEqProofs only [agZ]
  intro hm
  cases hd2:decide ((k:Int)<(l.length:Int)) with
  | true =>
   rw [wd]
   have hk2:k<l.length:=by have:=of_decide_eq_true hd2;omega
   have hk3:k<m.l.length:=by omega
   refine ⟨⟨by omega,by omega⟩,hk2,⟨by omega,by omega⟩,hk3,?_⟩
   by_cases hc:l[k]=m.l[k].c
   ·rw [decide_eq_true hc,Bool.not_true,we]
    refine ⟨⟨by simp only [lo];omega,by simp only [hi];omega⟩,k+1,⟨⟨by omega,?_⟩,by omega⟩,by omega⟩
    rw [yaJ,yaJ,yah hk2,yah hk3,yas,he,hc];rfl
   ·rw [decide_eq_false hc,Bool.not_false,wd,eq_comm,decide_eq_false_iff_not]
    intro h
    apply hc
    have:(m.l.map It.c)[k]'(by rw [yae];exact hk3)=l[k]:=by simp only [h]
    rw [←this,yai]
  | false =>
   rw [we]
   have hk2:k=l.length:=by have:=of_decide_eq_false hd2;omega
   subst hk2
   rw [yaC,hll,yaC] at he
   rw [eq_comm,decide_eq_true_iff,he]
theorem afG (m:Md) (key data:Bs) (hl:m.l.length≤100000) (hs:0≤m.segs∧m.segs≤100000):Ok 50 [m.v,sv key,sv data] (Is (.agg [.i (m.whr key data).1,.i (m.whr key data).2.1,.i (m.whr key data).2.2])):=by
 refine cD lw50 (by simp) ?_
 unfold c50
 simp -implicitDefEqProofs only [rX,↓rY,aA,cells?,splice,↓reduceIte,Nat.reduceEqDiff,Nat.reduceAdd,reduceCtorEq,aE,bK,aQ,aT,wfV,wfL,isC,Nat.reduceLeDiff,cxN,dX,aR,Md.v]
 have hcall:¬(100<key.length∨360<data.length)→¬(0≤m.seg∧m.next<16)→(m.ff=none→m.whr key data=(0,0,140))∧∀ s,m.ff=some s→m.whr key data=((s:Int),0,0):=by
  intro h1 h2
  constructor
  ·intro h3
   unfold Md.whr
   rw [if_neg h1,if_neg h2,h3]
  ·intro s h3
   unfold Md.whr
   rw [if_neg h1,if_neg h2,h3]
 cases h1:decide (100<(key.length:Int)) with
 | true =>
  have h1':=of_decide_eq_true h1
  rw [wd]
  unfold Md.whr
  rw [if_pos (.inl (by omega))]
 | false =>
 have h1':=of_decide_eq_false h1
 rw [we]
 cases h2:decide (360<(data.length:Int)) with
 | true =>
  have h2':=of_decide_eq_true h2
  rw [wd]
  unfold Md.whr
  rw [if_pos (.inr (by omega))]
 | false =>
 have h2':=of_decide_eq_false h2
 rw [we]
 have hlim:¬(100<key.length∨360<data.length):=by omega
 cases h3:decide (0≤m.seg) with
 | true =>
  have h3':=of_decide_eq_true h3
  rw [wd]
  cases h4:decide (m.next<16) with
  | true =>
   have h4':=of_decide_eq_true h4
   rw [wd]
   unfold Md.whr
   rw [if_neg hlim,if_pos ⟨h3',h4'⟩]
  | false =>
   have h4':=of_decide_eq_false h4
   rw [we]
   obtain ⟨q1,q2⟩:=hcall hlim (by omega)
   refine aS (aeS m hl hs) (by simp [aJ,aU,aV,bO,wkL,wk,wkR,Md.v]) rfl trivial ?_
   cases hf:m.ff with
   | some s =>
    rw [q2 s hf]
    simp -implicitDefEqProofs only [rX,↓rY,aA,cells?,splice,↓reduceIte,Nat.reduceEqDiff,Nat.reduceAdd,bK,aQ,aT,wfV,wfL,isC,Nat.reduceLeDiff]
    rw [decide_eq_false (by omega),we];trivial
   | none =>
    rw [q1 hf]
    simp -implicitDefEqProofs only [rX,↓rY,aA,cells?,splice,↓reduceIte,Nat.reduceEqDiff,Nat.reduceAdd,bK,aQ,aT,wfV,wfL,isC,Nat.reduceLeDiff]
    rw [show decide ((-1:Int)<0)=true from rfl,wd];trivial
 | false =>
  have h3':=of_decide_eq_false h3
  rw [we]
  obtain ⟨q1,q2⟩:=hcall hlim (by omega)
  try simp -implicitDefEqProofs only [rX,↓rY,qg,qi,qk,ql,qm,qp,qq,qt,qw,qx,qy,qz,qA,qC,qD,qE,qF,qG,qH,qI,qO,rdK,zF,zI,zR,zV,zW,zX,zY,zZ,kf,kg,kh,kj,kp,kq,kv,kw,kD,kL,kM,kX,aA,cells?,splice,↓reduceIte,Nat.reduceEqDiff,eG,Nat.reduceAdd,reduceCtorEq,aE,bW,bK,cE,aQ,aT,leE,leH,leB,leV,cN,aF,aC,wfE,wfB,wfV,wfL,aB,aD,kill,bB,St.kill,isD,isC,Nat.reduceLT,Nat.reduceLeDiff,wX,wY,jb,jc,jg,jh,jl,jm,jq,jr,jx,jy,jC,jD,jH,jI,jS,jT,jU,jV,jW,jX,jY,jZ,qaa,qab,qac,qad,qae,qaf,qag,qah,qai,qaj,qak,qal,qam,qan,qao,qap,↓qas,↓qaL,↓qaM,↓qaQ,↓qaR,↓qaV,↓qbc,↓qbd,↓qbj,↓qbk,↓qbm,↓qbn,↓qbo,↓qbr,↓qbs,↓qbv,↓qbx,↓qbz,↓qbA,↓qbB,↓qbF,↓qbG,↓qbI,↓qbJ,↓qbK,↓qbL,↓qbO,↓qbP,↓qbQ,↓qbU,↓qbW,↓qbZ,↓qca,↓qcb,↓qcc,↓qcd,↓qce,↓qcf,↓qcg,↓qch,↓qci,↓qcj,↓qck,↓qcl,yai,yaf,cxN,Qx,Du,Bp,Nat.mul_one,dX,iX,Hl,Dh,x8,So,Sn,Sl,Sk,yA,x9,Di,Sq,yB,x7,pE,lS,Sb,dM,less,sR,Rc,agN,Vi,Rb,Ra,rE,xP,Km,Vh,Zz,rF,Qy,j9,aaV,ahJ,ahI,ahH,hU,Dp,Wc,My,oL,Sy,aR,Md.v]
  refine aS (aeS m hl hs) (by simp [aJ,aU,aV,bO,wkL,wk,wkR,Md.v]) rfl trivial ?_
  cases hf:m.ff with
  | some s =>
   rw [q2 s hf]
   simp -implicitDefEqProofs only [rX,↓rY,aA,cells?,splice,↓reduceIte,Nat.reduceEqDiff,Nat.reduceAdd,bK,aQ,aT,wfV,wfL,isC,Nat.reduceLeDiff]
   rw [decide_eq_false (by omega),we];trivial
  | none =>
   rw [q1 hf]
   simp -implicitDefEqProofs only [rX,↓rY,aA,cells?,splice,↓reduceIte,Nat.reduceEqDiff,Nat.reduceAdd,bK,aQ,aT,wfV,wfL,isC,Nat.reduceLeDiff]
   rw [show decide ((-1:Int)<0)=true from rfl,wd];trivial
theorem akQ (n:Int) (hn:0≤n∧n≤1000000):Ok 20 [.i n] (Is (Md.v ⟨[],n/129,-1,0⟩)):=by
 refine ⟨eL lw20,rT (R:=fun q hs=>wk (Md.v ⟨[],n/129,-1,0⟩) (gvV (fun _=>true) hs q)) ?_ fun _ _ h=>h⟩
 refine (cD lw20 (by simp) ?_).2
 unfold c20
 simp -implicitDefEqProofs only [rX,↓rY,aA,cells?,splice,↓reduceIte,Nat.reduceEqDiff,Nat.reduceAdd,reduceCtorEq,aE,bK,aQ,aT,aF,wfV,wfL,isC,Nat.reduceLeDiff,cxN,aR,Md.v,cJ]
 rw [Int.tdiv_eq_ediv_of_nonneg hn.1]
 refine ⟨by decide,⟨by simp only [lo];omega,by simp only [hi];omega⟩,?_⟩
 refine ⟨[],⟨?_,?_⟩,?_⟩
 ·simp [leH]
 ·simp [wfB]
 ·simp [gvV,gvL,wk,wkL,wkR]
theorem Zh (m:Md) (a b c:Int) (key data:Bs) (hl:m.l.length≤100000) (hb:0≤b∧b≤1000):Ok 51 [m.v,.agg [.i a,.i b,.i c],sv key,sv data] (Is (m.put a b c key data).v):=by
 refine ⟨eL lw51,rT (R:=fun q hs=>wk (m.put a b c key data).v (gvV (fun _=>true) hs q)) ?_ fun _ _ h=>h⟩
 refine (cD lw51 (by simp) ?_).2
 unfold c51
 simp -implicitDefEqProofs only [rX,↓rY,rdK,aA,cells?,splice,↓reduceIte,Nat.reduceEqDiff,Nat.reduceAdd,reduceCtorEq,aE,bK,cE,aQ,aT,aF,aC,wfV,wfL,aB,aD,kill,bB,St.kill,isD,isC,Nat.reduceLT,Nat.reduceLeDiff,cxN,dM,aR,Md.v,cJ]
 refine ⟨.inr trivial,by omega,by omega,⟨by simp only [lo];omega,by simp only [hi];omega⟩,[.dead,.dead,.dead,.arr 5 ((m.l++[(⟨⟨a,b,c,key⟩,data⟩:It)]).map It.enc)],⟨?_,yan _,?_,?_⟩,?_⟩
 ·refine ⟨trivial,trivial,trivial,?_,trivial⟩
  rw [yap (by rw [yae];exact yaj _),yas]
  exact aK _
 ·trivial
 ·simp [wfB]
 ·have ht:yao (m.l.length+1) (yac It.enc (m.l++[(⟨⟨a,b,c,key⟩,data⟩:It)]))=yac It.enc (m.l++[(⟨⟨a,b,c,key⟩,data⟩:It)]):=yap (by simp)
  simp only [gvV,gvL,wk,wkL,wkR,blk,Md.put,ybe,ybf,yaN,yaB,if_true,ht]
  simp
theorem Rw {α:Type} {p:α→Bool} {l:List α} {k:Nat} (h:k<l.length):(l.take (k+1)).filter p=(l.take k).filter p++(if p l[k]=true then [l[k]] else []):=by
 rw [yaJ,yah h,yaG]
 simp only [ybm,ybn,yba]
theorem aaM {α:Type} {p:α→Bool} {l:List α} {k:Nat}:((l.take k).filter p).length≤l.length:=yaM (yaK ..) (by rw [yaH];omega)
theorem afF (m:Md) (s:Int) (hl:m.l.length≤100000):Ok 52 [m.v,.i s] (Is (m.wo s).v):=by
 refine ⟨eL lw52,rT (R:=fun q hs=>wk (m.wo s).v (gvV (fun _=>true) hs q)) ?_ fun _ _ h=>h⟩
 refine (cD lw52 (by simp) ?_).2
 unfold c52
 simp -implicitDefEqProofs only [rX,↓rY,aA,cells?,↓reduceIte,Nat.reduceAdd,aE,cxN,aR,Md.v]
 refine dV (.virt 1 5 (by decide) (.nilE 5 2 rfl (.refl _))) (fun k:Nat=>(⟨[(6,.i k),(5,.sl 2 0 ((m.l.take k).filter fun x=>x.c.seg != s).length),(4,.ptr 1 0 0),(2,.ptr 0 0 0),(1,.i s)],[.var [.ro 5 (m.l.map It.enc),.i m.segs,.i m.seg,.i m.next],.var [.nil,.i 0,.i 0,.i 0],.arr 5 (((m.l.take k).filter fun x=>x.c.seg != s).map It.enc)],0⟩:St)) (fun k=>k≤m.l.length) (fun k=>m.l.length-k) 0 (yan _) ?_ ?_
 ·simp -implicitDefEqProofs only [rX,↓reduceIte,Nat.reduceEqDiff,reduceCtorEq,leE,leH,leB,leV,cN,aF,aC,wfE,wfB,wfV,wfL,yba,ybb]
  rfl
 intro k hk
 have hle:=aaM (p:=fun x:It=>x.c.seg != s) (l:=m.l) (k:=k)
 unfold c52l0
 simp -implicitDefEqProofs only [rX,↓rY,aA,cells?,splice,↓reduceIte,Nat.reduceEqDiff,Nat.reduceAdd,reduceCtorEq,aE,cE,leE,leH,leB,leV,cN,aF,aC,wfE,wfB,wfV,wfL,aB,aD,kill,bB,St.kill,isC,Nat.reduceLT,Nat.reduceLeDiff,yai,yaf,dM,sR,Rc,rE,Vh,rF]
 intro hm
 cases hd:decide ((k:Int)<(m.l.length:Int)) with
 | true =>
  have hk2:k<m.l.length:=by have:=of_decide_eq_true hd;omega
  have hf:=Rw (p:=fun x:It=>x.c.seg != s) hk2
  rw [wd]
  refine ⟨⟨by omega,by omega⟩,hk2,?_⟩
  cases hc:m.l[k].c.seg != s with
  | true =>
   rw [if_pos hc] at hf
   rw [wd]
   refine ⟨⟨by omega,by omega⟩,hk2,by omega,⟨by simp only [lo];omega,by simp only [hi];omega⟩,k+1,⟨by omega,by omega⟩,⟨by omega,?_⟩,?_⟩
   ·rw [hf,yal];rfl
   ·rw [hf,yap (by rw [yae];exact yaj _),yas];rfl
  | false =>
   rw [if_neg (by rw [hc];decide),yak] at hf
   rw [we]
   exact ⟨⟨by simp only [lo];omega,by simp only [hi];omega⟩,k+1,⟨by omega,by omega⟩,⟨by omega,by rw [hf]⟩,by rw [hf]⟩
 | false =>
  rw [we]
  have hk2:k=m.l.length:=by have:=of_decide_eq_false hd;omega
  subst hk2
  rw [yaC]
  have ht:∀ l:List It,yao l.length (yac It.enc l)=yac It.enc l:=fun l=>yap (by rw [yae];exact yaj _)
  cases hs:m.seg==s with
  | true =>
   have hs':m.seg=s:=by simpa using hs
   rw [wd,cJ]
   simp -implicitDefEqProofs only [rX,↓rY,↓reduceIte,Nat.reduceEqDiff,Nat.reduceAdd,aQ,aT,aF,aC,wfV,wfL]
   refine ⟨[.dead,.dead,.arr 5 ((m.l.filter fun x=>x.c.seg != s).map It.enc)],⟨⟨trivial,trivial,aK _,trivial⟩,yan _,?_,?_⟩,?_⟩
   ·trivial
   ·simp [wfB]
   ·simp only [gvV,gvL,wk,wkL,wkR,blk,Md.wo,ybe,ybf,yaN,yaB,if_true,ht,if_pos hs']
    simp
  | false =>
   have hs':¬m.seg=s:=by simpa using hs
   rw [we,cJ]
   simp -implicitDefEqProofs only [rX,↓rY,↓reduceIte,Nat.reduceEqDiff,Nat.reduceAdd,aQ,aT,aF,aC,wfV,wfL]
   refine ⟨[.dead,.dead,.arr 5 ((m.l.filter fun x=>x.c.seg != s).map It.enc)],⟨⟨trivial,trivial,aK _,trivial⟩,yan _,?_,?_⟩,?_⟩
   ·trivial
   ·simp [wfB]
   ·simp only [gvV,gvL,wk,wkL,wkR,blk,Md.wo,ybe,ybf,yaN,yaB,if_true,ht,if_neg hs']
    simp
theorem akG (m:Md) (s:Int) (hl:m.l.length≤100000):Ok 54 [m.v,.i s] (Is (.ro 5 ((itF m.l s).map It.enc))):=by
 refine ⟨eL lw54,rT (R:=fun q hs=>wk (.ro 5 ((itF m.l s).map It.enc)) (gvV (fun _=>true) hs q)) ?_ fun _ _ h=>h⟩
 refine (cD lw54 (by simp) ?_).2
 unfold c54
 simp -implicitDefEqProofs only [rX,↓rY,aA,cells?,↓reduceIte,aE,cxN,aR,Md.v]
 refine dV (.virt 1 5 (by decide) (.nilE 5 1 rfl (.refl _))) (fun k:Nat=>(⟨[(6,.i k),(5,.sl 1 0 (itF (m.l.take k) s).length),(2,.ptr 0 0 0),(1,.i s)],[.var [.ro 5 (m.l.map It.enc),.i m.segs,.i m.seg,.i m.next],.arr 5 ((itF (m.l.take k) s).map It.enc)],0⟩:St)) (fun k=>k≤m.l.length) (fun k=>m.l.length-k) 0 (yan _) ?_ ?_
 ·have h0:itF (m.l.take 0) s=[]:=by simp [itF]
  simp -implicitDefEqProofs only [rX,↓reduceIte,Nat.reduceEqDiff,reduceCtorEq,leE,leH,leB,leV,cN,aF,aC,wfE,wfB,wfV,wfL,ybb]
  exact ⟨⟨rfl,rfl⟩,rfl⟩
 intro k hk
 have hle:=Rd (l:=m.l.take k) (s:=s)
 rw [yaH] at hle
 unfold c54l0
 simp -implicitDefEqProofs only [rX,↓rY,aA,cells?,↓reduceIte,Nat.reduceEqDiff,Nat.reduceAdd,reduceCtorEq,aE,cE,leE,leH,leB,leV,cN,aF,aC,wfE,wfB,wfV,wfL,aB,aD,kill,bB,St.kill,Nat.reduceLT,yai,yaf,dM,sR,Rc,rE,Vh,rF]
 intro hm
 cases hd:decide ((k:Int)<(m.l.length:Int)) with
 | true =>
  have hk2:k<m.l.length:=by have:=of_decide_eq_true hd;omega
  have hf:=xQ (s:=s) hk2
  rw [wd]
  refine ⟨⟨by omega,by omega⟩,hk2,?_⟩
  cases hc:m.l[k].c.seg==s with
  | true =>
   rw [if_pos (by simpa using hc)] at hf
   rw [wd]
   refine ⟨⟨by omega,by omega⟩,hk2,by omega,⟨by simp only [lo];omega,by simp only [hi];omega⟩,k+1,⟨by omega,by omega⟩,⟨by omega,?_⟩,?_⟩
   ·rw [hf,yal];rfl
   ·rw [hf,yap (by rw [yae];exact yaj _),yas];rfl
  | false =>
   rw [if_neg (by simpa using hc),yak] at hf
   rw [we]
   exact ⟨⟨by simp only [lo];omega,by simp only [hi];omega⟩,k+1,⟨by omega,by omega⟩,⟨by omega,by rw [hf]⟩,by rw [hf]⟩
 | false =>
  rw [we]
  have hk2:k=m.l.length:=by have:=of_decide_eq_false hd;omega
  subst hk2
  rw [yaC]
  have ht:∀ l:List It,yao l.length (yac It.enc l)=yac It.enc l:=fun l=>yap (by rw [yae];exact yaj _)
  rw [cJ]
  simp -implicitDefEqProofs only [rX,↓reduceIte,aQ,aT,aF,aC,wfV]
  refine ⟨[.dead,.arr 5 ((itF m.l s).map It.enc)],⟨⟨trivial,aK _,trivial⟩,yan _,?_,?_⟩,?_⟩
  ·trivial
  ·simp [wfB]
  ·simp only [gvV,gvL,wk,wkL,wkR,blk,ybe,ybf,yaN,yaB,if_true,ht]
   simp
theorem Vr {m:Md} {k:Nat}:m.fn (k+1)=m.fn k+if m.fr k then 1 else 0:=by
 unfold Md.fn
 rw [ybo,yaG,yal]
 congr 1
 cases h:m.fr (k:Int)<;>simp [h]
theorem agV {m:Md} {k:Nat}:m.fn k≤k:=yaM (yaK _ _) (by rw [List.length_range];exact yaj _)
theorem akS (m:Md) (hl:m.l.length≤100000) (hs:0≤m.segs∧m.segs≤100000):Ok 11 [m.v] (Is (.i (m.fn m.segs.toNat))):=by
 refine cD lw11 (by simp) ?_
 unfold c11
 simp -implicitDefEqProofs only [rX,↓rY,aA,cells?,↓reduceIte,aE,cxN,aR,Md.v]
 refine a8 (fun k:Nat=>(⟨[(4,.i k),(3,.i (m.fn k)),(1,.ptr 0 0 0)],[.var [.ro 5 (m.l.map It.enc),.i m.segs,.i m.seg,.i m.next]],0⟩:St)) (fun k=>(k:Int)≤m.segs) (fun k=>m.segs.toNat-k) 0 (by omega) ?_ ?_
 ·simp -implicitDefEqProofs only [rX,↓reduceIte,Nat.reduceEqDiff,leE,leH,leB,leV,cN,aF,aC,wfE,wfB,wfV,wfL]
  exact ⟨rfl,rfl⟩
 intro k hk
 have hsu:=Vr (m:=m) (k:=k)
 have hle:=agV (m:=m) (k:=k)
 unfold c11l0
 simp -implicitDefEqProofs only [rX,↓rY,aA,↓reduceIte,Nat.reduceEqDiff,Nat.reduceAdd,aQ,aT,leE,leH,leB,leV,cN,aF,aC,wfE,wfB,wfV,wfL]
 cases hd:decide ((k:Int)<m.segs) with
 | true =>
  have hk2:(k:Int)<m.segs:=of_decide_eq_true hd
  rw [wd]
  cases h1:((k:Int) != m.seg) with
  | true =>
   rw [wd]
   refine aS (afS m k hl) (by simp [aJ,aU,aV,bO,wkL,wk,wkR,Md.v]) rfl trivial ?_
   simp -implicitDefEqProofs only [rX,↓rY,aA,↓reduceIte,Nat.reduceEqDiff,leE,leH,leB,leV,cN,aF,aC,wfE,wfB,wfV,wfL]
   cases h2:((m.inN k:Int)==0) with
   | true =>
    rw [wd]
    have hf:m.fr k=true:=by unfold Md.fr;rw [h1,yat];simpa using h2
    rw [hf,if_pos rfl] at hsu
    exact ⟨⟨by simp only [lo];omega,by simp only [hi];omega⟩,⟨by simp only [lo];omega,by simp only [hi];omega⟩,k+1,⟨by omega,by omega⟩,by omega,by rw [hsu];omega⟩
   | false =>
    rw [we]
    have hf:m.fr k=false:=by unfold Md.fr;rw [h1,yat];simpa using h2
    rw [hf] at hsu
    exact ⟨⟨by simp only [lo];omega,by simp only [hi];omega⟩,k+1,⟨by omega,by omega⟩,by omega,by rw [hsu];simp⟩
  | false =>
   rw [we]
   have hf:m.fr k=false:=by unfold Md.fr;rw [h1];rfl
   rw [hf] at hsu
   exact ⟨⟨by simp only [lo];omega,by simp only [hi];omega⟩,k+1,⟨by omega,by omega⟩,by omega,by rw [hsu];simp⟩
 | false =>
  rw [we]
  have hk2:¬(k:Int)<m.segs:=of_decide_eq_false hd
  have:m.segs.toNat=k:=by omega
  rw [this]
set_option maxRecDepth 20000
structure Pl where
 seg:Int
 slot:Int
 seq:Int
 deriving DecidableEq
def Pl.enc (p:Pl):List V:=[.i p.seg,.i p.slot,.i p.seq]
def Ck.pl (c:Ck):Pl:=⟨c.seg,c.slot,c.seq⟩
theorem Yx (x:Pl):x.enc.length=3:=rfl
theorem Ut (x:Pl):yao 3 x.enc=x.enc:=rfl
theorem Sx (x:Ck):yao 3 x.enc=x.pl.enc:=rfl
theorem ajU (x:Pl):x.enc.all isC=true:=rfl
def zPl:Pl:=⟨0,0,0⟩
def plO (next:List Ck) (l:List Pl) (k n:Nat) (e:Int):Pl :=
 if e=0∧k<l.length then l.getD k zPl else if e≠0∧n<next.length then (next.getD n ⟨0,0,0,[]⟩).pl else zPl
theorem akF (next:List Ck) (l:List Pl) (k n:Nat) (e:Int) (h1:next.length≤100000) (h2:l.length≤100000):Ok 55 [.ro 4 (next.map Ck.enc),.ro 3 (l.map Pl.enc),.i k,.i n,.i e] (Is (.agg (plO next l k n e).enc)):=by
 refine cD lw55 (by simp) ?_
 unfold c55
 simp -implicitDefEqProofs only [rX,↓rY,aA,cells?,splice,↓reduceIte,Nat.reduceEqDiff,Nat.reduceAdd,reduceCtorEq,aE,bK,aQ,aT,wfV,wfL,isC,Nat.reduceLeDiff,yai,yaf,cxN,j9,aR,Yx,Ut,Sx,ajU]
 have z:V.agg [V.v (Value.int IntKind.i64 0),V.v (Value.int IntKind.i64 0),V.v (Value.int IntKind.i64 0)]=V.agg zPl.enc:=rfl
 have g1:∀ h:k<l.length,l.getD k zPl=l[k]:=fun h=>by rw [yad,yah h];rfl
 have g2:∀ h:n<next.length,next.getD n ⟨0,0,0,[]⟩=next[n]:=fun h=>by rw [yad,yah h];rfl
 rw [z]
 have hB:e≠0→br (e != 0) (next.length≤maxLen→br (decide ((n:Int)<(next.length:Int))) ((0≤(n:Int)∧(n:Int)<(next.length:Int))∧∃ h:n<next.length,wfL [] next[n].pl.enc∧V.agg next[n].pl.enc=V.agg (plO next l k n e).enc) (V.agg zPl.enc=V.agg (plO next l k n e).enc)) (V.agg zPl.enc=V.agg (plO next l k n e).enc):=by
  intro he
  have hb:(e != 0)=true:=by simpa using he
  rw [hb,wd]
  intro hm
  cases hd:decide ((n:Int)<(next.length:Int)) with
  | true =>
   have hn:n<next.length:=by have:=of_decide_eq_true hd;omega
   rw [wd]
   refine ⟨⟨by omega,by omega⟩,hn,⟨trivial,trivial,trivial,trivial⟩,?_⟩
   unfold plO
   rw [if_neg (fun h=>he h.1),if_pos ⟨he,hn⟩,g2 hn]
  | false =>
   have hn:¬n<next.length:=by have:=of_decide_eq_false hd;omega
   rw [we]
   unfold plO
   rw [if_neg (fun h=>he h.1),if_neg (fun h=>hn h.2)]
 cases h0:e==0 with
 | true =>
  have he:e=0:=by simpa using h0
  subst he
  rw [wd]
  intro hm
  cases hd:decide ((k:Int)<(l.length:Int)) with
  | true =>
   have hn:k<l.length:=by have:=of_decide_eq_true hd;omega
   rw [wd]
   refine ⟨⟨by omega,by omega⟩,hn,⟨trivial,trivial,trivial,trivial⟩,?_⟩
   unfold plO
   rw [if_pos ⟨rfl,hn⟩,g1 hn]
  | false =>
   have hn:¬k<l.length:=by have:=of_decide_eq_false hd;omega
   rw [we,show ((0:Int) != 0)=false from rfl,we]
   unfold plO
   rw [if_neg (fun h=>hn h.2),if_neg (fun h=>h.1 rfl)]
 | false =>
  rw [we]
  exact hB (by simpa using h0)
structure Op where
 kind:Nat
 seg:Nat
 n:Nat
 key:Bs
 data:Bs
def Op.enc (x:Op):List V:=[.v (.int .u8 x.kind),.v (.int .u8 x.seg),.v (.int .u16 x.n),sv x.key,sv x.data]
theorem Zb (x:Op):x.enc.length=5:=rfl
theorem aeP (x:Op):x.enc[0]?=some (.v (.int .u8 x.kind)):=rfl
theorem ajW (x:Op):x.enc[1]?=some (.v (.int .u8 x.seg)):=rfl
theorem ajV (x:Op):x.enc[2]?=some (.v (.int .u16 x.n)):=rfl
theorem aeO (x:Op):x.enc[3]?=some (sv x.key):=rfl
theorem aeN (x:Op):x.enc[4]?=some (sv x.data):=rfl
theorem Uu (x:Op):yao 5 x.enc=x.enc:=rfl
theorem Cr {x:Op} {M:List Nat}:bB M x.enc=x.enc:=rfl
def shB (l:List Op):Bool:=(l.all fun x=>decide (x.key.length≤120∧x.data.length≤400))&&decide (l.length≤80)
theorem ok4 (l:List Op):Ok 4 [.ro 5 (l.map Op.enc)] (Is (.b (shB l))):=by
 refine cD lw4 (by simp) ?_
 unfold c4
 simp -implicitDefEqProofs only [rX,aA,cxN,aR]
 refine a8 (fun k:Nat=>(⟨[(3,.i k),(0,.ro 5 (l.map Op.enc))],[],0⟩:St)) (fun k=>k≤l.length∧(l.take k).all (fun x=>decide (x.key.length≤120∧x.data.length≤400))=true) (fun k=>l.length-k) 0 ⟨yan _,by simp⟩ ?_ ?_
 ·simp -implicitDefEqProofs only [rX,↓reduceIte,reduceCtorEq,leE,leH,aF,wfE,wfB,wfV]
  rfl
 rintro k ⟨hk,ha⟩
 unfold c4l0
 simp -implicitDefEqProofs only [rX,↓rY,aA,↓reduceIte,Nat.reduceEqDiff,reduceCtorEq,aQ,aT,leE,leH,aF,wfE,wfB,wfV,yai,yaf,dX,aeO,aeN]
 intro hm
 cases hd:decide ((k:Int)<(l.length:Int)) with
 | true =>
  have hk2:k<l.length:=by have:=of_decide_eq_true hd;omega
  rw [wd]
  refine ⟨⟨by omega,by omega⟩,hk2,?_⟩
  have hno:¬(l[k].key.length≤120∧l[k].data.length≤400)→shB l=false:=fun h=>by
   unfold shB
   rw [Bool.and_eq_false_iff]
   left
   rw [List.all_eq_false]
   exact ⟨l[k],yaD hk2,by simpa using h⟩
  cases h1:decide (120<(l[k].key.length:Int)) with
  | true =>
   have h1':=of_decide_eq_true h1
   rw [wd,hno (by omega)]
  | false =>
   have h1':=of_decide_eq_false h1
   rw [we]
   refine ⟨⟨by omega,by omega⟩,hk2,?_⟩
   cases h2:decide (400<(l[k].data.length:Int)) with
   | true =>
    have h2':=of_decide_eq_true h2
    rw [wd,hno (by omega)]
   | false =>
    have h2':=of_decide_eq_false h2
    rw [we]
    unfold maxLen at hm
    refine ⟨⟨by simp only [lo];omega,by simp only [hi];omega⟩,k+1,⟨⟨by omega,?_⟩,by omega⟩,by omega⟩
    rw [yaJ,yah hk2,List.all_append,ha,yat]
    simp
    omega
 | false =>
  rw [we]
  intro hm
  have hk2:k=l.length:=by have:=of_decide_eq_false hd;omega
  subst hk2
  rw [yaC] at ha
  unfold shB
  rw [ha,yat]
  congr 1
  exact propext ⟨fun h=>by omega,fun h=>by omega⟩
set_option maxRecDepth 20000
section
variable {cx:Cx} {f:FuncId} {e:Env} {b:Nat} {K:V→St→Prop}
theorem Gr (L:Lg) (S:MS) (B:List Blk) (args xs:List V) (Q:V→MS→Prop) (hC:cx.C f (.ptr 0 0 0::xs) (S.bs 0) (yab 3 S.n) (QF MS.bs (3+S.n) Q))
  (ha:∀ (H:List Blk) (g:Nat→Option Nat),aJ H g args∧wkL xs (aV H g args)) (hn:S.n=L.cells.length)
  (hbn:cx.bn=[]) (hfx:cx.fx=[0,1,2,3,4])
  (hB:B.map (aD (yab 5 S.n))=B)
  (h3:∀ (r:V) (S':MS),S'.n=S.n→Q r S'→(∀ g,ren g r=r)∧K r ⟨aB (yab 5 S.n) e,lgM L S' B,b⟩):cF cx f (.ptr 2 0 0::args) ⟨e,lgM L S B,b⟩ K:=by
 refine fD MS.bs 3 S.n (fun g hg p q f hf=>fN g.ok (by
  have h1:=hg 0
  rw [g.len] at h1
  intro j hj
  have hj2:j<3+g.n:=hj
  exact hf j (by omega))) [.var [.ptr 2 0 0,.sl 1 0 L.gens.length,.i L.top,.i L.seq,.sl (L.cells.length+5) 0 L.found.length,.i L.seg,.i L.next],.arr 1 (L.gens.map encI)] (.arr 4 (L.found.map Ck.enc)::B) S (fun p=>S.len) (by decide) args xs Q hC (ha _ _) (by rw [hbn];simp) (by rw [hfx];intro k hk;left;simp at hk;simp;omega) ?_ ?_ fun r S' h1 h2=>?_
 ·have h2:(2:Nat)∉yab (2+3) S.n:=fun h=>by have:=yag.1 h;omega
  have h1:(1:Nat)∉yab (2+3) S.n:=fun h=>by have:=yag.1 h;omega
  have h5:(L.cells.length+5:Nat)∉yab (2+3) S.n:=fun h=>by have:=yag.1 h;omega
  show [aD (yab (2+3) S.n) _,aD (yab (2+3) S.n) _]=_
  simp only [aD,bB,kill,if_neg h2,if_neg h1,if_neg h5]
 ·rw [yaw]
  show aD _ (.arr 4 _)::B.map (aD (yab (2+3) S.n))=_
  rw [show 2+3=5 from rfl,hB]
  rfl
 ·have hn':S'.n=S.n:=by have:=h1 0;rw [S'.len] at this;omega
  obtain ⟨q1,q2⟩:=h3 r S' hn' h2
  refine ⟨q1,?_,q2⟩
  rw [hfx]
  exact ⟨trivial,trivial,trivial,trivial,trivial,trivial⟩
theorem oS {f:FuncId} {xs:List V} {S:MS} {Q:V→MS→Prop} (h:OkD f xs S Q):OkN Tryz.prog f xs (S.bs 0) (yab 3 S.n) (QF MS.bs (3+S.n) Q):=by
 refine iR h ?_
 rintro r hs ⟨S',⟨h1,h2⟩,rfl⟩
 exact ⟨S',⟨fun p=>by rw [S'.len,h1],h2⟩,rfl⟩
end
def Lg.secs (L:Lg) (a b:Int):List Sec:=(yax 8).map fun j=>(L.cells.getD (cM a b+j) zC).s
def Lg.bts (L:Lg) (a b:Int):Bs:=flB (L.secs a b)
theorem nI {L:Lg} {a b:Int}:(L.secs a b).length=8:=by unfold Lg.secs;simp
theorem mP {L:Lg} {a b:Int}:(L.bts a b).length=512:=by unfold Lg.bts;rw [uX,nI]
structure Lg.Rdb (L:Lg) (a b:Int):Prop where
 ha:0≤a∧a≤100000
 hb:0≤b∧b<16
 c:cM a b+8≤L.cells.length
 g:∀ j,j<8→(L.cells.getD (cM a b+j) zC).bad=false
theorem Lg.Rdb.rd {L:Lg} {a b:Int} (h:L.Rdb a b):∀ (j:Nat) (hj:j<8),L.D.rd (a*129+1+b*8+(j:Int))=((L.secs a b)[j]'(by rw [nI];exact hj),0):=by
 intro j hj
 have ha:=h.ha
 have hb:=h.hb
 have hc:=h.c
 have e1:a*129+1+b*8+(j:Int)=((cM a b+j:Nat):Int):=by unfold cM;omega
 have hk:L.D.chk ((cM a b+j:Nat):Int)=0:=by
  unfold Dk.chk
  rw [if_neg (by show ¬(false=true);decide),if_neg (by show ¬(_∨(L.cells.length:Int)≤_);omega)]
 rw [e1]
 unfold Dk.rd
 rw [if_neg (by rw [hk];simp),yaf,L.op]
 show (if (L.cells.getD (cM a b+j) zC).bad=true then _ else _)=_
 rw [if_neg (by rw [h.g j hj];decide)]
 show ((L.cells.getD (cM a b+j) zC).s,(0:Int))=_
 simp only [Lg.secs,yai,List.getElem_range]
def rdS (o:Option b6) (c g:Int):Bs × Bs × Int:=match o with
 | some s=>if s.seq=c∧s.gen=g then (s.key,s.data,0) else ([],[],8)
 | none=>([],[],8)
def Lg.rdO (L:Lg) (a b c:Int):Bs × Bs × Int :=
 if L.found.any (Ck.isAt a b c) then
  rdS (j8 a b (L.bts a b)) c (L.gens.getD a.toNat 0)
 else ([],[],5)
def rdV (o:Bs × Bs × Int):V:=.tup [sv o.1,sv o.2.1,.i o.2.2]
theorem nZ {l:Bs} {H:List Blk} {g:Nat→Option Nat}:aJ H g (us l)∧wkL (us l) (aV H g (us l)):=by
 unfold us
 induction l with
 | nil=>exact ⟨trivial,trivial⟩
 | cons x r ih=>exact ⟨⟨trivial,ih.1⟩,rfl,ih.2⟩
theorem c17_parts:c17=.seq (pt 0 c17) (.seq (pt 1 c17) (.seq (pt 2 c17) (.seq (pt 3 c17) (.seq (pt 4 c17) (.seq (pt 5 c17) (.seq (pt 6 c17) (rt 7 c17))))))):=by rfl
section
variable {N:St→Prop} {X:Nat→St→Prop} {e:Env} {bb:Nat} {L:Lg} {a b c:Int} {n:Nat} {Q:V→Lg→Prop}
structure E17 (n:Nat) (e:Env):Prop where
 g0:get e 0=.ptr 0 0 0
 g3:get e 3=.ptr (n+6) 0 0
abbrev pB (a b c:Int):Blk:=.var [.i a,.i b,.i c]
theorem Fa {L:Lg} {B:List Blk} {k d:Bs} {q:Int} (hn:L.n=n) (g4:get e 4=sv k) (g5:get e 5=sv d) (g6:get e 6=.i q) (hQ:Q (.tup [sv k,sv d,.i q]) L):cK [0,1,2,3,4] (5+(n+1)) [.tmp 4,.tmp 5,.tmp 6] (QF Lg.bs (5+(n+1)) Q) ⟨e,lgX L B,bb⟩:=by
 have hh:leH (lgX L B) (lgH L):=by
  rw [←eC]
  exact cL
 refine sJ L hh hn ?_
 unfold lgX
 simp -implicitDefEqProofs only [rX,aQ,aT,wfV,wfL,aQ,aT,g4,g5,g6]
 exact hQ
theorem adJ {R:St→Prop} (hE:E17 L.n e) (hl:L.found.length≤100000) (hN:∀ e b',E17 L.n e→get e 7=.i (nF (Ck.isAt a b c) L.found)→N ⟨e,lgX L [pB a b c],b'⟩):aw (cxN Tryz.prog [0,1,2,3,4]) (pt 1 c17) N X R ⟨e,lgX L [pB a b c],bb⟩:=by
 obtain ⟨g0,g3⟩:=hE
 have g3':get e 3=.ptr (L.cells.length+6) 0 0:=g3
 conv=>arg 2;whnf
 unfold lgX
 simp -implicitDefEqProofs only [rX,↓rY,↓reduceIte,Nat.reduceEqDiff,Nat.reduceAdd,cxN,Nat.reduceEqDiff,g0,g3']
 have hle:L.found.length=(L.found.map Ck.enc).length:=by rw [yae]
 have hX:∀ X,(Blk.var [V.ptr 2 0 0,V.sl 1 0 L.gens.length,V.i L.top,V.i L.seq,V.sl (L.cells.length+5) 0 L.found.length,V.i L.seg,V.i L.next]::Blk.arr 1 (yac encI L.gens)::Blk.var [V.sl 3 0 L.cells.length,V.mp 4,V.i L.steps,V.i (-1),V.b false]::Blk.arr 65 (yac Cl.enc L.cells)::Blk.map [] L.c::(yaa L.cells.length Blk.dead++Blk.arr 4 (yac Ck.enc L.found)::X))=lgX L X:=fun X=>rfl
 simp only [hX]
 have hbk:blk (lgX L [pB a b c]) (L.cells.length+6)=pB a b c:=by unfold lgX;rw [Dx];rfl
 have hbf:blk (lgX L [pB a b c]) (L.cells.length+5)=.arr 4 (L.found.map Ck.enc):=by unfold lgX;rw [Iv];rfl
 have hset:(lgX L [pB a b c]).set (L.cells.length+6) (pB a b c)=lgX L [pB a b c]:=by unfold lgX;rw [fT];rfl
 refine eU [L.cells.length+6] [.bro 4 (L.found.map Ck.enc),.clo 44 [.ptr 0 0 0]] (.i (nF (Ck.isAt a b c) L.found)) (.i (nF (Ck.isAt a b c) L.found)) [pB a b c] [pB a b c] (lgX L [pB a b c]) (akJ L.found hl a b c) ⟨by simp,fun k hk=>?_⟩ ?_ ?_ (by simp) ?_ rfl o9 ?_
 ·rw [yaS] at hk
  subst hk
  refine ⟨?_,by simp⟩
  rw [←eC,yal,uS]
  show L.cells.length+6<5+(L.cells.length+1)+1
  omega
 ·simp only [yaw,yaL,hbk]
  rfl
 ·refine ⟨⟨?_,?_,trivial⟩,?_,?_,trivial⟩
  ·simp [aU,hbf,pos]
  ·simp [aU,aJ,pos]
  ·have ht:yao L.found.length (L.found.map Ck.enc)=L.found.map Ck.enc:=yap (by rw [yae];exact yaj _)
   simp [bO,hbf,pos,wk,wkB,ht]
  ·simp [bO,aV,pos,wk,wkL]
 ·simp only [yaw,yaL,aY]
  rw [yak]
  exact hset
 ·simp -implicitDefEqProofs only [rX,↓reduceIte]
  exact hN _ _ ⟨g0,g3⟩ rfl
theorem adI (hn:L.n=n) (hE:E17 L.n e) (g7:get e 7=.i (nF (Ck.isAt a b c) L.found)) (hQ:L.found.any (Ck.isAt a b c)=false→Q (rdV (L.rdO a b c)) L) (hN:L.found.any (Ck.isAt a b c)=true→∀ e b',E17 L.n e→N ⟨e,lgX L [pB a b c],b'⟩):aw (cxN Tryz.prog [0,1,2,3,4]) (pt 2 c17) N X (cK [0,1,2,3,4] (5+(n+1)) [.tmp 4,.tmp 5,.tmp 6] (QF Lg.bs (5+(n+1)) Q)) ⟨e,lgX L [pB a b c],bb⟩:=by
 obtain ⟨g0,g3⟩:=hE
 conv=>arg 2;whnf
 simp -implicitDefEqProofs only [rX,↓rY,aA,↓reduceIte,cxN,dM,g7]
 cases h:L.found.any (Ck.isAt a b c) with
 | true =>
  obtain ⟨k,hk,-⟩:=Vl h
  rw [hk,decide_eq_false (by omega),we]
  exact hN h _ _ ⟨g0,g3⟩
 | false =>
  rw [Vk h,show decide ((-1:Int)<0)=true from rfl,wd]
  refine Fa (k:=[]) (d:=[]) (q:=5) hn rfl rfl rfl ?_
  have:L.rdO a b c=([],[],5):=by unfold Lg.rdO;rw [h];rfl
  have:=hQ h
  rw [‹L.rdO a b c=([],[],5)›] at this
  exact this
theorem adH {R:St→Prop} (hr:L.Rdb a b) (hE:E17 L.n e) (hN:∀ e b',E17 L.n e→get e 8=.ptr (L.n+7) 0 0→get e 9=.i 0→N ⟨e,lgX L [pB a b c,.var (us (L.bts a b))],b'⟩):aw (cxN Tryz.prog [0,1,2,3,4]) (pt 3 c17) N X R ⟨e,lgX L [pB a b c],bb⟩:=by
 obtain ⟨g0,g3⟩:=hE
 have g3':get e 3=.ptr (L.cells.length+6) 0 0:=g3
 conv=>arg 2;whnf
 unfold lgX
 simp -implicitDefEqProofs only [rX,↓rY,rdK,aA,cells?,↓reduceIte,Nat.reduceEqDiff,Nat.reduceAdd,aE,cxN,dC,gR,sA,dD,Nat.reduceEqDiff,g0,g3']
 have hX:∀ X,(Blk.var [V.ptr 2 0 0,V.sl 1 0 L.gens.length,V.i L.top,V.i L.seq,V.sl (L.cells.length+5) 0 L.found.length,V.i L.seg,V.i L.next]::Blk.arr 1 (yac encI L.gens)::Blk.var [V.sl 3 0 L.cells.length,V.mp 4,V.i L.steps,V.i (-1),V.b false]::Blk.arr 65 (yac Cl.enc L.cells)::Blk.map [] L.c::(yaa L.cells.length Blk.dead++Blk.arr 4 (yac Ck.enc L.found)::X))=lgM L L.S X:=fun X=>Ax
 simp only [hX]
 have hok:=oS (afO L.S a b (L.secs a b) hr.ha (by have:=hr.hb;omega) nI hr.rd)
 obtain ⟨u1,u2,u3⟩:=pP (mP (L:=L) (a:=a) (b:=b))
 have u1':(us (flB (L.secs a b))).length=512:=u1
 have k0:∀ {e:Env},get e 0=.ptr 0 0 0→get (aB (yab 5 (L.cells.length)) e) 0=.ptr 0 0 0:=fun g=>by rw [aH,g];simp [kill]
 have k3:∀ {e:Env} {i j:Nat},get e i=.ptr (L.cells.length+(6+j)) 0 0→get (aB (yab 5 (L.cells.length)) e) i=.ptr (L.cells.length+(6+j)) 0 0:=fun g=>by
  rw [aH,g]
  simp only [kill]
  rw [if_neg fun hm=>by have:=yag.1 hm;omega]
 have m7:(L.cells.length+7∈yab 5 L.S.n)=False:=eq_false fun hm=>by
  have:=yag.1 hm
  have h2:L.S.n=L.cells.length:=rfl
  omega
 have hz:us (flB (L.secs a b))++yaT 512 (yac V.v (Array.replicate 512 (Value.int IntKind.u8 0)).toList)=us (L.bts a b):=zD 512 mP
 constructor
 ·refine Gr L L.S [pB a b c,.dead] [.i a,.i b] [.i a,.i b] _ hok (fun _ _=>⟨⟨trivial,trivial,trivial⟩,rfl,rfl,trivial⟩) rfl rfl rfl (by simp [aD,bB,kill]) ?_
  rintro r S'-⟨rfl,rfl⟩
  refine ⟨fun g=>by simp [ren,dO,cU],?_⟩
  rw [←Ax]
  unfold lgX
  simp -implicitDefEqProofs only [rX,↓rY,aA,cells?,splice,↓reduceIte,Nat.reduceEqDiff,aE,aB,kill,St.kill,gR,sA,Nat.reduceEqDiff,u1',pQ,zD 512 mP]
  rw [hz]
  exact ⟨by simp,hN _ _ ⟨k0 g0,k3 (j:=0) g3'⟩ rfl rfl⟩
 ·refine Gr L L.S [pB a b c,.var (yac V.v (Array.replicate 512 (Value.int IntKind.u8 0)).toList)] [.i a,.i b] [.i a,.i b] _ hok (fun _ _=>⟨⟨trivial,trivial,trivial⟩,rfl,rfl,trivial⟩) rfl rfl rfl (by rw [zU 512];simp [aD,bB,kill,iL]) ?_
  rintro r S'-⟨rfl,rfl⟩
  refine ⟨fun g=>by simp [ren,dO,cU],?_⟩
  rw [←Ax]
  unfold lgX
  simp -implicitDefEqProofs only [rX,↓rY,cells?,↓reduceIte,Nat.reduceEqDiff,aB,kill,St.kill,Nat.reduceEqDiff,zD 512 mP]
  simp only [m7,if_false]
  simp -implicitDefEqProofs only [rX,↓rY,splice,gR,sA,u1',pQ]
  rw [hz]
  exact ⟨by simp,hN _ _ ⟨k0 g0,k3 (j:=0) g3'⟩ rfl rfl⟩
theorem adG {R:St→Prop} (hE:E17 L.n e) (g8:get e 8=.ptr (L.n+7) 0 0) (g9:get e 9=.i 0) {B:List Blk} (hN:∀ e b',E17 L.n e→get e 8=.ptr (L.n+7) 0 0→N ⟨e,lgX L B,b'⟩):aw (cxN Tryz.prog [0,1,2,3,4]) (pt 4 c17) N X R ⟨e,lgX L B,bb⟩:=by
 obtain ⟨g0,g3⟩:=hE
 conv=>arg 2;whnf
 simp -implicitDefEqProofs only [rX,↓rY,aA,↓reduceIte,Nat.reduceEqDiff,cxN,dM,g9]
 rw [show ((0:Int) != 0)=false from rfl,we]
 exact hN _ _ ⟨g0,g3⟩ g8
abbrev aaC (a b c:Int) (bs:Bs) (o:Option b6):List Blk:=[pB a b c,.var (us bs),.var (slE o)]
theorem Jj {o:Option b6}:(slE o).length=4:=by cases o<;>rfl
theorem Wx {o:Option b6}:(slE o).all isC=true:=by cases o<;>rfl
theorem Ep {o:Option b6} {g:Nat→Option Nat}:dO g (slE o)=slE o:=by cases o<;>rfl
theorem adF {R:St→Prop} {bs:Bs} (hb:bs.length=512) (h64:In64 [a,b]) (hE:E17 L.n e) (g8:get e 8=.ptr (L.n+7) 0 0) (hN:∀ e b',E17 L.n e→get e 10=.ptr (L.n+8) 0 0→get e 11=.b (j8 a b bs).isSome→N ⟨e,lgX L (aaC a b c bs (j8 a b bs)),b'⟩):aw (cxN Tryz.prog [0,1,2,3,4]) (pt 5 c17) N X R ⟨e,lgX L [pB a b c,.var (us bs)],bb⟩:=by
 obtain ⟨g0,g3⟩:=hE
 have g3':get e 3=.ptr (L.cells.length+6) 0 0:=g3
 have g8':get e 8=.ptr (L.cells.length+7) 0 0:=g8
 obtain ⟨u1,u2,u3⟩:=pP hb
 conv=>arg 2;whnf
 unfold lgX
 simp -implicitDefEqProofs only [rX,↓rY,↓reduceIte,Nat.reduceEqDiff,Nat.reduceAdd,cxN,dM,dC,gR,dD,Nat.reduceEqDiff,g3',g8',u1,u2]
 refine aS (afN a b bs hb h64) ⟨⟨trivial,trivial,nZ.1,trivial⟩,rfl,rfl,nZ.2,trivial⟩ ?_ ⟨trivial,trivial,trivial,trivial,trivial,trivial⟩ ?_
 ·simp [ren,dO,Ep]
 simp -implicitDefEqProofs only [rX,↓rY,aA,cells?,splice,↓reduceIte,Nat.reduceEqDiff,Nat.reduceAdd,aE,j7,o0,Nat.reduceEqDiff,Jj,Wx]
 exact hN _ _ ⟨g0,g3⟩ rfl rfl
theorem adE (hn:L.n=n) {bs:Bs} {o:Option b6} (ha:0≤a∧a<L.gens.length) (hE:E17 L.n e) (g10:get e 10=.ptr (L.n+8) 0 0) (g11:get e 11=.b o.isSome) (hQ:Q (rdV (rdS o c (L.gens.getD a.toNat 0))) L):aw (cxN Tryz.prog [0,1,2,3,4]) (pt 6 c17) (fun s'=>aw (cxN Tryz.prog [0,1,2,3,4]) (rt 7 c17) N X (cK [0,1,2,3,4] (5+(n+1)) [.tmp 4,.tmp 5,.tmp 6] (QF Lg.bs (5+(n+1)) Q)) s') X (cK [0,1,2,3,4] (5+(n+1)) [.tmp 4,.tmp 5,.tmp 6] (QF Lg.bs (5+(n+1)) Q)) ⟨e,lgX L (aaC a b c bs o),bb⟩:=by
 obtain ⟨g0,g3⟩:=hE
 have g3':get e 3=.ptr (L.cells.length+6) 0 0:=g3
 have g10':get e 10=.ptr (L.cells.length+8) 0 0:=g10
 have hX:∀ X,(Blk.var [V.ptr 2 0 0,V.sl 1 0 L.gens.length,V.i L.top,V.i L.seq,V.sl (L.cells.length+5) 0 L.found.length,V.i L.seg,V.i L.next]::Blk.arr 1 (yac encI L.gens)::Blk.var [V.sl 3 0 L.cells.length,V.mp 4,V.i L.steps,V.i (-1),V.b false]::Blk.arr 65 (yac Cl.enc L.cells)::Blk.map [] L.c::(yaa L.cells.length Blk.dead++Blk.arr 4 (yac Ck.enc L.found)::X))=lgX L X:=fun X=>rfl
 conv=>arg 2;whnf
 unfold lgX
 cases o with
 | none =>
  simp -implicitDefEqProofs only [rX,↓rY,aA,↓reduceIte,Nat.reduceEqDiff,Nat.reduceAdd,cxN,dM,Nat.reduceEqDiff,g11,Option.isSome]
  simp only [hX]
  exact Fa (k:=[]) (d:=[]) (q:=8) hn rfl rfl rfl hQ
 | some s =>
  simp -implicitDefEqProofs only [rX,↓rY,aA,↓reduceIte,Nat.reduceEqDiff,eG,Nat.reduceAdd,reduceCtorEq,yai,cxN,pE,dM,dC,j7,Nat.reduceEqDiff,g0,g3',g10',g11,Option.isSome,slE,b6.enc]
  simp only [hX]
  have hlt:a.toNat<L.gens.length:=by omega
  have hgd:L.gens.getD a.toNat 0=L.gens[a.toNat]:=by rw [yad,yah hlt];rfl
  simp only [rdS] at hQ
  cases h1:s.seq != c with
  | true =>
   have h1':¬s.seq=c:=by simpa using h1
   rw [if_neg (fun h=>h1' h.1)] at hQ
   rw [wd]
   exact Fa (k:=[]) (d:=[]) (q:=8) hn rfl rfl rfl hQ
  | false =>
   have h1':s.seq=c:=by simpa using h1
   rw [we]
   refine ⟨⟨ha.1,ha.2⟩,hlt,?_⟩
   cases h2:s.gen != L.gens[a.toNat] with
   | true =>
    have h2':¬s.gen=L.gens[a.toNat]:=by simpa using h2
    rw [hgd,if_neg (fun h=>h2' h.2)] at hQ
    rw [wd]
    exact Fa (k:=[]) (d:=[]) (q:=8) hn rfl rfl rfl hQ
   | false =>
    have h2':s.gen=L.gens[a.toNat]:=by simpa using h2
    rw [hgd,if_pos ⟨h1',h2'⟩] at hQ
    rw [we]
    conv=>arg 2;whnf
    unfold lgX
    simp -implicitDefEqProofs only [rX,↓rY,aA,↓reduceIte,Nat.reduceEqDiff,Nat.reduceAdd,j7,Nat.reduceEqDiff,g10',aaC,slE,b6.enc]
    simp only [hX]
    exact Fa (k:=s.key) (d:=s.data) (q:=0) hn rfl rfl rfl hQ
end
theorem Va (L:Lg) (a b c:Int) (hl:L.found.length≤100000) (h:L.found.any (Ck.isAt a b c)=true→L.Rdb a b∧a<L.gens.length):OkL 17 [.ptr 0 0 0,.agg [.i a,.i b,.i c]] L (fun r L'=>L'=L∧r=rdV (L.rdO a b c)):=by
 refine i9 lw17 (by simp) ?_
 rw [c17_parts,zb]
 conv=>arg 2;whnf
 simp -implicitDefEqProofs only [rX,↓rY,aA,cells?,↓reduceIte,reduceCtorEq,aE,cxN,dM,dC,fT,dD,lgH,aR]
 have hX:∀ X,(Blk.var [V.ptr 2 0 0,V.sl 1 0 L.gens.length,V.i L.top,V.i L.seq,V.sl (L.cells.length+5) 0 L.found.length,V.i L.seg,V.i L.next]::Blk.arr 1 (yac encI L.gens)::Blk.var [V.sl 3 0 L.cells.length,V.mp 4,V.i L.steps,V.i (-1),V.b false]::Blk.arr 65 (yac Cl.enc L.cells)::Blk.map [] L.c::(yaa L.cells.length Blk.dead++Blk.arr 4 (yac Ck.enc L.found)::X))=lgX L X:=fun X=>rfl
 simp only [hX]
 try rw [zb]
 refine adJ (a:=a) (b:=b) (c:=c) ⟨rfl,rfl⟩ hl fun e b' hE g7=>?_
 rw [zb]
 refine adI rfl hE g7 (fun h1=>⟨rfl,rfl⟩) fun hany e b' hE=>?_
 obtain ⟨hr,hag⟩:=h hany
 rw [zb]
 refine adH hr hE fun e b' hE g8 g9=>?_
 rw [zb]
 refine adG hE g8 g9 fun e b' hE g8=>?_
 rw [zb]
 refine adF mP (by
  have:=hr.ha
  have:=hr.hb
  intro x hx
  simp only [yaP,ybd,or_false] at hx
  rcases hx with rfl|rfl<;>omega) hE g8 fun e b' hE g10 g11=>?_
 rw [zb]
 refine adE rfl ⟨hr.ha.1,hag⟩ hE g10 g11 ⟨rfl,?_⟩
 unfold Lg.rdO
 rw [if_pos hany]
set_option maxRecDepth 20000
def fB {α:Type} (p:α→Bool) (l:List α):List α:=l.filter fun x=>!p x
def An {α:Type} (p:α→Bool) (id:α→Int) (l:List α):List Int:=(l.filter p).map id
theorem Ba {α:Type} {p:α→Bool} {l:List α}:(fB p l).length≤l.length:=yaK _ _
theorem rO {α:Type} {p:α→Bool} {id:α→Int} {l:List α} {j:Nat} (h:j<l.length):fB p (l.take (j+1))=fB p (l.take j)++(if p l[j]=true then [] else [l[j]])∧An p id (l.take (j+1))=An p id (l.take j)++(if p l[j]=true then [id l[j]] else []):=by
 unfold fB An
 rw [List.take_succ_eq_append_getElem h,yaG,yaG,yas]
 cases h:p l[j]<;>simp [h]
theorem Gk {α:Type} {p:α→Bool} {id:α→Int} {l:List α} (h:∀ j (hj:j<l.length),p l[j]=false):fB p l=l∧An p id l=[]:=by
 have h':∀ x∈l,p x=false:=fun x hx=>by
  obtain ⟨j,hj,rfl⟩:=ybE hx
  exact h j hj
 refine ⟨ybx.2 fun x hx=>by rw [h' x hx];rfl,?_⟩
 unfold An
 rw [ybu.2 fun x hx=>by rw [h' x hx];simp]
 rfl
def gI {α:Type} (p:α→Bool) (l:List α) (j:Nat):List α:=fB p (l.take j)++l.drop (fB p (l.take j)).length
theorem mI {α:Type} {p:α→Bool} {l:List α} {j:Nat}:(fB p (l.take j)).length≤j:=yaM Ba (by simp;omega)
theorem sE {α:Type} {p:α→Bool} {l:List α} {j:Nat} (hj:j≤l.length):(gI p l j).length=l.length:=by
 have:=mI (p:=p) (l:=l) (j:=j)
 unfold gI
 simp
 omega
theorem Oz {α:Type} {p:α→Bool} {l:List α} {j:Nat} (hj:j<l.length):(gI p l j)[j]'(by rw [sE (by omega)];exact hj)=l[j]:=by
 have:=mI (p:=p) (l:=l) (j:=j)
 unfold gI
 rw [List.getElem_append_right this,List.getElem_drop]
 congr 1
 omega
theorem Me {α:Type} {p:α→Bool} {l:List α} {j:Nat} (hj:j<l.length) (h:p l[j]=true):gI p l (j+1)=gI p l j:=by
 unfold gI
 rw [(rO (id:=fun _=>0) hj).1,if_pos h,yak]
theorem Oy {α:Type} {p:α→Bool} {l:List α} {j:Nat} (hj:j<l.length) (h:p l[j]=false):gI p l (j+1)=(gI p l j).set (fB p (l.take j)).length l[j]:=by
 have:=mI (p:=p) (l:=l) (j:=j)
 have hd:=ybw (l:=l) (i:=(fB p (l.take j)).length) (by omega)
 unfold gI
 rw [(rO (id:=fun _=>0) hj).1,h,if_neg (by simp),yal,yaF _ _ (yaj _),yaY,hd,List.set_cons_zero,yav]
 rfl
theorem Mf {α:Type} {p:α→Bool} {l:List α} {g:α→List V}:((gI p l l.length).map g).take (fB p l).length=(fB p l).map g∧((gI p l l.length).map g).drop ((fB p l).length+(l.length-(fB p l).length))=[]:=by
 have:=sE (p:=p) (l:=l) (yaj _)
 have hk:=Ba (p:=p) (l:=l)
 refine ⟨?_,List.drop_eq_nil_of_le (by rw [yae];omega)⟩
 unfold gI
 rw [yaC,←List.map_take,List.take_left]
theorem Ex {α:Type} {p:α→Bool} {l:List α} {k:Nat} (hk:k<l.length) (h:p l[k]=true) (hno:∀ j (hj:j<l.length),j<k→p l[j]=false) (id:α→Int):fB p (l.take (k+1))=l.take k∧gI p l (k+1)=l∧An p id (l.take (k+1))=[id l[k]]:=by
 have hn:=Gk (p:=p) (id:=id) (l:=l.take k) fun j hj=>by
  rw [List.getElem_take]
  exact hno j (by simp at hj;omega) (by simp at hj;omega)
 have hs:=rO (p:=p) (id:=id) hk
 rw [if_pos h,if_pos h,hn.1,hn.2,yak,yam] at hs
 refine ⟨hs.1,?_,hs.2⟩
 unfold gI
 rw [hs.1,ybG (by omega),List.take_append_drop]
def sgP (s:Int) (x:Ck):Bool:=x.seg==s
theorem afH (x:Ck) (s:Int):OkN Tryz.prog 49 [.agg x.enc,.ptr 0 0 0] [.var [.i s]] [] (IsA (.b (sgP s x)) [.var [.i s]]):=by
 refine e6 pol [0] lw49 (by simp) ⟨trivial,trivial⟩ (by simp) ?_
 unfold c49
 simp -implicitDefEqProofs only [rX,↓rY,aA,cells?,↓reduceIte,Nat.reduceEqDiff,Nat.reduceAdd,reduceCtorEq,aE,aQ,aT,leH,leB,leV,cN,aF,aC,wfB,wfV,wfL,cxN,aR,Nat.reduceEqDiff,dJ,Ck.enc]
 rfl
theorem afK (l:List Ck) (hl:l.length≤100000) (s:Int):OkN Tryz.prog 43 [.bro 4 (l.map Ck.enc),.clo 49 [.ptr 0 0 0]] [.var [.i s]] [] (IsA (.i (nF (sgP s) l)) [.var [.i s]]):=by
 refine e6 pol [0] lw43 (by simp) ⟨trivial,trivial⟩ (by simp) ?_
 unfold c43
 simp -implicitDefEqProofs only [rX,↓rY,aA,↓reduceIte,reduceCtorEq,cxN,aR]
 intro hm
 refine a8 (fun k:Nat=>⟨[(8,.i k),(7,.i l.length),(1,.clo 49 [.ptr 0 0 0]),(0,.bro 4 (l.map Ck.enc))],[.var [.i s]],0⟩) (fun k=>k≤l.length∧NF (sgP s) l k) (fun k=>l.length-k) 0 ⟨by omega,.zero⟩ ?_ ?_
 ·simp -implicitDefEqProofs only [rX,↓reduceIte,Nat.reduceEqDiff,reduceCtorEq,leE,leH,leB,leV,cN,aF,aC,wfE,wfB,wfV,wfL,Nat.reduceEqDiff,Int.natCast_zero]
 rintro k ⟨hk,hv⟩
 unfold c43l0
 simp -implicitDefEqProofs only [rX,↓rY,aA,↓reduceIte,Nat.reduceEqDiff,reduceCtorEq,yai,yaf,j9,hU,Nat.reduceEqDiff]
 simp only [br,yaf,decide_eq_true_eq,decide_eq_false_iff_not]
 refine ⟨fun h=>⟨⟨by omega,h⟩,by omega,?_⟩,fun h=>?_⟩
 ·have hk:k<l.length:=by omega
  refine eU [0] [.agg l[k].enc,.ptr 0 0 0] (.b (sgP s l[k])) (.b (sgP s l[k])) [.var [.i s]] [.var [.i s]] _ (afH l[k] s) ⟨by simp,by simp⟩ rfl ?_ (by simp) rfl rfl ?_ ?_
  ·simp [aJ,aU,aV,bO,wkL,wk,wkR,pos,Ck.enc]
  ·simp [aY,aF,aC,bD]
  cases hb:sgP s l[k] with
  | true =>
   simp -implicitDefEqProofs only [rX,↓rY,↓reduceIte,Nat.reduceEqDiff,aQ,aT,leH,leB,leV,cN,aF,aC,wfB,wfV,wfL,Nat.reduceEqDiff,aY,bD,dJ,dO,ren]
   exact (hv.at (p:=sgP s) hk hb).symm
  | false =>
   simp -implicitDefEqProofs only [rX,↓rY,aA,↓reduceIte,Nat.reduceEqDiff,reduceCtorEq,leE,leH,leB,leV,cN,aF,aC,wfE,wfB,wfV,wfL,Nat.reduceEqDiff,aY,bD,dO,ren]
   exact ⟨by simp only [lo,hi,maxLen] at *;omega,k+1,⟨⟨by omega,hv.step hk hb⟩,by omega⟩,by simp⟩
 ·simp -implicitDefEqProofs only [rX,↓reduceIte,aQ,aT,leH,leB,leV,cN,aF,aC,wfB,wfV,wfL,dJ]
  exact (hv.no (by omega)).symm
theorem aeJ (l:List Ck) (s:Int) (hl:l.length≤100000) :
  OkN Tryz.prog 48 [.sl 1 0 l.length,.clo 49 [.ptr 0 0 0]] [.var [.i s],.arr 4 (l.map Ck.enc)] [] (IsA (.sl 1 0 (fB (sgP s) l).length) [.var [.i s],.arr 4 ((fB (sgP s) l).map Ck.enc++yaa (l.length-(fB (sgP s) l).length) [.i 0,.i 0,.i 0,sv []])]):=by
 refine e6 pol [0,1] lw48 (by simp) ⟨trivial,trivial,trivial⟩ (by simp;omega) ?_
 unfold c48
 have htl:yao l.length (yac Ck.enc l)=yac Ck.enc l:=yap (by simp)
 simp -implicitDefEqProofs only [rX,aA,↓reduceIte,Nat.reduceEqDiff,Nat.reduceAdd,reduceCtorEq,cxN,dM,aR]
 refine eU [0] [.bro 4 (l.map Ck.enc),.clo 49 [.ptr 0 0 0]] (.i (nF (sgP s) l)) (.i (nF (sgP s) l)) [.var [.i s]] [.var [.i s]] [.var [.i s],.arr 4 (l.map Ck.enc)] (afK l hl s) (by simp) rfl (by simp [aJ,aU,aV,bO,wkL,wk,wkR,wkB,pos,blk,htl]) (by simp) rfl rfl ⟨trivial,trivial,trivial⟩ ?_
 by_cases hany:∃ k,∃ hk:k<l.length,(sgP s) l[k]=true∧∀ j (hj:j<l.length),j<k→(sgP s) l[j]=false
 ·obtain ⟨k,hk,hp,hno⟩:=hany
  have hf:nF (sgP s) l=k:=NF.at ⟨fun j hj hjk=>hno j hj hjk⟩ hk hp
  obtain ⟨s1,s2,s3⟩:=Ex hk hp hno Ck.seq
  have hne:(((k:Int))==-1)=false:=by simp
  simp -implicitDefEqProofs only [rX,↓rY,aA,↓reduceIte,Nat.reduceEqDiff,Nat.reduceAdd,reduceCtorEq,yat,hf,hne]
  refine ⟨by simp only [lo,hi];omega,?_⟩
  refine a8 (fun j:Nat=>⟨[(6,.i j),(5,.i (fB (sgP s) (l.take j)).length),(0,.sl 1 0 l.length),(1,.clo 49 [.ptr 0 0 0])],[.var [.i s],.arr 4 ((gI (sgP s) l j).map Ck.enc)],2⟩) (fun j=>j≤l.length) (fun j=>l.length-j) (k+1) (by omega) ?_ ?_
  ·simp -implicitDefEqProofs only [rX,↓reduceIte,Nat.reduceEqDiff,reduceCtorEq,leE,leH,leB,leV,cN,aF,aC,wfE,wfB,wfV,wfL,yat,s1,s2,ybG (Nat.le_of_lt hk)]
   omega
  rintro j hj
  unfold c48l0
  have hkt:=mI (p:=sgP s) (l:=l) (j:=j)
  have hrl:=sE (p:=sgP s) hj
  rcases Nat.lt_or_ge j l.length with hj'|hj'
  ·have hd:decide ((j:Int)<(l.length:Int))=true:=decide_eq_true (by omega)
   have hjj:(0:Int)≤j∧(j:Int)<l.length:=⟨by omega,by omega⟩
   obtain ⟨t1,t2⟩:=rO (p:=sgP s) (id:=Ck.seq) hj'
   simp -implicitDefEqProofs only [rX,↓rY,aA,cells?,splice,↓reduceIte,Nat.reduceEqDiff,eG,Nat.reduceAdd,reduceCtorEq,aE,yai,yaf,dM,List.drop_succ_cons,yat,hd,j9,hU,My]
   intro hm
   refine ⟨hjj,by rw [hrl];exact hj',?_⟩
   rw [Oz hj']
   refine eU [0] [.agg l[j].enc,.ptr 0 0 0] (.b (sgP s l[j])) (.b (sgP s l[j])) [.var [.i s]] [.var [.i s]] ([.var [.i s],.arr 4 ((gI (sgP s) l j).map Ck.enc)]++[.var l[j].enc]) (afH l[j] s) (by simp) (by simp [blk,bD,dO,ren,pos]) (by simp [aJ,aU,aV,bO,wkL,wk,wkR,pos,Ck.enc]) (by simp) (by simp [aY,bD,dO,ren,back,pos,aD,bB,kill,Ck.enc]) rfl (by simp [aF,aC]) ?_
   cases h:(sgP s) l[j] with
   | true =>
    rw [if_pos h,yak] at t1
    have hy:=Me hj' h
    simp -implicitDefEqProofs only [rX,↓rY,aA,↓reduceIte,Nat.reduceEqDiff,Nat.reduceAdd,reduceCtorEq,leE,leH,leB,leV,cN,aF,aC,wfE,wfB,wfV,wfL,yat]
    exact ⟨by simp only [lo,hi];omega,j+1,⟨hj',by omega⟩,⟨by omega,by rw [t1]⟩,by rw [hy]⟩
   | false =>
    rw [h,if_neg (by simp)] at t1
    have hy:=Oy hj' h
    simp -implicitDefEqProofs only [rX,↓rY,aA,cells?,splice,↓reduceIte,Nat.reduceEqDiff,eG,Nat.reduceAdd,reduceCtorEq,leE,leH,leB,leV,cN,aF,aC,wfE,wfB,wfV,wfL,yai,yaf,yat,j9,hU,My,Wc,Dp]
    exact ⟨⟨by omega,by omega⟩,by rw [hrl];omega,by simp only [lo,hi];omega,by simp only [lo,hi];omega,j+1,⟨hj',by omega⟩,⟨by omega,by rw [t1,yal];rfl⟩,by rw [hy,ybi]⟩
  ·have hd:decide ((j:Int)<(l.length:Int))=false:=decide_eq_false (by omega)
   have hje:j=l.length:=by omega
   subst hje
   obtain ⟨n1,n2⟩:=Mf (p:=sgP s) (l:=l) (g:=Ck.enc)
   simp -implicitDefEqProofs only [rX,↓rY,kD,↓reduceIte,Nat.reduceEqDiff,eG,Nat.reduceAdd,reduceCtorEq,bW,↓qbO,↓qbQ,yaf,dM,yat,hd]
   intro hm
   rw [yaC] at hkt ⊢
   refine ⟨⟨⟨by omega,by omega⟩,by omega⟩,by rw [hrl];omega,⟨⟨by omega,by omega⟩,by omega,by omega⟩,?_⟩
   rw [dJ,n1,n2]
   simp -implicitDefEqProofs only [rX,↓reduceIte,Nat.reduceAdd,aQ,aT,leH,leB,leV,cN,aF,aC,wfB,wfV,wfL,Int.toNat_zero,Nat.sub_zero]
 ·have hno:∀ j (hj:j<l.length),(sgP s) l[j]=false:=by
   intro j
   induction j using Nat.strongRecOn with
   | ind j ih =>
    intro hj
    cases h:(sgP s) l[j] with
    | false=>rfl
    | true=>exact absurd ⟨j,hj,h,fun i hi hlt=>ih i hlt hi⟩ hany
  have hf:nF (sgP s) l=-1:=NF.no (k:=l.length) ⟨fun j hj _=>hno j hj⟩ (yaj _)
  obtain ⟨e1,e2⟩:=Gk (id:=Ck.seq) hno
  have hme:((-1:Int)==-1)=true:=rfl
  simp -implicitDefEqProofs only [rX,↓rY,aA,↓reduceIte,Nat.reduceEqDiff,Nat.reduceAdd,reduceCtorEq,aQ,aT,leH,leB,leV,cN,aF,aC,wfB,wfV,wfL,yat,hf,hme,dJ,e1,yaY]
theorem akH (l:List Ck) (s:Int) (hl:l.length≤100000) :
  OkN Tryz.prog 48 [.sl 1 0 l.length,.clo 49 [.ptr 0 0 0]] [.var [.i s],.arr 4 (l.map Ck.enc)] [] (IsA (.sl 1 0 (l.filter fun x=>x.seg != s).length) [.var [.i s],.arr 4 ((l.filter fun x=>x.seg != s).map Ck.enc)]):=by
 have h:=aeJ l s hl
 have hk:fB (sgP s) l=l.filter fun x=>x.seg != s:=rfl
 rw [hk] at h
 refine ⟨h.1,tH [0,1] (by simp;omega) (by simp) h.2 ?_⟩
 rintro r hs ⟨rfl,rfl⟩
 refine ⟨⟨trivial,trivial,trivial⟩,_,_,⟨rfl,rfl⟩,by simp,_,.shr 1 4 (l.filter fun x=>x.seg != s).length _ rfl (.refl _),?_⟩
 rw [List.take_left' (by rw [yae])]
 simp -implicitDefEqProofs only [rX,↓reduceIte,leE,leH,leB,leV,cN,aF,aC,wfE,wfB,wfV,wfL]
theorem c19_parts:c19=.seq (pt 0 c19) (.seq (pt 1 c19) (.seq (pt 2 c19) (.seq (pt 3 c19) (.seq (pt 4 c19) (rt 5 c19))))):=by rfl
set_option maxRecDepth 20000
theorem hO {L:Lg}:∀ X,(Blk.var [V.ptr 2 0 0,V.sl 1 0 L.gens.length,V.i L.top,V.i L.seq,V.sl (L.cells.length+5) 0 L.found.length,V.i L.seg,V.i L.next]::Blk.arr 1 (yac encI L.gens)::Blk.var [V.sl 3 0 L.cells.length,V.mp 4,V.i L.steps,V.i (-1),V.b false]::Blk.arr 65 (yac Cl.enc L.cells)::Blk.map [] L.c::(yaa L.cells.length Blk.dead++Blk.arr 4 (yac Ck.enc L.found)::X))=lgX L X:=fun X=>rfl
theorem Qw {n:Nat} {e:Env} (g:get e 0=.ptr 0 0 0):get (aB (yab 5 (n+1)) e) 0=.ptr 0 0 0:=by rw [aH,g];simp [kill]
theorem Zv {n i j:Nat} {e:Env} (h:6≤j) (g:get e i=.ptr (n+j) 0 0):get (aB (yab 5 (n+1)) e) i=.ptr (n+j) 0 0:=by rw [aH,g];exact uT h
theorem Uo {n q:Nat} {L:Lg} {B:List Blk} {e:Env} {bb:Nat} {v:V} {Q:V→Lg→Prop} (hn:L.n=n) (gq:get e q=v) (hv:wfV (L.bs 0) v) (hQ:Q v L):cK [0,1,2,3,4] (5+(n+1)) [.tmp q] (QF Lg.bs (5+(n+1)) Q) ⟨e,lgX L B,bb⟩:=by
 have hh:leH (lgX L B) (lgH L):=by
  rw [←eC]
  exact cL
 refine sJ L hh hn ?_
 simp -implicitDefEqProofs only [rX,aQ,aT,aQ,aT,gq]
 exact ⟨hv,hQ⟩
section
variable {N R:St→Prop} {X:Nat→St→Prop} {e:Env} {bb:Nat} {L:Lg} {s:Nat} {n:Nat} {Q:V→Lg→Prop}
abbrev sB (s:Int):Blk:=.var [.i s]
theorem adD (hs:s<L.gens.length) (hE:E17 L.n e) (hN:∀ e b',E17 L.n e→N ⟨e,lgX L [sB s],b'⟩):aw (cxN Tryz.prog [0,1,2,3,4]) (pt 1 c19) N X R ⟨e,lgX L [sB s],bb⟩:=by
 obtain ⟨g0,g3⟩:=hE
 have g3':get e 3=.ptr (L.cells.length+6) 0 0:=g3
 conv=>arg 2;whnf
 unfold lgX
 simp -implicitDefEqProofs only [rX,↓rY,aA,↓reduceIte,Nat.reduceEqDiff,Nat.reduceAdd,reduceCtorEq,cxN,dC,Nat.reduceEqDiff,g0,g3']
 rw [decide_eq_false (by omega),we]
 intro hm
 rw [decide_eq_false (by omega),we]
 simp only [hO]
 exact hN _ _ ⟨g0,g3⟩
theorem adC (hn:L.n=n) (h:L.Sm) (hs:s<L.gens.length) (hE:E17 L.n e) (hN:∀ c c' e b',E17 (L.ren s c c').n e→N ⟨e,lgX (L.ren s c c') [sB s],b'⟩):aw (cxN Tryz.prog [0,1,2,3,4]) (pt 2 c19) N X R ⟨e,lgX L [sB s],bb⟩:=by
 obtain ⟨g0,g3⟩:=hE
 have g3':get e 3=.ptr (L.cells.length+6) 0 0:=g3
 conv=>arg 2;whnf
 unfold lgX
 simp -implicitDefEqProofs only [rX,↓rY,↓reduceIte,Nat.reduceEqDiff,Nat.reduceAdd,cxN,dC,Nat.reduceEqDiff,g0,g3']
 simp only [hO]
 refine eT [sB s] L [.i s] [.i s] _ (afI L s hs h.g h.c h.t h.st) ⟨⟨trivial,trivial⟩,⟨rfl,trivial⟩⟩ rfl rfl (by simp [aD,bB,kill]) ?_
 rintro r L1 hn1 ⟨rfl,c,c',rfl⟩
 refine ⟨fun f=>rfl,?_⟩
 simp -implicitDefEqProofs only [rX,↓rY,aA,↓reduceIte,Nat.reduceEqDiff,aB,kill,St.kill]
 rw [show ((0:Int) != 0)=false from rfl,we]
 refine hN c c' _ _ ⟨Qw g0,?_⟩
 rw [hn1]
 exact Zv (by omega) g3
theorem adB (hl:L.found.length≤100000) (hE:E17 L.n e) (hN:∀ e b',E17 L.n e→N ⟨e,lgX { L with found:=L.found.filter fun x=>x.seg != (s:Int) } [sB s],b'⟩):aw (cxN Tryz.prog [0,1,2,3,4]) (pt 3 c19) N X R ⟨e,lgX L [sB s],bb⟩:=by
 obtain ⟨g0,g3⟩:=hE
 have g3':get e 3=.ptr (L.cells.length+6) 0 0:=g3
 conv=>arg 2;whnf
 unfold lgX
 simp -implicitDefEqProofs only [rX,↓rY,↓reduceIte,Nat.reduceEqDiff,Nat.reduceAdd,reduceCtorEq,cxN,Nat.reduceEqDiff,g0,g3']
 simp only [hO]
 have hbk:blk (lgX L [sB s]) (L.cells.length+6)=sB s:=by unfold lgX;rw [Dx];rfl
 have hbf:blk (lgX L [sB s]) (L.cells.length+5)=.arr 4 (L.found.map Ck.enc):=by unfold lgX;rw [Iv];rfl
 refine eU [L.cells.length+6,L.cells.length+5] [.sl 1 0 L.found.length,.clo 49 [.ptr 0 0 0]] (.sl 1 0 (L.found.filter fun x=>x.seg != (s:Int)).length) (.sl (L.cells.length+5) 0 (L.found.filter fun x=>x.seg != (s:Int)).length) [sB s,.arr 4 (L.found.map Ck.enc)] [sB s,.arr 4 ((L.found.filter fun x=>x.seg != (s:Int)).map Ck.enc)]
  (.var [V.ptr 2 0 0,V.sl 1 0 L.gens.length,V.i L.top,V.i L.seq,V.sl (L.cells.length+5) 0 L.found.length,V.i L.seg,V.i L.next]::Blk.arr 1 (yac encI L.gens)::Blk.var [V.sl 3 0 L.cells.length,V.mp 4,V.i L.steps,V.i (-1),V.b false]::Blk.arr 65 (yac Cl.enc L.cells)::Blk.map [] L.c::(yaa L.cells.length Blk.dead++[Blk.arr 4 ((L.found.filter fun x=>x.seg != (s:Int)).map Ck.enc),sB s])) (akH L.found s hl) ⟨by simp,fun k hk=>?_⟩ ?_ ?_ (by simp) ?_ ?_ ⟨trivial,trivial,trivial,trivial,trivial,trivial⟩ ?_
 ·have hlen:(lgX L [sB s]).length=L.cells.length+7:=by
   rw [←eC,yal,uS]
   show 5+(L.cells.length+1)+1=_
   omega
  rw [hlen]
  simp only [yaP,ybd,or_false] at hk
  exact ⟨by omega,by simp⟩
 ·simp only [yaw,yaL,hbk,hbf]
  rfl
 ·refine ⟨⟨?_,?_,trivial⟩,?_,?_,trivial⟩
  ·simp [aU,hbf,pos]
  ·simp [aU,aJ,pos]
  ·simp [bO,hbf,pos,wk]
  ·simp [bO,aV,pos,wk,wkL]
 ·simp only [yaw,yaL,bD,dO,ren,aY]
  unfold lgX
  rw [fT,Oq]
  simp
 ·simp [ren,back]
 simp -implicitDefEqProofs only [rX,↓rY,cells?,splice,↓reduceIte,Nat.reduceEqDiff,Nat.reduceAdd,isC,Nat.reduceLeDiff,Nat.reduceEqDiff]
 exact hN _ _ ⟨g0,g3⟩
theorem adA (hn:L.n=n) (hE:E17 L.n e) (hQ:Q (.i 0) { L with seg:=if L.seg=s then -1 else L.seg }):aw (cxN Tryz.prog [0,1,2,3,4]) (pt 4 c19) (fun s'=>aw (cxN Tryz.prog [0,1,2,3,4]) (rt 5 c19) N X (cK [0,1,2,3,4] (5+(n+1)) [.tmp 4] (QF Lg.bs (5+(n+1)) Q)) s') X (cK [0,1,2,3,4] (5+(n+1)) [.tmp 4] (QF Lg.bs (5+(n+1)) Q)) ⟨e,lgX L [sB s],bb⟩:=by
 obtain ⟨g0,g3⟩:=hE
 have g3':get e 3=.ptr (L.cells.length+6) 0 0:=g3
 conv=>arg 2;whnf
 unfold lgX
 simp -implicitDefEqProofs only [rX,↓rY,aA,cells?,splice,↓reduceIte,Nat.reduceEqDiff,Nat.reduceAdd,reduceCtorEq,isC,Nat.reduceLeDiff,cxN,dC,Nat.reduceEqDiff,g0,g3']
 cases h:L.seg==(s:Int) with
 | true =>
  have h':L.seg=s:=by simpa using h
  rw [if_pos h'] at hQ
  rw [wd]
  conv=>arg 2;whnf
  simp -implicitDefEqProofs only [rX,aA,Nat.reduceAdd]
  refine Uo (L:={ L with seg:=-1 }) (B:=[sB s]) (v:=.i 0) hn rfl trivial hQ
 | false =>
  have h':¬L.seg=s:=by simpa using h
  rw [if_neg h'] at hQ
  rw [we]
  conv=>arg 2;whnf
  simp -implicitDefEqProofs only [rX,aA,Nat.reduceAdd]
  refine Uo (L:=L) (B:=[sB s]) (v:=.i 0) hn rfl trivial hQ
end
theorem Zk (L:Lg) (s:Int) (h:L.Sm):OkL 19 [.ptr 0 0 0,.i s] L (fun r L'=>(¬(0≤s∧s<L.gens.length)∧r=.i 1∧L'=L)∨((0≤s∧s<L.gens.length)∧r=.i 0∧∃ c c',L'=L.drop s.toNat c c')):=by
 refine i9 lw19 (by simp) ?_
 rw [c19_parts,zb]
 conv=>arg 2;whnf
 simp -implicitDefEqProofs only [rX,↓rY,aA,cells?,↓reduceIte,reduceCtorEq,aE,cxN,dC,fT,dD,lgH,aR]
 simp only [hO]
 by_cases hs:0≤s∧s<L.gens.length
 ·obtain ⟨k,rfl⟩:∃ k:Nat,s=k:=⟨s.toNat,by omega⟩
  have hk:k<L.gens.length:=by omega
  refine adD hk ⟨rfl,rfl⟩ fun e b' hE=>?_
  rw [zb]
  refine adC rfl h hk hE fun c c' e b' hE=>?_
  rw [zb]
  have hr:=iZ (L:=L) (s:=k) (c:=c) (c':=c')
  refine adB (L:=L.ren k c c') (by rw [hr.found];exact h.f) hE fun e b' hE=>?_
  rw [zb]
  refine adA (L:={ L.ren k c c' with found:=(L.ren k c c').found.filter fun x=>x.seg != (k:Int) }) (Xb (s:=k) (c:=c) (c':=c')) hE (.inr ⟨hs,rfl,c,c',?_⟩)
  unfold Lg.drop
  rw [hr.found,yaf]
  have:(L.ren k c c').seg=L.seg:=by
   unfold Lg.ren Lg.gen Lg.wrote
   by_cases h0:L.gens.getD k 0=0
   ·simp only [if_pos h0];rfl
   ·simp only [if_neg h0]
  simp only [this]
 ·conv=>arg 2;whnf
  unfold lgX
  simp -implicitDefEqProofs only [rX,↓rY,aA,↓reduceIte,Nat.reduceEqDiff,Nat.reduceAdd,reduceCtorEq,dC,Nat.reduceEqDiff]
  cases h1:decide (s<0) with
  | true =>
   have h1':=of_decide_eq_true h1
   rw [wd]
   exact Uo (L:=L) (B:=[sB s]) (v:=.i 1) rfl rfl trivial (.inl ⟨hs,rfl,rfl⟩)
  | false =>
   have h1':=of_decide_eq_false h1
   rw [we]
   intro hm
   rw [decide_eq_true (by omega),wd]
   exact Uo (L:=L) (B:=[sB s]) (v:=.i 1) rfl rfl trivial (.inl ⟨hs,rfl,rfl⟩)
set_option maxRecDepth 20000
theorem Ee.rd {m:Md} {L:Lg} {B:Nat} {x:It} (h:Inv m L B) (hB:B≤100000) (hm:x∈m.l):(L.found.any (Ck.isAt x.c.seg x.c.slot x.c.seq)=true∧L.Rdb x.c.seg x.c.slot∧x.c.seg<L.gens.length)∧L.rdO x.c.seg x.c.slot x.c.seq=(x.c.key,x.data,0):=by
 have hx:=h.its x hm
 have h1:=hx.sg
 have h2:=hx.sl
 have h3:=hx.sq
 have h4:=hx.gn
 have hc:=h.cl
 have hgl:=h.gl
 have hsq:=h.sq
 have hany:L.found.any (Ck.isAt x.c.seg x.c.slot x.c.seq)=true:=by
  rw [ybr,h.fnd]
  exact ⟨x.c,yaA hm,by unfold Ck.isAt;simp⟩
 have hget:∀ j,j<8→L.cells.getD (cM x.c.seg x.c.slot+j) zC=⟨cutS (dS x.c.seg x.c.slot ⟨L.gens.getD x.c.seg.toNat 0,x.c.seq,x.c.key,x.data⟩) j,false⟩:=fun j hj=>by
  rw [yad,hx.cl j hj];rfl
 have hr:L.Rdb x.c.seg x.c.slot:=⟨by omega,h2,by unfold cM;omega,fun j hj=>by rw [hget j hj]⟩
 have hg:L.gens.getD x.c.seg.toNat 0≤B:=by
  have hlt:x.c.seg.toNat<L.gens.length:=by omega
  rw [yad,yah hlt]
  exact (h.gp _ (yaD hlt)).2
 refine ⟨⟨hany,hr,h1.2⟩,?_⟩
 have hsec:L.secs x.c.seg x.c.slot=eR (dS x.c.seg x.c.slot ⟨L.gens.getD x.c.seg.toNat 0,x.c.seq,x.c.key,x.data⟩) 8:=by
  unfold Lg.secs eR
  refine yaV fun j hj=>?_
  rw [hget j (by simpa using hj)]
 have hb:L.bts x.c.seg x.c.slot=dS x.c.seg x.c.slot ⟨L.gens.getD x.c.seg.toNat 0,x.c.seq,x.c.key,x.data⟩:=by
  unfold Lg.bts
  rw [hsec,Do eQ (yaj 8)]
  exact yap (by rw [eQ];exact yaj _)
 unfold Lg.rdO
 rw [if_pos hany,hb,Lj (by simp only;omega) (by simp only;omega) hx.key hx.dat]
 unfold rdS
 simp
def Md.mvs (m:Md) (q:Int):List It→Md × List Pl × Int
 | []=>(m,[],0)
 | x::r=>if (m.whr x.c.key x.data).2.2≠0 then (m,[],(m.whr x.c.key x.data).2.2) else
  let t:=Md.mvs (m.put (m.whr x.c.key x.data).1 (m.whr x.c.key x.data).2.1 (q+1) x.c.key x.data) (q+1) r
  (t.1,⟨(m.whr x.c.key x.data).1,(m.whr x.c.key x.data).2.1,q+1⟩::t.2.1,t.2.2)
def Md.cut (m:Md) (s:Int):Md:={ m with seg:=if m.seg=s then -1 else m.seg }
def Lg.cut (L:Lg) (s:Int):Lg:={ L with seg:=if L.seg=s then -1 else L.seg }
theorem Inv.cut {m:Md} {L:Lg} {B:Nat} (h:Inv m L B) {s:Int}:Inv (m.cut s) (L.cut s) B:=by
 unfold Md.cut Lg.cut
 rw [h.seg]
 by_cases hs:m.seg=s
 ·simp only [if_pos hs]
  exact h.off
 ·simp only [if_neg hs]
  have:=h.seg
  rw [←this]
  have e1:({ L with seg:=L.seg }:Lg)=L:=rfl
  have e2:({ m with seg:=L.seg }:Md)=m:=by rw [this]
  rw [e1,e2]
  exact h
structure Mv (m0:Md) (q0:Int) (old:List It) (L0:Lg) (B:Nat) (k:Nat) (m:Md) (L:Lg) (out:List Pl):Prop where
 kl:k≤old.length
 hn:L.n=L0.n
 g:L.gens.length=L0.gens.length
 inv:Inv m L (B+2*k)
 len:out.length=k
 sub:∀ x∈old,x∈m.l
 eq:m0.mvs q0 old=((m.mvs L.seq (old.drop k)).1,out++(m.mvs L.seq (old.drop k)).2.1,(m.mvs L.seq (old.drop k)).2.2)
theorem Mv.full {m0 m:Md} {q0:Int} {old:List It} {L0 L:Lg} {B k:Nat} {out:List Pl} (h:Mv m0 q0 old L0 B k m L out) (hk:k<old.length) (hw:(m.whr old[k].c.key old[k].data).2.2≠0):m0.mvs q0 old=(m,out,(m.whr old[k].c.key old[k].data).2.2):=by
 rw [h.eq,ybw hk,Md.mvs,if_pos hw,yak]
theorem Mv.next {m0 m:Md} {q0:Int} {old:List It} {L0 L L':Lg} {B k:Nat} {out:List Pl} (h:Mv m0 q0 old L0 B k m L out) (hk:k<old.length) (hw:(m.whr old[k].c.key old[k].data).2.2=0) (hq:L'.seq=L.seq+1) (hn:L'.n=L.n) (hg:L'.gens.length=L.gens.length)
  (hi:Inv (m.put (m.whr old[k].c.key old[k].data).1 (m.whr old[k].c.key old[k].data).2.1 (L.seq+1) old[k].c.key old[k].data) L' (B+2*k+2)) :
  Mv m0 q0 old L0 B (k+1) (m.put (m.whr old[k].c.key old[k].data).1 (m.whr old[k].c.key old[k].data).2.1 (L.seq+1) old[k].c.key old[k].data) L' (out++[⟨(m.whr old[k].c.key old[k].data).1,(m.whr old[k].c.key old[k].data).2.1,L.seq+1⟩]):=by
 refine ⟨hk,hn.trans h.hn,hg.trans h.g,hi,by rw [yal,h.len];rfl,fun x hx=>?_,?_⟩
 ·unfold Md.put
  exact List.mem_append_left _ (h.sub x hx)
 ·rw [h.eq,ybw hk,Md.mvs,if_neg (by rw [hw];simp),hq]
  simp only [yav,yaI,yam]
theorem Mv.done {m0 m:Md} {q0:Int} {old:List It} {L0 L:Lg} {B:Nat} {out:List Pl} (h:Mv m0 q0 old L0 B old.length m L out):m0.mvs q0 old=(m,out,0):=by
 rw [h.eq,List.drop_length,Md.mvs,yak]
set_option maxRecDepth 20000
def aeI (m:Md) (L:Lg) (B:Nat) (s:Int):V→List Blk→Prop:=fun r h =>
 (¬(0≤s∧s<L.gens.length)∧r=.tup [.nil,.i 1]∧h=lgX L []) ∨
 ((0≤s∧s<L.gens.length)∧∃ L':Lg,L'.n=L.n∧L'.gens.length=L.gens.length ∧
   ((((m.cut s).mvs L.seq (itF m.l s)).2.2≠0∧r=.tup [.nil,.i ((m.cut s).mvs L.seq (itF m.l s)).2.2]∧h=lgX L' []∧Inv ((m.cut s).mvs L.seq (itF m.l s)).1 L' (B+40)) ∨
    (((m.cut s).mvs L.seq (itF m.l s)).2.2=0∧r=.tup [.sl (L'.cells.length+6) 0 ((m.cut s).mvs L.seq (itF m.l s)).2.1.length,.i 0]∧h=lgX L' [.arr 3 (((m.cut s).mvs L.seq (itF m.l s)).2.1.map Pl.enc)]∧Inv (((m.cut s).mvs L.seq (itF m.l s)).1.wo s) L' (B+40))))
theorem c53_parts:c53=.seq (pt 0 c53) (.seq (pt 1 c53) (.seq (pt 2 c53) (.seq (pt 3 c53) (.seq (pt 4 c53) (.seq (pt 5 c53) (rt 6 c53)))))):=by rfl
abbrev RT (n:Nat) (R:V→List Blk→Prop):St→Prop:=cK [0,1,2,3,4] (5+(n+1)) [.tmp 4,.tmp 5] R
theorem Un {L':Lg} {n bb:Nat} {e:Env} {X Y:List Blk} {a:V} {q:Int} {R:V→List Blk→Prop} (hn:L'.n=n) (g4:get e 4=a) (g5:get e 5=.i q) (hh:leH (lgX L' X) (lgX L' Y)) (hw:wfV (lgX L' Y) a) (hY:wfB (lgX L' Y) Y) (hR:R (.tup [a,.i q]) (lgX L' Y)):RT n R ⟨e,lgX L' X,bb⟩:=by
 unfold RT
 rw [cJ]
 simp only [aQ,aT,g4,g5,yay,yaz,yam,yaI]
 have hlen:5+(n+1)≤(lgX L' Y).length:=by
  rw [←eC,yal,uS,hn]
  exact Nat.le_add_right _ _
 exact ⟨lgX L' Y,⟨hh,o9,hlen,⟨hw,trivial,trivial⟩,abB hY⟩,hR⟩
theorem Qg (n j:Nat) (h:6≤j):(n+j∈yab 5 (n+1))=False:=eq_false fun hm=>by
 have:=yag.1 hm
 omega
theorem agH (n:Nat):(0∈yab 5 (n+1))=False:=eq_false fun hm=>by
 have:=yag.1 hm
 omega
section
variable {N:St→Prop} {Xx:Nat→St→Prop} {R:V→List Blk→Prop} {n bb:Nat}
theorem acF {L:Lg} {s:Int} {Rr:St→Prop} {e:Env} (g0:get e 0=.ptr 0 0 0) (g1:get e 1=.i s) (hN:∀ e b',get e 0=.ptr 0 0 0→get e 1=.i s→N ⟨e,lgX (L.cut s) [],b'⟩):aw (cxN Tryz.prog [0,1,2,3,4]) (pt 2 c53) N Xx Rr ⟨e,lgX L [],bb⟩:=by
 conv=>arg 2;whnf
 unfold lgX
 simp -implicitDefEqProofs only [rX,↓rY,aA,cells?,splice,↓reduceIte,Nat.reduceEqDiff,Nat.reduceAdd,reduceCtorEq,isC,Nat.reduceLeDiff,cxN,Nat.reduceEqDiff,g0,g1]
 cases h:L.seg==s with
 | true =>
  have h':L.seg=s:=by simpa using h
  rw [wd]
  have:L.cut s={ L with seg:=-1 }:=by unfold Lg.cut;rw [if_pos h']
  rw [this] at hN
  exact hN _ _ g0 g1
 | false =>
  have h':¬L.seg=s:=by simpa using h
  rw [we]
  have:L.cut s=L:=by unfold Lg.cut;rw [if_neg h']
  rw [this] at hN
  exact hN _ _ g0 g1
theorem acD {m:Md} {L:Lg} {B:Nat} {s:Nat} {out:List Pl} {e:Env} (hn:L.n=n) (h:Inv m L B) (hB:B≤90000) (hs:s<L.gens.length) (g0:get e 0=.ptr 0 0 0) (g1:get e 1=.i s) (g6:get e 6=.sl (L.cells.length+6) 0 out.length)
  (hR:∀ L':Lg,L'.n=n→L'.gens.length=L.gens.length→Inv (m.wo s) L' (B+1)→R (.tup [.sl (L'.cells.length+6) 0 out.length,.i 0]) (lgX L' [.arr 3 (out.map Pl.enc)])) :
  aw (cxN Tryz.prog [0,1,2,3,4]) (pt 5 c53) (fun s'=>aw (cxN Tryz.prog [0,1,2,3,4]) (rt 6 c53) N Xx (RT n R) s') Xx (RT n R) ⟨e,lgX L [.arr 3 (out.map Pl.enc)],bb⟩:=by
 conv=>arg 2;whnf
 simp -implicitDefEqProofs only [rX,↓reduceIte,Nat.reduceEqDiff,cxN,g0,g1]
 refine eT [.arr 3 (out.map Pl.enc)] L [.i s] [.i s] _ (Zk L s (h.Sm (by omega))) ⟨⟨trivial,trivial⟩,⟨rfl,trivial⟩⟩ rfl rfl rfl ?_
 rintro r L' hn' (⟨h1,-⟩|⟨h1,rfl,c,c',h2⟩)
 ·exact absurd ⟨by omega,by omega⟩ h1
 rw [yaf] at h2
 have hi:=h.drop (c:=c) (c':=c') hs
 have hg:(L.drop s c c').gens.length=L.gens.length:=by
  show (L.ren s c c').gens.length=_
  rw [(iZ (L:=L) (s:=s) (c:=c) (c':=c')).gens,yar]
 have hcl:(L.drop s c c').cells.length=L.cells.length:=by
  show (L.ren s c c').cells.length=_
  rw [(iZ (L:=L) (s:=s) (c:=c) (c':=c')).len]
 rw [←h2] at hi hg hcl
 refine ⟨fun f=>rfl,?_⟩
 simp -implicitDefEqProofs only [rX,↓rY,aA,↓reduceIte,Nat.reduceEqDiff,aB,kill,St.kill]
 rw [show ((0:Int) != 0)=false from rfl,we]
 have k6:get (aB (yab 5 (L.n+1)) e) 6=.sl (L.cells.length+6) 0 out.length:=by
  rw [aH,g6]
  simp only [kill]
  rw [if_neg fun hm=>by have:=yag.1 hm;have:L.n=L.cells.length:=rfl;omega]
 conv=>arg 2;whnf
 simp -implicitDefEqProofs only [rX,aA,↓reduceIte,Nat.reduceEqDiff,k6]
 refine Un (L':=L') (X:=[.arr 3 (out.map Pl.enc)]) (Y:=[.arr 3 (out.map Pl.enc)]) (a:=.sl (L.cells.length+6) 0 out.length) (q:=0) (hn'.trans hn) rfl rfl (aG _) ?_ trivial ?_
 ·rw [←hcl]
  exact Aw (j:=0) ⟨_,rfl,by simp⟩
 ·rw [←hcl]
  exact hR L' (hn'.trans hn) hg hi
abbrev abQ (s:Int) (l:List Ck) (g:Nat × Md × Lg × List Pl):St:=⟨[(38,.i g.1),(37,.i l.length),(36,.ro 4 (l.map Ck.enc)),(6,.sl (g.2.2.1.cells.length+6) 0 g.1),(0,.ptr 0 0 0),(1,.i s)],lgX g.2.2.1 [.arr 3 (g.2.2.2.map Pl.enc)],0⟩
theorem acE {m:Md} {L:Lg} {B:Nat} {s:Int} {e:Env} (hn:L.n=n) (h:Inv m L B) (hB:B≤85000) (g0:get e 0=.ptr 0 0 0) (g1:get e 1=.i s) (g6:get e 6=.nil)
  (hF:∀ k m' L' out,Mv m L.seq (itF m.l s) L B k m' L' out→(m.mvs L.seq (itF m.l s)).1=m'→(m.mvs L.seq (itF m.l s)).2.2≠0→R (.tup [.nil,.i (m.mvs L.seq (itF m.l s)).2.2]) (lgX L' []))
  (hN:∀ m' L' out e b',Mv m L.seq (itF m.l s) L B (itF m.l s).length m' L' out→get e 0=.ptr 0 0 0→get e 1=.i s→get e 6=.sl (L'.cells.length+6) 0 out.length→N ⟨e,lgX L' [.arr 3 (out.map Pl.enc)],b'⟩) :
  aw (cxN Tryz.prog [0,1,2,3,4]) (pt 4 c53) N Xx (RT n R) ⟨e,lgX L [],bb⟩:=by
 have hfl:=h.fl
 have hit:inL L.found s=(itF m.l s).map It.c:=by rw [h.fnd,Kn]
 conv=>arg 2;whnf
 simp -implicitDefEqProofs only [rX,↓reduceIte,Nat.reduceEqDiff,cxN,g0,g1]
 refine eT [] L [.i s] [.i s] _ (afC L s (by rw [h.fnd,yae];omega)) ⟨⟨trivial,trivial⟩,⟨rfl,trivial⟩⟩ rfl rfl rfl ?_
 rintro r L1-⟨rfl,rfl⟩
 refine ⟨fun f=>rfl,?_⟩
 have k0:=Qw (n:=L1.n) g0
 have k1:get (aB (yab 5 (L1.n+1)) e) 1=.i s:=by rw [aH,g1];rfl
 have k6:get (aB (yab 5 (L1.n+1)) e) 6=.nil:=by rw [aH,g6];rfl
 rw [hit]
 simp -implicitDefEqProofs only [rX,↓rY,aA,↓reduceIte,aB,kill,St.kill]
 intro hmx
 refine dV (.virt 1 3 (by decide) (.nilE 6 (L1.cells.length+6) k6 (.refl _))) (abQ s ((itF m.l s).map It.c)) (fun g=>Mv m L1.seq (itF m.l s) L1 B g.1 g.2.1 g.2.2.1 g.2.2.2) (fun g=>(itF m.l s).length-g.1) (0,m,L1,[]) ⟨yan _,rfl,rfl,h.mono (by omega),rfl,fun x hx=>(yaE.1 hx).1,by simp⟩ ?_ ?_
 ·refine ⟨⟨rfl,?_,rfl,rfl,k0,k1,trivial⟩,?_,o9,⟨trivial,trivial,trivial,Aw (j:=0) ⟨_,rfl,by simp⟩,trivial,trivial,trivial⟩,abB trivial⟩
  ·show V.i _=V.i _
   rw [yae]
  ·show leH (lgX L1 []++[.arr 3 []]) (lgX L1 [.arr 3 []])
   rw [Kg]
   exact aG _
 rintro ⟨k,m',L',out⟩ hM
 have hkl:k≤(itF m.l s).length:=hM.kl
 have hcl:L'.n=L1.n:=hM.hn
 have hiv:Inv m' L' (B+2*k):=hM.inv
 have hc16:(itF m.l s).length≤16:=h.cnt s
 unfold abQ c53l0 lgX
 simp -implicitDefEqProofs only [rX,↓rY,aA,cells?,splice,↓reduceIte,Nat.reduceEqDiff,Nat.reduceAdd,reduceCtorEq,aE,Nat.reduceLeDiff,yai,yaf,dM,gR,sA,dD,j9,hU,My,Nat.reduceEqDiff]
 simp only [hO]
 cases hd:decide ((k:Int)<((itF m.l s).length:Int)) with
 | true =>
  have hk2:k<(itF m.l s).length:=by have:=of_decide_eq_true hd;omega
  rw [wd]
  refine ⟨⟨by omega,by omega⟩,hk2,?_⟩
  have hxm:(itF m.l s)[k]∈m'.l:=hM.sub _ (yaD hk2)
  obtain ⟨⟨hany,hr,hsl⟩,hro⟩:=Ee.rd hiv (by omega) hxm
  have hl':L'.found.length≤99999:=by rw [hiv.fnd,yae];have:=hiv.fl;omega
  have hkd:=(hiv.its _ hxm).key
  have hdd:=(hiv.its _ hxm).dat
  have m6:=Qg L'.cells.length 6 (by omega)
  have m7:=Qg L'.cells.length 7 (by omega)
  have m0:=agH L'.cells.length
  refine eT [.arr 3 (out.map Pl.enc),.var (itF m.l s)[k].c.enc] L' [.agg (yao 3 (itF m.l s)[k].c.enc)] [.agg [.i (itF m.l s)[k].c.seg,.i (itF m.l s)[k].c.slot,.i (itF m.l s)[k].c.seq]] _ (Va L' _ _ _ (by omega) fun _=>⟨hr,hsl⟩) ⟨⟨⟨trivial,trivial,trivial,trivial⟩,trivial⟩,⟨⟨rfl,rfl,rfl,trivial⟩,trivial⟩⟩ rfl rfl rfl ?_
  rintro r L2-⟨rfl,rfl⟩
  rw [hro]
  refine ⟨fun f=>rfl,?_⟩
  unfold rdV lgX
  simp -implicitDefEqProofs only [rX,↓rY,aA,↓reduceIte,Nat.reduceEqDiff,Nat.reduceAdd,reduceCtorEq,aB,kill,St.kill,dD,oL,Nat.reduceEqDiff,m6,m7,m0]
  rw [show ((0:Int) != 0)=false from rfl,we]
  simp only [hO]
  refine eT [.arr 3 (out.map Pl.enc),.var (itF m.l s)[k].c.enc,.dead] L2 [sv (itF m.l s)[k].c.key,sv (itF m.l s)[k].data] [sv (itF m.l s)[k].c.key,sv (itF m.l s)[k].data] _ (hiv.append (key:=(itF m.l s)[k].c.key) (data:=(itF m.l s)[k].data) (by omega) ⟨by omega,by omega⟩) ⟨⟨trivial,trivial,trivial⟩,⟨rfl,rfl,trivial⟩⟩ rfl rfl rfl ?_
  rintro r L3 hn3 (⟨hw,rfl,rfl⟩|⟨hw,rfl,hq3,hg3,hi3⟩)
  ·refine ⟨fun f=>rfl,?_⟩
   unfold lgX
   simp -implicitDefEqProofs only [rX,↓rY,aA,cells?,splice,↓reduceIte,Nat.reduceEqDiff,Nat.reduceAdd,reduceCtorEq,aE,cE,leE,leH,leB,leV,cN,aF,aC,wfE,wfB,wfV,wfL,aB,aD,kill,bB,St.kill,isD,isC,Nat.reduceLT,mJ,dC,fT,j7,o0,Ih,Hi,dD,lU,oL,yaU,Nat.reduceEqDiff,m6,m7,m0]
   simp only [hO]
   rw [show ((m'.whr (itF m.l s)[k].c.key (itF m.l s)[k].data).2.2 != 0)=true by simpa using hw,wd]
   have hfl2:=hM.full hk2 hw
   have hF':=hF k m' L3 out hM (by rw [hfl2]) (by rw [hfl2];exact hw)
   rw [hfl2] at hF'
   refine Un (L':=L3) (Y:=[]) (a:=.nil) (q:=(m'.whr (itF m.l s)[k].c.key (itF m.l s)[k].data).2.2) (hcl.trans hn) rfl rfl ?_ trivial trivial hF'
   rw [←eC,←eC,yak]
   exact cL
  ·refine ⟨fun f=>rfl,?_⟩
   have hcc:L2.cells.length=L3.cells.length:=hn3.symm
   have m6':(L3.cells.length+6∈yab 5 (L2.n+1))=False:=by rw [←hcc];exact m6
   have m7':(L3.cells.length+7∈yab 5 (L2.n+1))=False:=by rw [←hcc];exact m7
   have hnx:=hM.next hk2 hw hq3 hn3 hg3 hi3
   have hol:out.length=k:=hM.len
   rw [hcc]
   unfold lgX
   simp -implicitDefEqProofs only [rX,↓rY,aA,cells?,splice,↓reduceIte,Nat.reduceEqDiff,Nat.reduceAdd,reduceCtorEq,aE,cE,leE,leH,leB,leV,cN,aF,aC,wfE,wfB,wfV,wfL,aB,aD,kill,bB,St.kill,isD,isC,Nat.reduceLT,mJ,dC,fT,j7,o0,Ih,Hi,dD,lU,oL,yaU,Nat.reduceEqDiff,m6',m7',m0]
   simp only [hO]
   rw [show ((0:Int) != 0)=false from rfl,we]
   refine ⟨⟨by omega,by omega⟩,⟨by simp only [lo];omega,by simp only [hi];omega⟩,(k+1,_,L3,_),⟨hnx,by show _-(k+1)<_;omega⟩,⟨by show (k:Int)+1=((k+1:Nat):Int);omega,rfl⟩,⟨⟨rfl,rfl,rfl,rfl,rfl,rfl⟩,rfl,⟨rfl,rfl⟩,rfl,rfl,?_⟩,?_⟩
   ·refine rB ⟨aK _,?_,trivial⟩
    rw [yap (by rw [yae];omega),yas]
    exact aK _
   ·exact iV trivial
 | false =>
  have hk2:k=(itF m.l s).length:=by have:=of_decide_eq_false hd;omega
  subst hk2
  rw [we]
  refine hN m' L' out _ _ hM rfl rfl ?_
  rw [hM.len];rfl
end
theorem afD {m:Md} {L:Lg} {B:Nat} (h:Inv m L B) (hB:B≤80000) (s:Int):OkN Tryz.prog 53 [.ptr 0 0 0,.i s] (L.bs 0) (yab 5 (L.n+1)) (aeI m L B s):=by
 refine e6 pol [0,1,2,3,4] lw53 (by simp) ⟨trivial,trivial,trivial,trivial,trivial,trivial⟩ (fun k hk hm=>?_) ?_
 ·rw [L.len] at hk
  have:¬(5≤k∧k<5+(L.n+1)):=fun h2=>hm (yag.2 h2)
  have h3:k=0∨k=1∨k=2∨k=3∨k=4:=by omega
  rcases h3 with rfl|rfl|rfl|rfl|rfl<;>simp
 rw [L.len,L.bs0,c53_parts,zb]
 have hgl:=h.gl
 have hlx:lgH L=lgX L []:=by rw [←eC,yak]
 conv=>arg 2;whnf
 simp -implicitDefEqProofs only [rX,aA,cxN,aR,hlx]
 conv=>arg 2;whnf
 unfold lgX
 simp -implicitDefEqProofs only [rX,↓rY,aA,↓reduceIte,Nat.reduceEqDiff,reduceCtorEq,Nat.reduceEqDiff]
 by_cases hs:0≤s∧s<L.gens.length
 ·rw [decide_eq_false (by omega),we]
  intro hm
  rw [decide_eq_false (by omega),we]
  simp only [hO]
  refine acF rfl rfl fun e b' g0 g1=>?_
  rw [zb]
  conv=>arg 2;whnf
  simp -implicitDefEqProofs only [rX,aA]
  have hgc:(L.cut s).gens.length=L.gens.length:=rfl
  have hq:(L.cut s).seq=L.seq:=rfl
  have hl:(m.cut s).l=m.l:=rfl
  refine acE (m:=m.cut s) (L:=L.cut s) (B:=B) (s:=s) rfl h.cut (by omega) g0 g1 rfl (fun k m' L' out hM h1 h2=>?_) fun m' L' out e b' hM g0 g1 g6=>?_
  ·rw [hq,hl] at h1 h2 hM
   refine .inr ⟨hs,L',hM.hn,hM.g,.inl ⟨?_,?_,rfl,?_⟩⟩
   ·exact h2
   ·rw [hq,hl]
   ·rw [h1]
    have:(itF m.l s).length≤16:=h.cnt s
    have:=hM.kl
    exact hM.inv.mono (by omega)
  ·rw [hl] at hM
   have hd:=hM.done
   rw [zb]
   obtain ⟨j,rfl⟩:∃ j:Nat,s=j:=⟨s.toNat,by omega⟩
   have hc16:(itF m.l j).length≤16:=h.cnt j
   refine acD hM.hn hM.inv (by omega) (by rw [hM.g];omega) g0 g1 g6 fun L3 hn3 hg3 hi3=>?_
   rw [hq] at hd
   refine .inr ⟨hs,L3,hn3,hg3.trans hM.g,.inr ⟨?_,?_,?_,?_⟩⟩
   ·rw [hd]
   ·rw [hd]
   ·rw [hd]
   ·rw [hd]
    exact hi3.mono (by omega)
 ·have hh:leH (lgX L []) (lgX L []):=aG _
  cases h1:decide (s<0) with
  | true =>
   rw [wd]
   exact Un (L':=L) (X:=[]) (Y:=[]) (a:=.nil) (q:=1) rfl rfl rfl hh trivial trivial (.inl ⟨hs,rfl,rfl⟩)
  | false =>
   have h1':=of_decide_eq_false h1
   rw [we]
   intro hm
   rw [decide_eq_true (by omega),wd]
   exact Un (L':=L) (X:=[]) (Y:=[]) (a:=.nil) (q:=1) rfl rfl rfl hh trivial trivial (.inl ⟨hs,rfl,rfl⟩)
set_option maxRecDepth 20000
theorem Rj {L:Lg} {sz:Nat} {q:Int} {els:List (List V)}:leG [0,1,2,3,4] ⟨[(0,.tup [.sl (L.cells.length+6) 0 els.length,.i q])],lgH L++[.arr sz els],0⟩ ⟨[(0,.tup [.ro sz els,.i q])],lgH L,0⟩:=by
 refine ⟨_,.give (fun k=>k==L.cells.length+6) (fun k hk=>?_) (.refl _),?_⟩
 ·simp at hk
  simp;omega
 ·show leS [0,1,2,3,4] ⟨[(0,gvV _ _ _)],gvH _ _ 0 (lgH L++_),0⟩ _
  rw [Xn fun j hj=>by simp;omega]
  have e2:gvV (fun k=>k==L.cells.length+6) (lgH L++[.arr sz els]) (.tup [.sl (L.cells.length+6) 0 els.length,.i q])=.tup [.ro sz els,.i q]:=by
   simp only [gvV,gvL,beq_self_eq_true,if_true,Td,yaB,yaj,yaN]
   rw [yap (by simp)]
  have hk:=i3 (L:=L) (X:=[])
  have hw:=nO (L:=L) (X:=[]) trivial
  rw [yak] at hk hw
  exact ⟨⟨by simp only [get,if_true];exact e2,trivial⟩,cL,hk,⟨⟨trivial,trivial,trivial⟩,trivial⟩,hw⟩
theorem Mr {H:List Blk} {v:V} (hk:aF [0,1,2,3,4] H) (hv:wfV H v) (hw:wfB H H):leS [0,1,2,3,4] ⟨[(0,v)],H,0⟩ ⟨[(0,v)],H,0⟩:=⟨⟨rfl,trivial⟩,aG _,hk,⟨hv,trivial⟩,hw⟩
theorem Qp {L:Lg} {v:V} (hv:wfV (lgH L) v):leG [0,1,2,3,4] ⟨[(0,v)],lgX L [],0⟩ ⟨[(0,v)],lgH L,0⟩:=by
 have e:lgX L []=lgH L:=by rw [←eC,yak]
 rw [e]
 have hk:=i3 (L:=L) (X:=[])
 have hw:=nO (L:=L) (X:=[]) trivial
 rw [yak] at hk hw
 refine ⟨_,.refl _,Mr hk hv hw⟩
theorem afE {m:Md} {L:Lg} {B:Nat} (h:Inv m L B) (hB:B≤80000) (s:Int):OkL 53 [.ptr 0 0 0,.i s] L (fun r L' =>
  (¬(0≤s∧s<L.gens.length)∧r=.tup [.nil,.i 1]∧L'=L) ∨
  ((0≤s∧s<L.gens.length)∧L'.gens.length=L.gens.length ∧
    ((((m.cut s).mvs L.seq (itF m.l s)).2.2≠0∧r=.tup [.nil,.i ((m.cut s).mvs L.seq (itF m.l s)).2.2]∧Inv ((m.cut s).mvs L.seq (itF m.l s)).1 L' (B+40)) ∨
     (((m.cut s).mvs L.seq (itF m.l s)).2.2=0∧r=.tup [.ro 3 (((m.cut s).mvs L.seq (itF m.l s)).2.1.map Pl.enc),.i 0]∧Inv (((m.cut s).mvs L.seq (itF m.l s)).1.wo s) L' (B+40))))):=by
 refine Ao (afD h hB s) ?_
 rintro r hs (⟨h1,rfl,rfl⟩|⟨h1,L',hn,hg,⟨h2,rfl,rfl,h3⟩|⟨h2,rfl,rfl,h3⟩⟩)
 ·exact ⟨o9,_,L,rfl,.inl ⟨h1,rfl,rfl⟩,Qp ⟨trivial,trivial,trivial⟩⟩
 ·exact ⟨o9,_,L',hn,.inr ⟨h1,hg,.inl ⟨h2,rfl,h3⟩⟩,Qp ⟨trivial,trivial,trivial⟩⟩
 ·refine ⟨o9,_,L',hn,.inr ⟨h1,hg,.inr ⟨h2,rfl,h3⟩⟩,?_⟩
  have:=Rj (L:=L') (sz:=3) (q:=0) (els:=((m.cut s).mvs L.seq (itF m.l s)).2.1.map Pl.enc)
  rw [yae,eC] at this
  exact this
end Go.Fx.K
