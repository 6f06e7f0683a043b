import Derived.Test.YtokjdknjodhgiaaGreatDoorPTC4
import Derived.Test.YtokjdknjodhgiaaGreatDoorFxRX
set_option linter.unusedVariables false
set_option linter.unusedSimpArgs false
set_option linter.unusedSectionVars false
open Int renaming toNat_natCast → yaa, natCast_zero → yae, le_refl → yaf, toNat → yai, toNat_of_nonneg → yan, min_le_right → yay, le_trans → yaF, natCast_add → yaG, add_mul → yaH, mul_le_mul_of_nonneg_right → yaI, lt_irrefl → yaJ, min_eq_left → yaK, min_le_left → yaR, fdiv_eq_ediv_of_nonneg → yba
open List renaming replicate → yab, getElem_map → yac, getD_eq_getElem?_getD → yad, getElem_mem → yag, take → yah, range → yal, ext_getElem → yam, getElem_of_mem → yao, getElem?_eq_getElem → yap, take_of_length_le → yaq, mem_singleton → yar, append_nil → yat, mem_range → yav, length_set → yax, mem_append → yaz, mem_map → yaA, getElem_set → yaB, getElem?_eq_none → yaC, map_append → yaD, getElem?_replicate → yaE, map_map → yaL, length_take → yaM, getElem?_append_right → yaN, getElem?_cons_zero → yaO, drop_replicate → yaP, append_assoc → yaQ, count_cons → yaS, length_append → yaT, length_singleton → yaU, getElem_append_left → yaV, length_eq_zero_iff → yaW, mem_cons_of_mem → yaX, getElem?_append_left → yaY, getElem_cons_zero → yaZ, length_replicate → ybb, set_append_right → ybc, pairwise_iff_getElem → ybd
open BitVec renaming ofInt → yaj
open Bool renaming false_eq_true → yak
open Nat renaming le_refl → yas, lt_or_ge → yau, zero_le → yaw
namespace Go.Fx.P.K
open Go Go.Fx Go.Fx.E Go.Proofs
set_option maxRecDepth 20000
structure OkS (n:Int) (cut:List Int) (k:Nat):Prop where
 h:∀ j (h:j<cut.length),j<k→(0≤cut[j]∧cut[j]<n)∧(0<j→cut.getD (j-1) 0<cut[j])
theorem OkS.next {n:Int} {cut:List Int} {k:Nat} (hv:OkS n cut k) (hk:k<cut.length) (h:(0≤cut[k]∧cut[k]<n)∧(0<k→cut.getD (k-1) 0<cut[k])):OkS n cut (k+1):=by
 refine ⟨fun j hj h2=>?_⟩
 by_cases h6:j=k
 ·subst h6;exact h
 ·exact hv.h j hj (by omega)
structure OkA (arcs:List Arc) (flow:List Int) (cut:List Int) (k:Nat):Prop where
 h:∀ j (h:j<arcs.length),j<k→(hasB cut arcs[j].from_=true→hasB cut arcs[j].to=false→flow.getD j 0=arcs[j].cap)∧(hasB cut arcs[j].to=true→hasB cut arcs[j].from_=false→flow.getD j 0=0)
theorem OkA.next {arcs:List Arc} {flow cut:List Int} {k:Nat} (hv:OkA arcs flow cut k) (hk:k<arcs.length) (h:(hasB cut arcs[k].from_=true→hasB cut arcs[k].to=false→flow.getD k 0=arcs[k].cap)∧(hasB cut arcs[k].to=true→hasB cut arcs[k].from_=false→flow.getD k 0=0)):OkA arcs flow cut (k+1):=by
 refine ⟨fun j hj h2=>?_⟩
 by_cases h6:j=k
 ·subst h6;exact h
 ·exact hv.h j hj (by omega)
structure OkC (n:Int) (arcs:List Arc) (f t:Int) (flow cut:List Int):Prop where
 hs:OkS n cut cut.length
 hf:hasB cut f=true
 ht:hasB cut t=false
 ha:OkA arcs flow cut arcs.length
open Classical in
noncomputable def cuB (n:Int) (arcs:List Arc) (f t:Int) (flow cut:List Int):Bool:=decide (OkC n arcs f t flow cut)
theorem Nc {n:Int} {arcs:List Arc} {f t:Int} {flow cut:List Int} (h:OkC n arcs f t flow cut):true=cuB n arcs f t flow cut:=by simp [cuB,h]
theorem p8 {n:Int} {arcs:List Arc} {f t:Int} {flow cut:List Int} (h:¬OkC n arcs f t flow cut):false=cuB n arcs f t flow cut:=by simp [cuB,h]
def frB (fr:Fr):Blk:=.var [.i fr.sent,.i fr.cost,.ro 1 (fr.flow.map encI),.ro 1 (fr.price.map encI),.ro 1 (fr.cut.map encI)]
theorem aeQ (N:Nat) (arcs:List Arc) (f t:Int) (fr:Fr) (hV:Val N arcs) (hl:fr.flow.length=arcs.length):Ok 105 [net N arcs,.i f,.i t,fr.enc] (Is (.b (cuB N arcs f t fr.flow fr.cut))):=by
 refine ok_of lw105 (by simp) ?_
 unfold c105 net Fr.enc li
 simp -implicitDefEqProofs only [rX,↓rY,aA,cells?,↓reduceIte,Nat.reduceEqDiff,Nat.reduceAdd,reduceCtorEq,aC,cxN,aK]
 have hL:=hV.hl
 have hN:=hV.hn
 refine aT (fun k:Nat=>⟨[(9,.i k),(7,.ptr 1 0 0),(4,.ptr 0 0 0),(2,.i t),(1,.i f)],[.var [.i N,.ro 4 (arcs.map Arc.enc)],frB fr],0⟩) (fun k=>k≤fr.cut.length∧OkS N fr.cut k) (fun k=>fr.cut.length-k) 0 ⟨by omega,⟨by simp⟩⟩ ?_ ?_
 ·simp -implicitDefEqProofs only [rX,↓reduceIte,Nat.reduceEqDiff,reduceCtorEq,leE,leH,leB,leV,aZ,aD,aB,wfE,wfB,wfV,wfL,aZ,leV,yae,frB]
 rintro k ⟨hk,hv⟩
 simp -implicitDefEqProofs only [rX,↓rY,rdK,↓reduceIte,Nat.reduceEqDiff,Nat.reduceAdd,yac,bW,yaa,frB]
 simp only [br,decide_eq_true_eq,decide_eq_false_iff_not]
 refine fun hm1=>⟨fun h2=>?_,fun h2=>?_⟩
 ·have hk1:k<fr.cut.length:=by omega
  have good:=hv.next hk1
  have bad:¬((0≤fr.cut[k]∧fr.cut[k]<N)∧(0<k→fr.cut.getD (k-1) 0<fr.cut[k]))→false=cuB N arcs f t fr.flow fr.cut:=fun h=>p8 fun hO=>h (hO.hs.h k hk1 hk1)
  refine ⟨⟨by omega,h2⟩,by omega,?_⟩
  refine aE (aeF N arcs fr.cut[k]) (by simp [net,aF,aG,aN,bD,wkL,wk,wkR]) rfl trivial ?_
  cases hn:iE N fr.cut[k] with
  | false =>
   simp -implicitDefEqProofs only [rX,↓rY,rdK,aA,↓reduceIte,Nat.reduceEqDiff,Nat.reduceAdd,aL,aM,wfV]
   simp only [iE,decide_eq_false_iff_not] at hn
   exact bad fun h=>hn h.1
  | true =>
   simp -implicitDefEqProofs only [rX,↓rY,rdK,aA,↓reduceIte,Nat.reduceEqDiff,Nat.reduceAdd,aL,aM,leE,leH,leB,leV,aZ,aD,aB,wfE,wfB,wfV,wfL,yac,bW,yaa]
   simp only [iE,decide_eq_true_eq] at hn
   have hp:0<k→fr.cut.getD (k-1) 0=fr.cut[((k:Int)-1).toNat]'(by omega):=by
    intro h0
    have e1:((k:Int)-1).toNat=k-1:=by omega
    simp only [e1]
    exact bV (by omega)
   simp only [br,decide_eq_true_eq,decide_eq_false_iff_not,lo,hi,maxLen] at *
   repeat' (first|(refine ⟨(k+1:_),?_⟩)|(refine ⟨by omega,?_⟩)|(refine And.intro ?_ ?_)|(refine (fun _=>?_)))
   all_goals first|omega|(apply bad;rintro ⟨_,h4⟩;have h4:=h4 (by omega);rw [hp (by omega)] at h4;omega)|(apply good;refine ⟨hn,fun h0=>?_⟩;rw [hp h0];omega)|(apply good;refine ⟨hn,fun h0=>?_⟩;omega)
 have hs:OkS N fr.cut fr.cut.length:=⟨fun j h _=>hv.h j h (by omega)⟩
 refine aE (Mh fr.cut f) (by simp [li,aF,aG,aN,bD,wkL,wk,wkR]) rfl trivial ?_
 cases hf:hasB fr.cut f with
 | false =>
  simp -implicitDefEqProofs only [rX,↓rY,aA,↓reduceIte,Nat.reduceEqDiff,Nat.reduceAdd,aL,aM,wfV]
  exact p8 fun hO=>by have:=hO.hf;rw [hf] at this;cases this
 | true =>
 simp -implicitDefEqProofs only [rX,↓rY,↓reduceIte,Nat.reduceEqDiff]
 refine aE (Mh fr.cut t) (by simp [li,aF,aG,aN,bD,wkL,wk,wkR]) rfl trivial ?_
 cases ht:hasB fr.cut t with
 | true =>
  simp -implicitDefEqProofs only [rX,↓rY,aA,↓reduceIte,Nat.reduceEqDiff,Nat.reduceAdd,aL,aM,wfV]
  exact p8 fun hO=>by have:=hO.ht;rw [ht] at this;cases this
 | false =>
 simp -implicitDefEqProofs only [rX,↓rY,aA,↓reduceIte,Nat.reduceEqDiff,Nat.reduceAdd]
 refine aT (fun k:Nat=>⟨[(10,.i k),(7,.ptr 1 0 0),(4,.ptr 0 0 0)],[.var [.i N,.ro 4 (arcs.map Arc.enc)],frB fr],0⟩) (fun k=>k≤arcs.length∧OkA arcs fr.flow fr.cut k) (fun k=>arcs.length-k) 0 ⟨by omega,⟨by simp⟩⟩ ?_ ?_
 ·simp -implicitDefEqProofs only [rX,↓reduceIte,Nat.reduceEqDiff,leE,leH,leB,leV,aZ,aD,aB,wfE,wfB,wfV,wfL,aZ,leV,yae,frB]
 rintro k ⟨hk,hv⟩
 simp -implicitDefEqProofs only [rX,↓rY,aA,cells?,splice,↓reduceIte,Nat.reduceEqDiff,Nat.reduceAdd,aC,aL,aM,wfV,yac,enc_len,eE,lO,e7,yaa,frB]
 simp only [br,decide_eq_true_eq,decide_eq_false_iff_not]
 refine fun hm2=>⟨fun h2=>?_,fun h2=>Nc ⟨hs,hf,ht,⟨fun j h _=>hv.h j h (by omega)⟩⟩⟩
 have hk1:k<arcs.length:=by omega
 have hk2:k<fr.flow.length:=by omega
 refine ⟨⟨by omega,h2⟩,by omega,?_⟩
 have good:=hv.next hk1
 have bad:¬(_∧_)→false=cuB N arcs f t fr.flow fr.cut:=fun h=>p8 fun hO=>h (hO.ha.h k hk1 hk1)
 rw [bV hk2] at good bad
 refine aE (Mh fr.cut arcs[k].from_) (by simp [li,aF,aG,aN,bD,wkL,wk,wkR]) rfl trivial ?_
 simp -implicitDefEqProofs only [rX,↓rY,↓reduceIte,Nat.reduceEqDiff,Nat.reduceAdd,lN]
 refine aE (Mh fr.cut arcs[k].to) (by simp [li,aF,aG,aN,bD,wkL,wk,wkR]) rfl trivial ?_
 generalize hasB fr.cut arcs[k].from_=x at *
 generalize hasB fr.cut arcs[k].to=y at *
 cases x<;>cases y<;>simp -implicitDefEqProofs only [rX,↓rY,aA,↓reduceIte,Nat.reduceEqDiff,Nat.reduceAdd,aL,aM,leE,leH,leB,leV,aZ,aD,aB,wfE,wfB,wfV,wfL,yac,oF,bW,yaa]<;>simp only [br,decide_eq_true_eq,decide_eq_false_iff_not,bne_iff_ne,bne_eq_false_iff_eq,lo,hi,maxLen] at*<;>
  (repeat' (first|(refine ⟨(k+1:_),?_⟩)|(refine ⟨by omega,?_⟩)|(refine And.intro ?_ ?_)|(refine (fun _=>?_))))<;>first|omega|(apply bad;simp;omega)|(apply good;simp;try omega)
structure OkAc (N:Nat) (arcs:List Arc) (f t am:Int) (fr:Fr):Prop where
 fl:OkF N arcs f t fr.flow
 hs:0≤fr.sent∧fr.sent≤am
 hv:valTo arcs f fr.flow arcs.length=fr.sent
 ht:dI arcs fr.flow arcs.length=fr.cost
 hp:OkP N arcs f fr.flow fr.price
 hc:if fr.sent=am then fr.cut=[] else OkC N arcs f t fr.flow fr.cut
open Classical in
noncomputable def accI (N:Nat) (arcs:List Arc) (f t am:Int) (fr:Fr):Int:=if OkAc N arcs f t am fr then 0 else 110
theorem Fm {N:Nat} {arcs:List Arc} {f t am:Int} {fr:Fr} (h:OkAc N arcs f t am fr):0=accI N arcs f t am fr:=by simp [accI,h]
theorem fT {N:Nat} {arcs:List Arc} {f t am:Int} {fr:Fr} (h:¬OkAc N arcs f t am fr):110=accI N arcs f t am fr:=by simp [accI,h]
theorem ajC (N:Nat) (arcs:List Arc) (f t am:Int) (fr:Fr) (hV:Val N arcs) (hf:0≤f∧f<N):Ok 74 [net N arcs,.i f,.i t,.i am,fr.enc] (Is (.i (accI N arcs f t am fr))):=by
 refine ok_of lw74 (by simp) ?_
 unfold c74 net Fr.enc li
 have hL:=hV.hl
 have hN:=hV.hn
 have hac:=fun a ha=>(hV.ha a ha).2.2.2.2
 simp -implicitDefEqProofs only [rX,↓rY,aA,cells?,↓reduceIte,Nat.reduceEqDiff,Nat.reduceAdd,reduceCtorEq,aC,cxN,aK]
 refine aE (akE N arcs f t fr.flow hV) (by simp [net,li,aF,aG,aN,bD,wkL,wk,wkR]) rfl trivial ?_
 cases hfl:flB N arcs f t fr.flow with
 | false =>
  simp -implicitDefEqProofs only [rX,↓rY,rdK,aA,↓reduceIte,Nat.reduceEqDiff,Nat.reduceAdd,aL,aM,wfV]
  exact fT fun hO=>by have:=Yr hO.fl;rw [hfl] at this;cases this
 | true =>
 have hfl:OkF N arcs f t fr.flow:=by
  apply Classical.byContradiction
  intro h
  have:=Mx h;rw [hfl] at this;cases this
 have hl:=hfl.hl
 have hfb:=hV.flow hl hfl.hp
 simp -implicitDefEqProofs only [rX,↓rY,rdK,aA,↓reduceIte,Nat.reduceEqDiff,Nat.reduceAdd,reduceCtorEq,aL,aM,wfV]
 simp only [br,decide_eq_true_eq,decide_eq_false_iff_not]
 refine ⟨fun h=>fT fun hO=>by have:=hO.hs;omega,fun h0=>⟨fun h=>fT fun hO=>by have:=hO.hs;omega,fun h1=>?_⟩⟩
 refine aE (adS N f arcs fr.flow hl (by omega) hfb) (by simp [net,li,aF,aG,aN,bD,wkL,wk,wkR]) rfl trivial ?_
 simp -implicitDefEqProofs only [rX,↓rY,rdK,aA,↓reduceIte,Nat.reduceEqDiff,Nat.reduceAdd,aL,aM,wfV]
 simp only [br,bne_iff_ne,bne_eq_false_iff_eq]
 refine ⟨fun h=>fT fun hO=>h hO.hv,fun h2=>?_⟩
 refine aE (aeS N arcs fr.flow hl hL hfb hac) (by simp [net,li,aF,aG,aN,bD,wkL,wk,wkR]) rfl trivial ?_
 simp -implicitDefEqProofs only [rX,↓rY,rdK,aA,↓reduceIte,Nat.reduceEqDiff,Nat.reduceAdd,reduceCtorEq,aL,aM,wfV]
 simp only [br,bne_iff_ne,bne_eq_false_iff_eq]
 refine ⟨fun h=>fT fun hO=>h hO.ht,fun h3=>?_⟩
 refine aE (aeR N arcs f fr hV hf hl) (by simp [Fr.enc,net,li,aF,aG,aN,bD,wkL,wk,wkR]) rfl trivial ?_
 cases hp:prB N arcs f fr.flow fr.price with
 | false =>
  simp -implicitDefEqProofs only [rX,↓rY,aA,↓reduceIte,Nat.reduceEqDiff,Nat.reduceAdd,aL,aM,wfV]
  exact fT fun hO=>by have:=Mf hO.hp;rw [hp] at this;cases this
 | true =>
 have hp:OkP N arcs f fr.flow fr.price:=by
  apply Classical.byContradiction
  intro h
  have:=pV h;rw [hp] at this;cases this
 simp -implicitDefEqProofs only [rX,↓rY,aA,↓reduceIte,Nat.reduceEqDiff,Nat.reduceAdd,reduceCtorEq,aL,aM,wfV]
 simp only [br,beq_iff_eq,beq_eq_false_iff_ne,decide_eq_true_eq,decide_eq_false_iff_not]
 refine ⟨fun h4=>?_,fun h4=>?_⟩
 ·refine fun _=>⟨fun h5=>fT fun hO=>?_,fun h5=>Fm ⟨hfl,by omega,h2,h3,hp,?_⟩⟩
  ·have:=hO.hc
   rw [if_pos h4] at this
   rw [this] at h5
   simp at h5
  ·rw [if_pos h4]
   exact yaW.1 (by omega)
 ·refine aE (aeQ N arcs f t fr hV hl) (by simp [Fr.enc,net,li,aF,aG,aN,bD,wkL,wk,wkR]) rfl trivial ?_
  cases hc:cuB N arcs f t fr.flow fr.cut with
  | false =>
   simp -implicitDefEqProofs only [rX,↓rY,aA,↓reduceIte,Nat.reduceAdd,aL,aM,wfV]
   exact fT fun hO=>by have h6:=hO.hc;rw [if_neg h4] at h6;have:=Nc h6;rw [hc] at this;cases this
  | true =>
  have hc:OkC N arcs f t fr.flow fr.cut:=by
   apply Classical.byContradiction
   intro h
   have:=p8 h;rw [hc] at this;cases this
  simp -implicitDefEqProofs only [rX,↓rY,aA,↓reduceIte,Nat.reduceAdd,aL,aM,wfV]
  exact Fm ⟨hfl,by omega,h2,h3,hp,by rw [if_neg h4];exact hc⟩
end Go.Fx.P.K
namespace Go.Fx.P
open Go Go.Fx Go.Fx.E Go.Proofs
set_option maxRecDepth 20000
def nN (ps:List aH):Nat:=2+2*ps.length
theorem Hc (ps:List aH):nodes ps=(nN ps:Int):=by simp only [nodes,nN];omega
theorem xB {ps:List aH} {rs:List Road} (h:fI ps rs=0):K.Val (nN ps) (cK ps rs):=by
 obtain ⟨⟨hl,hr⟩,hc,hv⟩:=iJ h
 have hlen:=xC (ps:=ps) (l:=rs)
 refine ⟨by simp only [nN];omega,by simp only [cK];omega,fun a ha=>?_⟩
 simp only [cK,nA4,nA3,nA2,nA1,yaz,yaA,yav] at ha
 simp only [nN]
 rcases ha with ((⟨i,hi,rfl⟩|⟨i,hi,rfl⟩)|⟨i,hi,rfl⟩)|⟨r,hr2,rfl⟩
 ·have:=xL hc i
  simp only [aP];omega
 ·have:=xL hc i
  have:=s5 hi
  simp only [aS];omega
 ·have:=xL hc i
  have:=s5 hi
  simp only [aO];omega
 ·obtain ⟨j,hj,rfl⟩:=yao hr2
  obtain ⟨h1,h2,h3,h4,h5,_⟩:=hv.h j hj hj
  simp only [aR];omega
def agS (ps:List aH) (rs:List Road):Prop:=fI ps rs=0∧ps.length≤10∧rs.length≤25
open Classical in
noncomputable def Ju (ps:List aH) (rs:List Road) (fr:Fr):Int:=if fI ps rs=0 then K.accI (nN ps) (cK ps rs) 0 1 (dem ps) fr else fI ps rs
theorem ajS (ps:List aH) (rs:List Road) (fr:Fr):Ok 46 [bF ps rs,fr.enc] (Is (.i (Ju ps rs fr))):=by
 refine ok_of lw46 (by simp) ?_
 unfold c46 bF sps rds Fr.enc li
 simp -implicitDefEqProofs only [rX,↓rY,aA,cells?,↓reduceIte,Nat.reduceEqDiff,Nat.reduceAdd,reduceCtorEq,aC,cxN,aK]
 refine aE (adR ps rs) (by simp [bF,sps,rds,aF,aG,aN,bD,wkL,wk,wkR]) rfl trivial ?_
 by_cases hc:fI ps rs=0
 ·obtain ⟨⟨hl,hr⟩,hcap,hv⟩:=iJ hc
  simp -implicitDefEqProofs only [rX,↓rY,rdK,aA,↓reduceIte,Nat.reduceEqDiff,Nat.reduceAdd,aL,aM,wfV,hc,bne_self_eq_false]
  refine aE (adT ps rs hl hr hv) (by simp [bF,sps,rds,aF,aG,aN,bD,wkL,wk,wkR]) rfl trivial ?_
  simp -implicitDefEqProofs only [rX,↓reduceIte,Nat.reduceEqDiff]
  refine aE (akD ps rs hl hcap) (by simp [bF,sps,rds,aF,aG,aN,bD,wkL,wk,wkR]) rfl trivial ?_
  simp -implicitDefEqProofs only [rX,aA,↓reduceIte,Nat.reduceEqDiff]
  have e:=K.ajC (nN ps) (cK ps rs) 0 1 (dem ps) fr (xB hc) ⟨by omega,by simp only [nN];omega⟩
  rw [←Hc] at e
  refine aE e (by simp [net,li,Fr.enc,aF,aG,aN,bD,wkL,wk,wkR]) rfl trivial ?_
  simp -implicitDefEqProofs only [rX,↓reduceIte,aL,aM,wfV]
  simp [Ju,hc]
 ·have hb:(fI ps rs != 0)=true:=by simpa using hc
  simp -implicitDefEqProofs only [rX,↓rY,rdK,aA,↓reduceIte,Nat.reduceEqDiff,Nat.reduceAdd,aL,aM,wfV,hb]
  simp [Ju,hc]
theorem akB (ps:List aH) (rs:List Road) (fr:Fr) (i:Nat) (hi:i<ps.length) (hl:ps.length≤fr.flow.length):Ok 31 [bF ps rs,fr.enc,.i i] (Is (.i (fr.flow.getD i 0))):=by
 refine ok_of lw31 (by simp) ?_
 unfold c31 bF sps rds Fr.enc li
 simp -implicitDefEqProofs only [rX,↓rY,aA,cells?,↓reduceIte,Nat.reduceEqDiff,Nat.reduceAdd,reduceCtorEq,aC,aL,aM,wfV,yac,bW,yaa,cxN,aK]
 simp only [br,decide_eq_true_eq,decide_eq_false_iff_not,yaa]
 have e:fr.flow.getD i 0=fr.flow[i]'(by omega):=by rw [yad,yap (by omega),Option.getD_some]
 rw [yad] at e
 rw [e]
 exact ⟨fun h=>absurd h (by omega),fun _ _=>⟨fun h=>absurd h (by omega),fun _=>⟨⟨by omega,by omega⟩,by omega,rfl⟩⟩⟩
structure oC (ps:List aH) (rs:List Road) (fr:Fr):Prop where
 chk:fI ps rs=0
 few:ps.length≤10∧rs.length≤25
 acc:K.OkAc (nN ps) (cK ps rs) 0 1 (dem ps) fr
theorem oC.of {ps:List aH} {rs:List Road} {fr:Fr} (h:agS ps rs) (h2:Ju ps rs fr=0):oC ps rs fr:=by
 refine ⟨h.1,h.2,?_⟩
 rw [Ju,if_pos h.1,K.accI] at h2
 by_cases h3:K.OkAc (nN ps) (cK ps rs) 0 1 (dem ps) fr
 ·exact h3
 ·rw [if_neg h3] at h2;cases h2
end Go.Fx.P
namespace Go.Fx.P.K
open Go Go.Fx Go.Fx.E Go.Proofs
set_option maxRecDepth 20000
def oR (N:Nat) (f:Int→Int):List (List V):=(yal N).map fun j:Nat=>encI (f j)
theorem sQ {N:Nat} {f:Int→Int}:(oR N f).length=N:=by simp [oR]
theorem yH {N:Nat} {f:Int→Int} {i:Nat} (h:i<(oR N f).length):(oR N f)[i]=encI (f i):=by simp [oR]
theorem Qq {N:Nat} {f:Int→Int} {i:Nat} {x:Int}:(oR N f).set i [.v (.int .i64 x)]=oR N (fun j=>if j=i then x else f j):=by
 apply yam
 ·simp [oR]
 ·intro j h1 h2
  simp only [yaB,yH]
  by_cases h:i=j
  ·subst h;simp [encI]
  ·have:¬(j:Int)=i:=by omega
   simp [h,this]
theorem Jl {N:Nat} {f g:Int→Int} (h:∀ i:Nat,i<N→f i=g i):oR N f=oR N g:=by
 simp only [oR,List.map_inj_left,yav]
 intro i hi
 rw [h i hi]
theorem Qr {N:Nat} {x:Int}:yab N [V.v (.int .i64 x)]=oR N (fun _=>x):=by
 apply yam
 ·simp [oR]
 ·intro i h1 h2
  simp [oR,encI]
def oS (N:Nat) (f:Int→Bool):List (List V):=(yal N).map fun j:Nat=>v6 (f j)
theorem Gf {N:Nat} {f:Int→Bool}:(oS N f).length=N:=by simp [oS]
theorem yI {N:Nat} {f:Int→Bool} {i:Nat} (h:i<(oS N f).length):(oS N f)[i]=v6 (f i):=by simp [oS]
theorem Qs {N:Nat} {f:Int→Bool} {i:Nat} {x:Bool}:(oS N f).set i [.v (.bool x)]=oS N (fun j=>if j=i then x else f j):=by
 apply yam
 ·simp [oS]
 ·intro j h1 h2
  simp only [yaB,yI]
  by_cases h:i=j
  ·subst h;simp [v6]
  ·have:¬(j:Int)=i:=by omega
   simp [h,this]
theorem Jm {N:Nat} {f g:Int→Bool} (h:∀ i:Nat,i<N→f i=g i):oS N f=oS N g:=by
 simp only [oS,List.map_inj_left,yav]
 intro i hi
 rw [h i hi]
theorem Qt {N:Nat} {x:Bool}:yab N [V.v (.bool x)]=oS N (fun _=>x):=by
 apply yam
 ·simp [oS]
 ·intro i h1 h2
  simp [oS,v6]
theorem mZ (arcs:List Arc) (node:Int) (flow:List Int):∀ k:Nat,(∀ j,j<k→0≤flow.getD j 0∧flow.getD j 0≤1073741824)→-((k:Int)*1073741824)≤valTo arcs node flow k∧valTo arcs node flow k≤(k:Int)*1073741824
 | 0,_=>by simp [valTo]
 | k+1,hf=>by
  have h1:=mZ arcs node flow k fun j hj=>hf j (by omega)
  have h2:=hf k (by omega)
  simp only [valTo]
  split<;>split<;>omega
theorem sN (arcs:List Arc) (flow:List Int) (ha:∀ a∈arcs,0≤a.cost∧a.cost≤1048576):∀ k:Nat,(∀ j,j<k→0≤flow.getD j 0∧flow.getD j 0≤1073741824)→0≤dI arcs flow k∧dI arcs flow k≤(k:Int)*1125899906842624
 | 0,_=>by simp [dI]
 | k+1,hf=>by
  have h1:=sN arcs flow ha k fun j hj=>hf j (by omega)
  have h2:=hf k (by omega)
  have h3:0≤(arcs.getD k ⟨0,0,0,0⟩).cost∧(arcs.getD k ⟨0,0,0,0⟩).cost≤1048576:=by
   rw [yad]
   cases h:arcs[k]? with
   | none=>simp
   | some x=>exact ha x (List.mem_of_getElem? h)
  have:=Hd h2 h3
  simp only [dI]
  omega
open Classical in
noncomputable def Bv (n:Int) (arcs:List Arc) (f t:Int) (fr:Fr):Bool:=decide (OkF n arcs f t fr.flow∧valTo arcs f fr.flow arcs.length=fr.sent∧dI arcs fr.flow arcs.length=fr.cost)
theorem abA {n:Int} {arcs:List Arc} {f t:Int} {fr:Fr} (h:OkF n arcs f t fr.flow∧valTo arcs f fr.flow arcs.length=fr.sent∧dI arcs fr.flow arcs.length=fr.cost):Bv n arcs f t fr=true:=by simp [Bv,h]
theorem Aq {n:Int} {arcs:List Arc} {f t:Int} {fr:Fr} (h:¬(OkF n arcs f t fr.flow∧valTo arcs f fr.flow arcs.length=fr.sent∧dI arcs fr.flow arcs.length=fr.cost)):Bv n arcs f t fr=false:=by simp only [Bv,h,decide_false]
structure agM (arcs:List Arc) (f t s:Int) (flow:List Int) (k:Nat):Prop where
 h:∀ j:Nat,j<k→((j:Int)≠f→(j:Int)≠t→valTo arcs j flow arcs.length=0)∧((j:Int)=f→valTo arcs j flow arcs.length=s)
theorem aiR (N:Nat) (arcs:List Arc) (f t:Int) (fr:Fr) (hV:Val N arcs) (hf:0≤f∧f<N):Ok 93 [net N arcs,.i f,.i t,fr.enc] (Is (.b (Bv N arcs f t fr))):=by
 refine ok_of lw93 (by simp) ?_
 unfold c93 net Fr.enc li
 have hL:=hV.hl
 have hN:=hV.hn
 have hac:=fun a ha=>(hV.ha a ha).2.2.2.2
 simp -implicitDefEqProofs only [rX,↓rY,aA,cells?,↓reduceIte,Nat.reduceEqDiff,Nat.reduceAdd,reduceCtorEq,aC,aL,aM,wfV,yaa,cxN,aK]
 simp only [br,decide_eq_true_eq,decide_eq_false_iff_not,bne_iff_ne,bne_eq_false_iff_eq]
 refine fun hm1 hm2=>⟨fun h=>(Aq fun hO=>?_).symm,fun h=>⟨by omega,fun _=>?_⟩⟩
 ·have:=hO.1.hl;omega
 have hl:fr.flow.length=arcs.length:=by omega
 refine aT (fun k:Nat=>⟨[(29,.i k),(28,.i arcs.length),(27,.ro 4 (arcs.map Arc.enc)),(10,.i (dI arcs fr.flow k)),(9,.sl 2 0 N),(7,.ptr 1 0 0),(4,.ptr 0 0 0),(2,.i t),(1,.i f)],[.var [.i N,.ro 4 (arcs.map Arc.enc)],frB fr,.arr 1 (oR N (fun j=>valTo arcs j fr.flow k))],0⟩) (fun k=>k≤arcs.length∧PInv arcs fr.flow k) (fun k=>arcs.length-k) 0 ⟨by omega,⟨by simp⟩⟩ ?_ ?_
 ·have h0:oR N (fun j=>valTo arcs j fr.flow 0)=yab N [V.i 0]:=by rw [Qr];rfl
  simp -implicitDefEqProofs only [rX,↓reduceIte,Nat.reduceEqDiff,reduceCtorEq,leE,leH,leB,leV,aZ,aD,aB,wfE,wfB,wfV,wfL,aZ,leV,yae,frB,h0,dI]
 rintro k ⟨hk,hv⟩
 simp -implicitDefEqProofs only [rX,↓rY,aA,cells?,splice,↓reduceIte,Nat.reduceEqDiff,cR,Nat.reduceAdd,aC,aL,aM,leE,leH,leB,leV,aZ,aD,aB,wfE,wfB,wfV,wfL,isD,isC,yac,enc_len,eE,lO,lN,oF,p6,e7,bW,yaa,fG,frB,sQ,yH,Qq]
 simp only [br,decide_eq_true_eq,decide_eq_false_iff_not]
 refine ⟨fun h2=>?_,fun h2=>?_⟩
 ·have hk1:k<arcs.length:=by omega
  have hk2:k<fr.flow.length:=by omega
  have hva:=hV.ha arcs[k] (yag hk1)
  have bad:¬(0≤fr.flow[k]∧fr.flow[k]≤arcs[k].cap)→false=Bv N arcs f t fr:=fun h=>(Aq fun hO=>h (hO.1.hp k hk2 hk1)).symm
  have good:(0≤fr.flow[k]∧fr.flow[k]≤arcs[k].cap)→PInv arcs fr.flow (k+1):=by
   refine fun hx=>⟨fun j h3 h4 h5=>?_⟩
   by_cases h6:j=k
   ·subst h6;exact hx
   ·exact hv.h j h3 h4 (by omega)
  have hfb:∀ j,j<k→0≤fr.flow.getD j 0∧fr.flow.getD j 0≤1073741824:=by
   intro j hj
   have h1:=hv.h j (by omega) (by omega) hj
   have h3:=hV.ha arcs[j] (yag _)
   rw [bV (by omega)]
   omega
  have hb1:=mZ arcs arcs[k].from_ fr.flow k hfb
  have hb2:=mZ arcs arcs[k].to fr.flow k hfb
  have hb3:=sN arcs fr.flow hac k hfb
  have e1:((arcs[k].from_.toNat:Nat):Int)=arcs[k].from_:=by omega
  have e2:((arcs[k].to.toNat:Nat):Int)=arcs[k].to:=by omega
  have e3:¬arcs[k].to=arcs[k].from_:=by omega
  refine ⟨⟨by omega,h2⟩,by omega,⟨by omega,by omega⟩,by omega,fun h3=>bad (by omega),fun h3=>⟨fun h4=>bad (by omega),fun h4=>?_⟩⟩
  have hfk:0≤fr.flow[k]∧fr.flow[k]≤1073741824:=by omega
  have hmb:=Hd hfk hva.2.2.2.2
  have hst:=rG hk1 hk2
  simp only [e1,e2,e3,if_false,lo,hi,sQ]
  repeat' (first|(refine ⟨(k+1:_),?_⟩)|(refine ⟨by omega,?_⟩)|(refine And.intro ?_ ?_)|(refine (fun _=>?_)))
  all_goals first|omega|(apply good;omega)|skip
  congr 1
  apply Jl
  intro i hi
  simp only [xS (node:=i) hk1 hk2]
  grind
 have hp:Mg arcs fr.flow:=fun i h3 h4=>hv.h i h3 h4 (by omega)
 have hk0:k=arcs.length:=by omega
 subst hk0
 refine fun _=>aT (fun k:Nat=>⟨[(72,.i k),(71,.i N),(70,.sl 2 0 N),(10,.i (dI arcs fr.flow arcs.length)),(7,.ptr 1 0 0),(2,.i t),(1,.i f)],[.dead,frB fr,.arr 1 (oR N (fun j=>valTo arcs j fr.flow arcs.length))],0⟩) (fun k=>k≤N∧agM arcs f t fr.sent fr.flow k) (fun k=>N-k) 0 ⟨by omega,⟨by simp⟩⟩ ?_ ?_
 ·simp -implicitDefEqProofs only [rX,↓reduceIte,Nat.reduceEqDiff,leE,leH,leB,leV,aZ,aD,aB,wfE,wfB,wfV,wfL,aZ,leV,yae,frB]
 rintro k ⟨hk,hv⟩
 simp -implicitDefEqProofs only [rX,↓rY,aA,↓reduceIte,Nat.reduceEqDiff,cR,Nat.reduceAdd,aL,aM,leE,leH,leB,leV,aZ,aD,aB,wfE,wfB,wfV,wfL,bW,yaa,frB,sQ,yH]
 simp only [br,decide_eq_true_eq,decide_eq_false_iff_not,bne_iff_ne,bne_eq_false_iff_eq,beq_iff_eq,beq_eq_false_iff_ne]
 refine ⟨fun h3=>?_,fun h3=>?_⟩
 ·have h4:k<N:=by omega
  have bad1:(k:Int)=f→valTo arcs k fr.flow arcs.length≠fr.sent→false=Bv N arcs f t fr:=fun h h5=>(Aq fun hO=>h5 (by rw [h];exact hO.2.1)).symm
  have bad2:(k:Int)≠f→(k:Int)≠t→valTo arcs k fr.flow arcs.length≠0→false=Bv N arcs f t fr:=fun h h5 h6=>(Aq fun hO=>h6 (hO.1.hz k (by omega) (by omega) h h5)).symm
  have good:((k:Int)≠f→(k:Int)≠t→valTo arcs k fr.flow arcs.length=0)∧((k:Int)=f→valTo arcs k fr.flow arcs.length=fr.sent)→agM arcs f t fr.sent fr.flow (k+1):=by
   refine fun h5=>⟨fun j hj=>?_⟩
   by_cases h6:j=k
   ·subst h6;exact h5
   ·exact hv.h j (by omega)
  simp only [lo,hi,maxLen,sQ] at *
  repeat' (first|(refine ⟨(k+1:_),?_⟩)|(refine ⟨by omega,?_⟩)|(refine And.intro ?_ ?_)|(refine (fun _=>?_)))
  all_goals first|omega|exact bad1 ‹_› ‹_›|exact bad2 ‹_› ‹_› ‹_›|(exact good ⟨fun _ _=>by first|assumption|omega,fun _=>by first|assumption|omega⟩)
 ·have hOF:OkF N arcs f t fr.flow:=⟨hl,hp,fun j h1 h2 h4 h6=>by
   have:=(hv.h j.toNat (by omega)).1
   rw [yan h1] at this
   exact this h4 h6⟩
  have hval:valTo arcs f fr.flow arcs.length=fr.sent:=by
   have:=(hv.h f.toNat (by omega)).2
   rw [yan hf.1] at this
   exact this rfl
  by_cases hc:dI arcs fr.flow arcs.length=fr.cost<;>simp [Bv,hOF,hval,hc]
end Go.Fx.P.K
namespace Go.Fx.P.K
open Go Go.Fx Go.Fx.E Go.Proofs
def sm (g:Nat→Int):Nat→Int
 | 0=>0
 | n+1=>sm g n+g n
theorem Gd {g h:Nat→Int}:∀ n,(∀ v,v<n→g v=h v)→sm g n=sm h n
 | 0,_=>rfl
 | n+1,hh=>by simp only [sm];rw [Gd n fun v hv=>hh v (by omega),hh n (by omega)]
theorem Qj {g h:Nat→Int}:∀ n,(∀ v,v<n→g v≤h v)→sm g n≤sm h n
 | 0,_=>yaf _
 | n+1,hh=>by
  have:=Qj n fun v hv=>hh v (by omega)
  have:=hh n (by omega)
  simp only [sm];omega
theorem Qi (a:Nat) (c:Int):∀ n,sm (fun v=>if v=a then c else 0) n=if a<n then c else 0
 | 0=>by simp [sm]
 | n+1=>by
  simp only [sm,Qi a c n]
  by_cases h:a=n
  ·subst h;simp
  ·have h2:¬n=a:=fun e=>h e.symm
   rw [if_neg h2]
   by_cases h3:a<n
   ·rw [if_pos h3,if_pos (by omega)];omega
   ·rw [if_neg h3,if_neg (by omega)];omega
abbrev gA (arcs:List Arc) (k:Nat):Arc:=arcs.getD k ⟨0,0,0,0⟩
theorem o5 {arcs:List Arc} {k:Nat} (h:k<arcs.length):gA arcs k=arcs[k]:=by
 unfold gA
 rw [yad,yap h];rfl
theorem Val.at {N:Nat} {arcs:List Arc} (hV:Val N arcs) {k:Nat} (hk:k<arcs.length):(0≤(gA arcs k).from_∧(gA arcs k).from_<N)∧(0≤(gA arcs k).to∧(gA arcs k).to<N)∧(gA arcs k).from_≠(gA arcs k).to∧(0≤(gA arcs k).cap∧(gA arcs k).cap≤1073741824)∧0≤(gA arcs k).cost∧(gA arcs k).cost≤1048576:=by
 rw [o5 hk]
 exact hV.ha arcs[k] (yag hk)
end Go.Fx.P.K
namespace Go.Fx.P.K
open Go Go.Fx Go.Fx.E Go.Proofs
set_option maxRecDepth 20000
def Id (i:Nat):List V:=[.i i]
def outs (arcs:List Arc) (v:Nat) (k:Nat):List Nat:=(yal k).filter fun i=>decide ((gA arcs i).from_=v∨(gA arcs i).to=v)
def iN (arcs:List Arc) (N:Nat):List (List V):=(yal N).map fun (v:Nat)=>[.ro 1 ((outs arcs v arcs.length).map Id)]
theorem Gy {arcs:List Arc} {N:Nat}:(iN arcs N).length=N:=by simp [iN]
theorem Rk {arcs:List Arc} {N v:Nat} (h:v<(iN arcs N).length):(iN arcs N)[v]=[.ro 1 ((outs arcs v arcs.length).map Id)]:=by simp [iN]
theorem Dp {h:List Blk}:∀ {xs:List V},(∀ x∈xs,wfV h x)→wfL h xs
 | [],_=>trivial
 | x::r,hx=>⟨hx x List.mem_cons_self,Dp fun y hy=>hx y (yaX _ hy)⟩
theorem w9 {arcs:List Arc} {N:Nat} {h:List Blk}:wfL h (iN arcs N).flatten:=by
 refine Dp fun x hx=>?_
 rw [List.mem_flatten] at hx
 obtain ⟨l,h1,h2⟩:=hx
 unfold iN at h1
 rw [yaA] at h1
 obtain ⟨v,_,rfl⟩:=h1
 rw [yar] at h2
 subst h2
 trivial
theorem bY {arcs:List Arc} {N:Nat} {h:List Blk}:wfL h (iN arcs N).flatten=True:=eq_true w9
theorem fW {arcs:List Arc} {N:Nat} {M:List Nat}:(iN arcs N).map (bQ M)=iN arcs N:=by
 unfold iN
 rw [yaL]
 rfl
theorem cJ {arcs:List Arc} {N:Nat} {g:Nat→Option Nat}:(iN arcs N).map (cI g)=iN arcs N:=by
 unfold iN
 rw [yaL]
 rfl
def wB (N M:Nat) (arcs:List Arc) (b c d:Nat):Blk:=.var [.i N,.ro 4 (arcs.map Arc.enc),.sl b 0 M,.sl c 0 N,.sl d 0 N]
def wH (N:Nat) (arcs:List Arc) (x p:List Int):List Blk:=[wB N x.length arcs 1 2 3,.arr 1 (x.map encI),.arv 1 (iN arcs N),.arr 1 (p.map encI)]
structure WOk (N:Nat) (arcs:List Arc) (x p:List Int):Prop where
 hV:Val N arcs
 hN:N≤64
 hx:x.length=arcs.length
 hp:p.length=N
 hb:∀ j,0≤p.getD j 0∧p.getD j 0≤1073741824
theorem Ye (N:Nat) (arcs:List Arc) (x p:List Int) (v:Int):OkN Tryz.prog 125 [.ptr 0 0 0,.i v] (wH N arcs x p) [] (IsA (.clo 146 [.ptr 4 0 0,.ptr 5 0 0]) (wH N arcs x p++[.var [.ptr 0 0 0],.var [.i v]])):=by
 refine eR pol [0,1,2,3] lw125 (by simp) ⟨trivial,trivial,trivial,trivial,trivial⟩ (by simp [wH];omega) ?_
 unfold c125 wH wB
 simp -implicitDefEqProofs only [rX,↓rY,aA,cells?,↓reduceIte,Nat.reduceEqDiff,Nat.reduceAdd,reduceCtorEq,aC,aL,aM,leH,leB,leV,aZ,aD,aB,wfB,wfV,wfL,Nat.reduceLeDiff,cxN,aK,cA,bY]
theorem Yd (N:Nat) (arcs:List Arc) (x p:List Int) (v to cost:Int) (a b c:V) (hW:WOk N arcs x p) (hv:0≤v∧v<N) (ht:0≤to∧to<N) (hc:-1048576≤cost∧cost≤1048576) :
  OkN Tryz.prog 126 [.ptr 0 0 0,.i v,.agg [a,.i to,b,.i cost,c]] (wH N arcs x p) [] (IsA (.i (cost+p.getD v.toNat 0-p.getD to.toNat 0)) (wH N arcs x p)):=by
 refine eR pol [0,1,2,3] lw126 (by simp) ⟨trivial,trivial,trivial,trivial,trivial⟩ (by simp [wH];omega) ?_
 have h1:=hW.hb v.toNat
 have h2:=hW.hb to.toNat
 have hp:=hW.hp
 have hN:=hW.hN
 rw [getD_at (by omega)] at h1 h2 ⊢
 rw [getD_at (l:=p) (i:=to) (by omega)]
 unfold c126 wH wB
 simp -implicitDefEqProofs only [rX,↓rY,aA,cells?,↓reduceIte,Nat.reduceEqDiff,cR,Nat.reduceAdd,reduceCtorEq,aC,aL,aM,leH,leB,leV,aZ,aD,aB,wfB,wfV,wfL,yac,bW,cxN,aK,cA,bY]
 simp only [lo,hi]
 repeat' (first|(refine ⟨(0:_),?_⟩)|(refine ⟨by omega,?_⟩)|(refine And.intro ?_ ?_)|(refine (fun _=>?_)))
 all_goals omega
end Go.Fx.P.K
namespace Go.Fx.P.K
open Go Go.Fx Go.Fx.E Go.Proofs
set_option maxRecDepth 20000
def hpB (n:Nat) (ks vs:List Int):List Blk:=[.var [.sl 1 0 n,.sl 2 0 n],.arr 1 (ks.map encI),.arr 1 (vs.map encI)]
def l6 (n:Nat) (ks vs:List Int) (k v:Int):Prop:=∃ j,j<n∧ks.getD j 0=k∧vs.getD j 0=v
def sw (l:List Int) (i k:Nat):List Int:=(l.set i (l.getD k 0)).set k (l.getD i 0)
theorem j6 {l:List Int} {i k:Nat}:(sw l i k).length=l.length:=by simp [sw]
theorem uP {l:List Int} {i j:Nat} {x:Int} (h:i<l.length):(l.set i x).getD j 0=if j=i then x else l.getD j 0:=by
 rw [yad,List.getElem?_set]
 by_cases e:i=j
 ·subst e;simp [h]
 ·rw [if_neg e,if_neg (Ne.symm e),yad]
theorem xW {l:List Int} {i k j:Nat} (hi:i<l.length) (hk:k<l.length):(sw l i k).getD j 0=if j=k then l.getD i 0 else if j=i then l.getD k 0 else l.getD j 0:=by
 unfold sw
 rw [uP (by simpa using hk),uP hi]
theorem Kl {n:Nat} {ks vs:List Int} {i k:Nat} (hi:i<n) (hk:k<n) (h1:n≤ks.length) (h2:n≤vs.length) (a b:Int):l6 n (sw ks i k) (sw vs i k) a b↔l6 n ks vs a b:=by
 have key:∀ {ks vs:List Int},n≤ks.length→n≤vs.length→l6 n (sw ks i k) (sw vs i k) a b→l6 n ks vs a b:=by
  rintro ks vs h1 h2 ⟨j,hj,q1,q2⟩
  rw [xW (by omega) (by omega)] at q1 q2
  by_cases e1:j=k
  ·rw [if_pos e1] at q1 q2;exact ⟨i,hi,q1,q2⟩
  ·rw [if_neg e1] at q1 q2
   by_cases e2:j=i
   ·rw [if_pos e2] at q1 q2;exact ⟨k,hk,q1,q2⟩
   ·rw [if_neg e2] at q1 q2;exact ⟨j,hj,q1,q2⟩
 refine ⟨key h1 h2,fun h=>?_⟩
 have e:∀ {l:List Int},n≤l.length→sw (sw l i k) i k=l:=by
  intro l hl
  apply yam
  ·simp [j6]
  ·intro j hj1 hj2
   have g:=xW (l:=sw l i k) (i:=i) (k:=k) (j:=j) (by rw [j6];omega) (by rw [j6];omega)
   rw [bV hj1] at g
   rw [g]
   simp only [xW (l:=l) (show i<l.length by omega) (show k<l.length by omega)]
   have:l.getD j 0=l[j]:=bV hj2
   grind
 exact key (by rw [j6];exact h1) (by rw [j6];exact h2) (by rw [e h1,e h2];exact h)
theorem mS {l:List Int} {i:Nat} {x:Int}:(l.map encI).set i [.v (.int .i64 x)]=(l.set i x).map encI:=by
 rw [List.map_set];rfl
theorem Rn (n:Nat) (ks vs:List Int) (i k:Nat) (hi:i<n) (hk:k<n) (h1:n≤ks.length) (h2:n≤vs.length):OkN Tryz.prog 145 [.ptr 0 0 0,.i i,.i k] (hpB n ks vs) [] (IsA (.tup []) (hpB n (sw ks i k) (sw vs i k))):=by
 refine eR pol [0,1,2] lw145 (by simp) ⟨trivial,trivial,trivial,trivial⟩ (by simp [hpB];omega) ?_
 unfold sw
 rw [bV (show i<ks.length by omega),bV (show i<vs.length by omega),bV (show k<ks.length by omega),bV (show k<vs.length by omega)]
 unfold c145 hpB
 simp -implicitDefEqProofs only [rX,↓rY,rdK,cells?,splice,↓reduceIte,Nat.reduceEqDiff,cR,Nat.reduceAdd,reduceCtorEq,aL,aM,leH,leB,leV,aZ,aD,aB,wfB,wfV,wfL,isD,isC,yac,bW,yaa,fG,cxN,aK,cA,mS,yax]
 repeat' (first|(refine ⟨(0:_),?_⟩)|(refine ⟨by omega,?_⟩)|(refine And.intro ?_ ?_)|(refine (fun _=>?_)))
 all_goals first|omega|rfl|simp
end Go.Fx.P.K
namespace Go.Fx.P.K
open Go Go.Fx Go.Fx.E Go.Proofs
set_option maxRecDepth 20000
structure oI (n:Nat) (ks vs:List Int) (key val:Int) (g:List Int × List Int):Prop where
 h1:g.1.length=n+1
 h2:g.2.length=n+1
 he:∀ a b,l6 (n+1) g.1 g.2 a b↔(l6 n ks vs a b∨(a=key∧b=val))
theorem Ti {n:Nat} {ks vs:List Int} (h1:n≤ks.length) (h2:n≤vs.length) (key val a b:Int):l6 (n+1) (ks.take n++[key]) (vs.take n++[val]) a b↔(l6 n ks vs a b∨(a=key∧b=val)):=by
 have hg:∀ {l:List Int} {x:Int} {j:Nat},n≤l.length→(l.take n++[x]).getD j 0=if j<n then l.getD j 0 else if j=n then x else 0:=by
  intro l x j hl
  rw [yad]
  by_cases e:j<n
  ·rw [if_pos e,yaY (by rw [yaM];omega),List.getElem?_take_of_lt e,yad]
  ·rw [if_neg e,yaN (by rw [yaM];omega),yaM,Nat.min_eq_left hl]
   by_cases e2:j=n
   ·subst e2;simp
   ·rw [if_neg e2,yaC (by simp;omega)];rfl
 constructor
 ·rintro ⟨j,hj,q1,q2⟩
  rw [hg h1] at q1
  rw [hg h2] at q2
  by_cases e:j<n
  ·rw [if_pos e] at q1 q2;exact .inl ⟨j,e,q1,q2⟩
  ·rw [if_neg e,if_pos (by omega)] at q1 q2;exact .inr ⟨q1.symm,q2.symm⟩
 ·rintro (⟨j,hj,q1,q2⟩|⟨rfl,rfl⟩)
  ·exact ⟨j,by omega,by rw [hg h1,if_pos hj];exact q1,by rw [hg h2,if_pos hj];exact q2⟩
  ·exact ⟨n,by omega,by rw [hg h1,if_neg (by omega),if_pos rfl],by rw [hg h2,if_neg (by omega),if_pos rfl]⟩
theorem Xv {i:Nat} (h:0<i):((i:Int)-1).tdiv 2=(((i-1)/2:Nat):Int):=by
 rw [Int.tdiv_eq_ediv_of_nonneg (by omega)]
 omega
abbrev Gu (n:Nat) (g:Nat × List Int × List Int):St:=⟨[(6,.i g.1),(0,.ptr 0 0 0)],hpB (n+1) g.2.1 g.2.2,0⟩
theorem abP (n:Nat) (ks vs:List Int) (key val:Int) (hn:n≤8796093022208) {RR:St→Prop} {X:Nat→St→Prop} (hX:∀ g,oI n ks vs key val g→∀ e b,X 0 ⟨e,hpB (n+1) g.1 g.2,b⟩)
  (g:Nat × List Int × List Int) (hg:g.1≤n∧oI n ks vs key val g.2) :
  aw (cxN Tryz.prog [0]) c123l0 (fun s'=>∃ g':Nat × List Int × List Int,((g'.1≤n∧oI n ks vs key val g'.2)∧g'.1<g.1)∧leS [0] s' (Gu n g')) X RR (Gu n g):=by
 obtain ⟨i,a,c⟩:=g
 obtain ⟨hi0,q1,q2,q3⟩:=hg
 simp only at hi0 q1 q2 q3
 have hex:∀ e b,X 0 ⟨e,hpB (n+1) a c,b⟩:=fun e b=>hX (a,c) ⟨q1,q2,q3⟩ e b
 unfold c123l0 Gu hpB
 unfold hpB at hex
 simp -implicitDefEqProofs only [rX,↓rY,aA,↓reduceIte,Nat.reduceEqDiff,cR,Nat.reduceAdd,reduceCtorEq,yac,bW,yaa,cxN]
 simp only [br,decide_eq_true_eq,decide_eq_false_iff_not]
 refine ⟨fun h0=>?_,fun h0=>hex _ _⟩
 rw [Xv (by omega)]
 have hi2:(i-1)/2<i:=by omega
 refine ⟨⟨by omega,by omega⟩,by omega,by simp only [lo,hi,maxLen] at *;omega,by omega,by simp only [lo,hi,maxLen] at *;omega,⟨by omega,by omega⟩,by simp;omega,fun hlt=>?_,fun _=>hex _ _⟩
 refine ⟨by simp only [lo,hi,maxLen] at *;omega,by omega,by simp only [lo,hi,maxLen] at *;omega,?_⟩
 refine cY [0,1,2] [.ptr 0 0 0,.i i,.i ((i-1)/2:Nat)] (.tup []) (.tup []) (hpB (n+1) a c) (hpB (n+1) (sw a i ((i-1)/2)) (sw c i ((i-1)/2))) (hpB (n+1) (sw a i ((i-1)/2)) (sw c i ((i-1)/2)))
  (Rn (n+1) a c i ((i-1)/2) (by omega) (by omega) (by omega) (by omega)) (by simp) rfl (by simp [aF,aG,aN,bD,wkL,wk,pos]) (by simp [hpB]) rfl rfl ⟨trivial,trivial⟩ ?_
 unfold hpB
 simp -implicitDefEqProofs only [rX,↓rY,aA,↓reduceIte,Nat.reduceEqDiff,Nat.reduceAdd,reduceCtorEq,leE,leH,leB,leV,aZ,aD,aB,wfE,wfB,wfV,wfL,yaa]
 rw [Xv (by omega)]
 refine ⟨by simp only [lo,hi,maxLen] at *;omega,by omega,by simp only [lo,hi,maxLen] at *;omega,((i-1)/2,sw a i ((i-1)/2),sw c i ((i-1)/2)),⟨⟨by show (i-1)/2≤n;omega,⟨?_,?_,fun x y=>?_⟩⟩,hi2⟩,?_⟩
 ·show (sw a i ((i-1)/2)).length=n+1
  rw [j6];exact q1
 ·show (sw c i ((i-1)/2)).length=n+1
  rw [j6];exact q2
 ·exact (Kl (by omega) (by omega) (by omega) (by omega) x y).trans (q3 x y)
 ·exact ⟨rfl,rfl,rfl⟩
theorem Tt (n:Nat) (ks vs:List Int) (key val:Int) (h1:n≤ks.length) (h2:n≤vs.length) (hn:n≤8796093022208) {RR:St→Prop} (hR:∀ g,oI n ks vs key val g→∀ e b,RR ⟨e,hpB (n+1) g.1 g.2,b⟩) :
  aw (cxN Tryz.prog [0]) c123 RR (fun _ _=>False) RR ⟨aK 0 [.ptr 0 0 0,.i key,.i val],hpB n ks vs,0⟩:=by
 unfold c123 hpB
 have t1:yah n (ks.map encI)++[[V.i key]]=(ks.take n++[key]).map encI:=by rw [yaD,List.map_take];rfl
 have t2:yah n (vs.map encI)++[[V.i val]]=(vs.take n++[val]).map encI:=by rw [yaD,List.map_take];rfl
 have l1:(ks.take n++[key]).length=n+1:=by simp;omega
 have l2:(vs.take n++[val]).length=n+1:=by simp;omega
 simp -implicitDefEqProofs only [rX,↓rY,rdK,aA,cells?,splice,↓reduceIte,Nat.reduceEqDiff,Nat.reduceAdd,reduceCtorEq,aC,bZ,bO,bE,kill,bQ,St.kill,isD,isC,Nat.reduceLT,Nat.reduceLeDiff,cxN,aK,t1,t2]
 have he:=Ti h1 h2 key val
 generalize ks.take n++[key]=ks' at *
 generalize vs.take n++[val]=vs' at *
 repeat' (first|omega|refine And.intro ?_ ?_|refine fun hm=>?_)
 all_goals first|(simp only [lo,hi,maxLen] at *;omega)|skip
 all_goals
  refine aT (Gu n) (fun g=>g.1≤n∧oI n ks vs key val g.2) (fun g=>g.1) (n,ks',vs') ⟨yas _,l1,l2,he⟩ ?_ (abP n ks vs key val hn (fun g hg e b=>hR g hg e b))
  unfold Gu hpB
  simp -implicitDefEqProofs only [rX,↓reduceIte,reduceCtorEq,leE,leH,leB,leV,aZ,aD,aB,wfE,wfB,wfV,wfL]
  omega
theorem aeL (n:Nat) (ks vs:List Int) (key val:Int) (h1:n≤ks.length) (h2:n≤vs.length) (hn:n≤8796093022208) :
  OkN Tryz.prog 123 [.ptr 0 0 0,.i key,.i val] (hpB n ks vs) [1,2] (IsQ (oI n ks vs key val) (fun _=>.tup []) (fun g=>hpB (n+1) g.1 g.2)):=by
 refine eR pol [0] lw123 (by simp) ⟨trivial,trivial⟩ (by simp [hpB];omega) ?_
 refine Tt n ks vs key val h1 h2 hn fun g hg e b=>?_
 refine dT g hg ?_
 unfold hpB
 simp -implicitDefEqProofs only [rX,Nat.reduceAdd,aL,aM,leH,leB,leV,aZ,aD,aB,wfB,wfV,wfL]
end Go.Fx.P.K
namespace Go.Fx.P.K
open Go Go.Fx Go.Fx.E Go.Proofs
set_option maxRecDepth 20000
theorem Tj {n:Nat} {ks vs:List Int} (hn:0<n) (a b:Int):l6 n ks vs a b↔(l6 (n-1) ks vs a b∨(a=ks.getD (n-1) 0∧b=vs.getD (n-1) 0)):=by
 constructor
 ·rintro ⟨j,hj,q1,q2⟩
  by_cases e:j=n-1
  ·subst e;exact .inr ⟨q1.symm,q2.symm⟩
  ·exact .inl ⟨j,by omega,q1,q2⟩
 ·rintro (⟨j,hj,q1,q2⟩|⟨q1,q2⟩)
  ·exact ⟨j,by omega,q1,q2⟩
  ·exact ⟨n-1,by omega,q1.symm,q2.symm⟩
structure Xl (n:Nat) (E:Int→Int→Prop) (ks vs:List Int):Prop where
 h1:n≤ks.length
 h2:n≤vs.length
 he:∀ a b,l6 n ks vs a b↔E a b
structure Xk (n:Nat) (ks vs:List Int) (g:(Int × Int) × List Int × List Int):Prop where
 hin:l6 n ks vs g.1.1 g.1.2
 h1:n-1≤g.2.1.length
 h2:n-1≤g.2.2.length
 he:∀ a b,l6 n ks vs a b↔(l6 (n-1) g.2.1 g.2.2 a b∨(a=g.1.1∧b=g.1.2))
def e40 (key v:Int) (last i least:Nat):Env:=[(8,.i least),(7,.i i),(6,.i last),(5,.i v),(4,.i key),(0,.ptr 0 0 0)]
def h40 (last i:Nat) (ks vs:List Int):List Blk:=hpB last ks vs++[.arr 1 [[.i (2*i+1)],[.i (2*i+2)]]]
abbrev yX (key v:Int) (last i:Nat) (ks vs:List Int) (g:Nat × Nat):St:=⟨(59,.i g.1)::(58,.i 2)::(57,.sl 3 0 2)::e40 key v last i g.2,h40 last i ks vs,0⟩
theorem Xb (key v:Int) (last i:Nat) (ks vs:List Int) (hl:last≤8796093022208) (hi0:i≤last) (h1:last≤ks.length) (h2:last≤vs.length) {RR:St→Prop} {X:Nat→St→Prop}
  (hX:∀ least:Nat,(least=i∨(i<least∧least<last))→∀ y z b,X 2 ⟨(60,y)::(59,z)::(58,.i 2)::(57,.sl 3 0 2)::e40 key v last i least,h40 last i ks vs,b⟩)
  (g:Nat × Nat) (hg:g.1≤2∧(g.2=i∨(i<g.2∧g.2<last))) :
  aw (cxN Tryz.prog [0,1,2]) c124l1 (fun s'=>∃ g':Nat × Nat,((g'.1≤2∧(g'.2=i∨(i<g'.2∧g'.2<last)))∧2-g'.1<2-g.1)∧leS [0,1,2] s' (yX key v last i ks vs g')) X RR (yX key v last i ks vs g):=by
 obtain ⟨j,least⟩:=g
 obtain ⟨hj,hleast⟩:=hg
 simp only at hj hleast
 unfold c124l1 yX e40 h40 hpB
 have hex:=hX least hleast
 unfold e40 h40 hpB at hex
 have hj3:j=0∨j=1∨j=2:=by omega
 have t1:((2:Int)*i+1).toNat=2*i+1:=by omega
 have t2:((2:Int)*i+2).toNat=2*i+2:=by omega
 rcases hj3 with rfl|rfl|rfl
 ·simp -implicitDefEqProofs only [rX,↓rY,aA,↓reduceIte,Nat.reduceEqDiff,cR,Nat.reduceAdd,reduceCtorEq,leE,leH,leB,leV,aZ,aD,aB,wfE,wfB,wfV,wfL,yac,bW,yaa,cxN,yae]
  simp only [br,decide_eq_true_eq,decide_eq_false_iff_not,lo,hi,maxLen] at *
  refine ⟨fun _=>⟨⟨by omega,by omega⟩,by simp,?_⟩,fun h=>absurd h (by decide)⟩
  simp only [Int.toNat_zero,yaZ,yaO,qas,kZ,t1]
  refine ⟨trivial,fun hlt=>⟨⟨by omega,by omega⟩,by omega,⟨by omega,by omega⟩,by omega,fun _=>⟨by omega,(1,2*i+1),⟨⟨by simp,by right;show i<2*i+1∧2*i+1<last;omega⟩,by simp⟩,by simp,by simp⟩,fun _=>⟨by omega,(1,least),⟨⟨by simp,hleast⟩,by simp⟩,by simp,rfl⟩⟩,
   fun hge=>⟨by omega,(1,least),⟨⟨by simp,hleast⟩,by simp⟩,by simp,rfl⟩⟩
 ·simp -implicitDefEqProofs only [rX,↓rY,aA,↓reduceIte,Nat.reduceEqDiff,cR,Nat.reduceAdd,reduceCtorEq,leE,leH,leB,leV,aZ,aD,aB,wfE,wfB,wfV,wfL,yac,bW,yaa,cxN,Int.natCast_one]
  simp only [br,decide_eq_true_eq,decide_eq_false_iff_not,lo,hi,maxLen] at *
  refine ⟨fun _=>⟨⟨by omega,by omega⟩,by simp,?_⟩,fun h=>absurd h (by decide)⟩
  simp only [Int.toNat_one,yaZ,List.getElem_cons_succ,yaO,qas,kZ,t2]
  refine ⟨trivial,fun hlt=>⟨⟨by omega,by omega⟩,by omega,⟨by omega,by omega⟩,by omega,fun _=>⟨by omega,(2,2*i+2),⟨⟨by simp,by right;show i<2*i+2∧2*i+2<last;omega⟩,by simp⟩,by simp,by simp⟩,fun _=>⟨by omega,(2,least),⟨⟨by simp,hleast⟩,by simp⟩,by simp,rfl⟩⟩,
   fun hge=>⟨by omega,(2,least),⟨⟨by simp,hleast⟩,by simp⟩,by simp,rfl⟩⟩
 ·simp -implicitDefEqProofs only [rX,↓rY,aA,↓reduceIte,Nat.reduceEqDiff,cR,Nat.reduceAdd,reduceCtorEq,leE,leH,leB,leV,aZ,aD,aB,wfE,wfB,wfV,wfL,Nat.reduceLT,yac,bW,yaa,cxN]
  simp only [br,decide_eq_true_eq,decide_eq_false_iff_not,lo,hi,maxLen] at *
  exact ⟨fun h=>absurd h (by decide),fun _=>hex _ _ _⟩
abbrev yW (key v:Int) (last:Nat) (g:Nat × List Int × List Int):St:=⟨[(7,.i g.1),(6,.i last),(5,.i v),(4,.i key),(0,.ptr 0 0 0)],hpB last g.2.1 g.2.2,0⟩
theorem Xa (key v:Int) (last:Nat) (E:Int→Int→Prop) (hl:last≤8796093022208) {RR:St→Prop} {X:Nat→St→Prop} (hR:∀ ks vs,Xl last E ks vs→∀ e h b,RR ⟨(3,.i v)::(2,.i key)::e,hpB last ks vs++h,b⟩)
  (g:Nat × List Int × List Int) (hg:g.1≤last∧Xl last E g.2.1 g.2.2) :
  aw (cxN Tryz.prog [0,1,2]) c124l0 (fun s'=>∃ g':Nat × List Int × List Int,((g'.1≤last∧Xl last E g'.2.1 g'.2.2)∧last-g'.1<last-g.1)∧leS [0,1,2] s' (yW key v last g')) X RR (yW key v last g):=by
 obtain ⟨i,ks,vs⟩:=g
 obtain ⟨hi0,hP⟩:=hg
 simp only at hi0 hP
 have hRp:=hR ks vs hP
 unfold hpB at hRp
 unfold c124l0 yW hpB
 simp -implicitDefEqProofs only [rX,↓rY,aA,cells?,↓reduceIte,Nat.reduceEqDiff,Nat.reduceAdd,aC,bZ,isD,Nat.reduceLT,cxN]
 refine ⟨by simp only [lo,hi];omega,by simp only [lo,hi];omega,by simp only [lo,hi];omega,by simp only [lo,hi];omega,?_⟩
 intro _
 refine aT (yX key v last i ks vs) (fun g=>g.1≤2∧(g.2=i∨(i<g.2∧g.2<last))) (fun g=>2-g.1) (0,i) ⟨by simp,.inl rfl⟩ ?_ (Xb key v last i ks vs hl hi0 hP.h1 hP.h2 ?_)
 ·unfold yX e40 h40 hpB
  simp -implicitDefEqProofs only [rX,↓reduceIte,Nat.reduceEqDiff,reduceCtorEq,leE,leH,leB,leV,aZ,aD,aB,wfE,wfB,wfV,wfL,yae]
  rfl
 intro least hleast y z b
 unfold e40 h40 hpB
 simp -implicitDefEqProofs only [rX,↓rY,↓reduceIte,Nat.reduceEqDiff,Nat.reduceAdd,reduceCtorEq]
 simp only [br,beq_iff_eq,beq_eq_false_iff_ne]
 refine ⟨fun h=>hRp _ [_] _,fun h=>?_⟩
 have hne:least≠i:=by omega
 have hlt:i<least∧least<last:=by omega
 refine cY [0,1,2] [.ptr 0 0 0,.i i,.i least] (.tup []) (.tup []) (hpB last ks vs) (hpB last (sw ks i least) (sw vs i least)) (hpB last (sw ks i least) (sw vs i least)++[.arr 1 [[.i (2*i+1)],[.i (2*i+2)]]])
  (Rn last ks vs i least (by omega) (by omega) hP.h1 hP.h2) (by simp) rfl (by simp [aF,aG,aN,bD,wkL,wk,pos]) (by simp [hpB]) rfl rfl (by simp [aD,aB,hpB]) ?_
 unfold hpB
 simp -implicitDefEqProofs only [rX,↓reduceIte,Nat.reduceEqDiff,Nat.reduceAdd,reduceCtorEq,leE,leH,leB,leV,aZ,aD,aB,wfE,wfB,wfV,wfL]
 refine ⟨(least,sw ks i least,sw vs i least),⟨⟨by show least≤last;omega,⟨by rw [j6];exact hP.h1,by rw [j6];exact hP.h2,fun a b=>?_⟩⟩,by show last-least<last-i;omega⟩,rfl,rfl,rfl⟩
 exact (Kl (by omega) (by omega) hP.h1 hP.h2 a b).trans (hP.he a b)
theorem aeK (n:Nat) (ks vs:List Int) (h0:0<n) (h1:n≤ks.length) (h2:n≤vs.length) (hn:n≤8796093022208) :
  OkN Tryz.prog 124 [.ptr 0 0 0] (hpB n ks vs) [] (IsQ (Xk n ks vs) (fun g=>.tup [.i g.1.1,.i g.1.2]) (fun g=>hpB (n-1) g.2.1 g.2.2)):=by
 refine eR pol [0,1,2] lw124 (by simp) ⟨trivial,trivial,trivial,trivial⟩ (by simp [hpB];omega) ?_
 unfold c124 hpB
 have hn1:((n:Int)-1)=((n-1:Nat):Int):=by omega
 simp -implicitDefEqProofs only [rX,↓rY,aA,↓reduceIte,Nat.reduceEqDiff,cR,Nat.reduceAdd,reduceCtorEq,yac,bW,cxN,aK,hn1]
 refine ⟨⟨by omega,by omega⟩,by simp;omega,⟨by omega,by omega⟩,by simp;omega,fun _=>⟨by simp only [lo,hi,maxLen] at *;omega,?_⟩⟩
 refine cY [0,1,2] [.ptr 0 0 0,.i 0,.i (n-1:Nat)] (.tup []) (.tup []) (hpB n ks vs) (hpB n (sw ks 0 (n-1)) (sw vs 0 (n-1))) (hpB n (sw ks 0 (n-1)) (sw vs 0 (n-1)))
  (Rn n ks vs 0 (n-1) (by omega) (by omega) h1 h2) (by simp) rfl (by simp [aF,aG,aN,bD,wkL,wk,pos]) (by simp [hpB]) rfl rfl ⟨trivial,trivial,trivial,trivial⟩ ?_
 have k1:n≤(sw ks 0 (n-1)).length:=by rw [j6];exact h1
 have k2:n≤(sw vs 0 (n-1)).length:=by rw [j6];exact h2
 have g1:(sw ks 0 (n-1)).getD (n-1) 0=ks.getD 0 0:=by rw [xW (by omega) (by omega),if_pos rfl]
 have g2:(sw vs 0 (n-1)).getD (n-1) 0=vs.getD 0 0:=by rw [xW (by omega) (by omega),if_pos rfl]
 have hE:∀ a b,l6 n ks vs a b↔(l6 (n-1) (sw ks 0 (n-1)) (sw vs 0 (n-1)) a b∨(a=ks.getD 0 0∧b=vs.getD 0 0)):=by
  intro a b
  rw [←Kl (n:=n) (ks:=ks) (vs:=vs) (i:=0) (k:=n-1) (by omega) (by omega) h1 h2,Tj h0,g1,g2]
 generalize sw ks 0 (n-1)=ks1 at *
 generalize sw vs 0 (n-1)=vs1 at *
 have e1:ks.getD 0 0=ks[yai 0]'(by simp;omega):=bV (by omega)
 have e2:vs.getD 0 0=vs[yai 0]'(by simp;omega):=bV (by omega)
 rw [e1,e2] at hE
 have hin:l6 n ks vs (ks[yai 0]'(by simp;omega)) (vs[yai 0]'(by simp;omega)):=⟨0,h0,e1,e2⟩
 generalize ks[yai 0]'(by simp;omega)=key at *
 generalize vs[yai 0]'(by simp;omega)=v at *
 unfold hpB
 simp -implicitDefEqProofs only [rX,↓rY,rdK,aA,cells?,splice,↓reduceIte,Nat.reduceEqDiff,cR,Nat.reduceAdd,reduceCtorEq,dP,isC,Nat.reduceLeDiff,yaa]
 refine ⟨by omega,by omega,?_⟩
 refine aT (yW key v (n-1)) (fun g=>g.1≤n-1∧Xl (n-1) (l6 (n-1) ks1 vs1) g.2.1 g.2.2) (fun g=>n-1-g.1) (0,ks1,vs1) ⟨by simp,by show n-1≤ks1.length;omega,by show n-1≤vs1.length;omega,fun a b=>Iff.rfl⟩ ?_ (Xa key v (n-1) _ (by omega) fun ks' vs' hP e h b=>?_)
 ·unfold yW hpB
  simp -implicitDefEqProofs only [rX,↓reduceIte,Nat.reduceEqDiff,reduceCtorEq,leE,leH,leB,leV,aZ,aD,aB,wfE,wfB,wfV,wfL,yae]
  exact ⟨rfl,rfl⟩
 refine dT ((key,v),ks',vs') ⟨hin,hP.h1,hP.h2,fun a b=>?_⟩ ?_
 ·rw [hE a b,←hP.he a b]
 unfold hpB
 simp -implicitDefEqProofs only [rX,↓reduceIte,Nat.reduceEqDiff,Nat.reduceAdd,aL,aM,leH,leB,leV,aZ,aD,aB,wfB,wfV,wfL]
end Go.Fx.P.K
namespace Go.Fx.P.K
open Go Go.Fx Go.Fx.E Go.Proofs
set_option maxRecDepth 20000
theorem agH {k:IntKind} {a c:Int} {K:V→Prop} {x:Bool}:cN .and x k a c K=K (.v (.int k (k.wrap ((yaj k.bits a &&& yaj k.bits c).toNat:Int)))):=rfl
theorem sh_r {k:IntKind} {a c:Int} {K:V→Prop}:bU .shr k a c K=(0≤c∧K (.v (.int k (a.fdiv (2 ^ (min c.toNat k.bits)))))):=rfl
theorem Bg {a:Nat} (h:a<4294967296):IntKind.wrap .u64 (((yaj (IntKind.bits .u64) (a:Int) &&& yaj (IntKind.bits .u64) 4294967295).toNat:Nat):Int)=(a:Int):=by
 have h1:(yaj (IntKind.bits .u64) (a:Int) &&& yaj (IntKind.bits .u64) 4294967295).toNat=a:=by
  rw [BitVec.toNat_and]
  have e1:(yaj (IntKind.bits .u64) (a:Int)).toNat=a:=by
   rw [BitVec.toNat_ofInt]
   show (((a:Int)%((2 ^ 64:Nat):Int)).toNat)=a
   omega
  have e2:(yaj (IntKind.bits .u64) 4294967295).toNat=2 ^ 32-1:=by decide
  rw [e1,e2,Nat.and_two_pow_sub_one_eq_mod]
  omega
 rw [h1]
 exact dF .u64 _ (by simp only [lo,hi];omega)
theorem Qm {a:Nat} (h:a<4294967296):(a:Int).fdiv (2 ^ (min (yai 32) (IntKind.bits .u64)))=0:=by
 show (a:Int).fdiv (2 ^ 32)=0
 rw [yba _ (by decide)]
 omega
theorem adV (n:Nat) (h:n<1000000):Ok 155 [.v (.int .u64 ((1:Nat):Int)),.v (.int .u64 n)] (Is (.tup [.v (.int .u64 ((0:Nat):Int)),.v (.int .u64 n)])):=by
 refine ok_of lw155 (by simp) ?_
 unfold c155
 have e1:=Bg (a:=1) (by omega)
 have e0:=Bg (a:=0) (by omega)
 have en:=Bg (a:=n) (by omega)
 have s1:=Qm (a:=1) (by omega)
 have s0:=Qm (a:=0) (by omega)
 have sn:=Qm (a:=n) (by omega)
 have m1:((1:Nat):Int)*(n:Int)=n:=by simp
 have m0:(0:Int)*(n:Int)=0:=Int.zero_mul _
 have mz:((1:Nat):Int)*0=0:=rfl
 have zz:(0:Int)*0=0:=rfl
 have za:(0:Int)+0=0:=rfl
 have ez:IntKind.wrap .u64 (((yaj (IntKind.bits .u64) (0:Int) &&& yaj (IntKind.bits .u64) 4294967295).toNat:Nat):Int)=(0:Int):=e0
 have sz:(0:Int).fdiv (2 ^ (min (yai 32) (IntKind.bits .u64)))=0:=s0
 have h32:(0:Int)≤32:=by omega
 have b0:(lo .u64≤(0:Int)∧(0:Int)≤hi .u64):=by simp only [lo,hi];omega
 have bn:(lo .u64≤(n:Int)∧(n:Int)≤hi .u64):=by simp only [lo,hi];omega
 simp -implicitDefEqProofs only [rX,↓rY,aA,↓reduceIte,Nat.reduceEqDiff,reduceCtorEq,aL,aM,wfV,wfL,cxN,aK,↓agH,↓sh_r,e1,en,s1,sn,m1,m0,mz,zz,za,ez,sz,eq_true h32,eq_true b0,eq_true bn]
 first|rfl|trivial
theorem aeA (n:Nat) (h:n<1000000):Ok 144 [.v (.int .u64 ((1:Nat):Int)),.v (.int .u64 n)] (Is (.tup [.v (.int .u64 ((0:Nat):Int)),.v (.int .u64 n)])):=by
 refine ok_of lw144 (by simp) ?_
 unfold c144
 simp -implicitDefEqProofs only [rX,↓rY,aA,↓reduceIte,Nat.reduceEqDiff,reduceCtorEq,cxN,aK]
 refine aE (adV n h) ?_ rfl trivial ?_
 ·simp [aF,aG,aN,bD,wkL,wk,pos]
 simp -implicitDefEqProofs only [rX,↓rY,↓reduceIte,Nat.reduceEqDiff,aL,aM,wfV,wfL]
theorem Vs {n m:Nat} {x:List V}:yab n x++yab m x=yab (n+m) x:=by
 rw [List.replicate_append_replicate]
theorem aeM (N:Nat) (x:Int) (h1:1≤N) (h2:N≤1000):Ok 122 [.bro 1 [encI x],.i N] (IsA (.sl 0 0 N) [.arr 1 (yab N (encI x))]):=by
 refine ok_of lw122 (by simp) ?_
 unfold c122
 have w1:IntKind.wrap .u64 (((1:Nat):Int))=((1:Nat):Int):=dF .u64 _ (by simp only [lo,hi];omega)
 have wn:IntKind.wrap .u64 (N:Int)=N:=dF .u64 _ (by simp only [lo,hi];omega)
 have wi:IntKind.wrap .i64 (N:Int)=N:=dF .i64 _ (by simp only [lo,hi];omega)
 have hneg:decide ((N:Int)<0)=false:=decide_eq_false (by omega)
 have hz:decide ((0:Int)<((0:Nat):Int))=false:=rfl
 have hbig:decide ((9223372036854775807:Int)<(N:Int))=false:=decide_eq_false (by omega)
 have hff:(if false=true then (lo .u64≤0∧0≤hi .u64) else False)=False:=by simp
 simp -implicitDefEqProofs only [rX,↓rY,aA,↓reduceIte,Nat.reduceEqDiff,reduceCtorEq,cxN,aK,hneg]
 intro _
 simp -implicitDefEqProofs only [w1,wn]
 refine aE (aeA N (by omega)) ?_ rfl trivial ?_
 ·simp [aF,aG,aN,bD,wkL,wk,pos,w1]
 simp -implicitDefEqProofs only [rX,↓rY,aA,↓reduceIte,Nat.reduceEqDiff,reduceCtorEq,aC,yaa,hz,hbig,wi]
 refine ⟨⟨⟨by omega,by omega⟩,by omega,by omega⟩,?_⟩
 have hmin:min 1 N=1:=by omega
 refine aT (fun n:Nat=>⟨[(8,.i n),(7,.sl 0 0 N)],[.arr 1 (yab n (encI x)++yab (N-n) (encI 0))],0⟩) (fun n=>1≤n∧n≤N) (fun n=>N-n) 1 (by omega) ?_ ?_
 ·simp -implicitDefEqProofs only [rX,↓reduceIte,Nat.reduceEqDiff,leE,leH,leB,aD,aB,wfE,wfB,wfV,hmin]
  have:yah N [encI x]=[encI x]:=yaq (by simp;omega)
  rw [this,yaP]
  simp
  exact .inr rfl
 rintro n ⟨hn1,hn2⟩
 simp -implicitDefEqProofs only [rX,↓rY,↓reduceIte,Nat.reduceEqDiff,cR,dP,aL,aM,leE,leH,leB,aD,aB,wfE,wfB,wfV,Nat.reduceLeDiff,yaa,cA]
 intro hmx
 simp only [br,decide_eq_true_eq,decide_eq_false_iff_not]
 refine ⟨fun h=>?_,fun h=>?_⟩
 ·have h00:yai 0=0:=rfl
  have e1:yah n (yab n (encI x)++yab (N-n) (encI 0))=yab n (encI x):=by
   rw [List.take_append_of_le_length (by simp),yaq (by simp)]
  simp only [h00,Nat.sub_zero,List.drop_zero,Nat.zero_add,e1,ybb]
  refine ⟨⟨⟨by omega,by omega⟩,by omega⟩,⟨⟨by omega,by omega⟩,by omega,by omega⟩,by omega,.inr trivial,⟨by simp only [lo];omega,by simp only [hi];omega⟩,n+min n (N-n),⟨⟨by omega,by omega⟩,by omega⟩,by omega,?_⟩
  have e2:List.drop (n+min n (N-n)) (yab n (encI x)++yab (N-n) (encI 0))=yab (N-(n+min n (N-n))) (encI 0):=by
   rw [List.drop_append,yaP,yaP,ybb,show n-(n+min n (N-n))=0 by omega,show N-n-(n+min n (N-n)-n)=N-(n+min n (N-n)) by omega]
   rfl
  rw [e2,List.take_replicate,Vs,show min (N-n) n=min n (N-n) by omega]
 ·have:N-n=0:=by omega
  have:n=N:=by omega
  subst this
  simp
end Go.Fx.P.K
namespace Go.Fx.P.K
open Go Go.Fx Go.Fx.E Go.Proofs
set_option maxRecDepth 20000
theorem Wj {α:Type} {a b c d f:α} {l:List α} {q:Nat}:(a::b::c::d::f::l)[q+5]?=l[q]?:=rfl
theorem acK {α:Type} {a b c d f x:α} {l:List α} {q:Nat}:(a::b::c::d::f::l).set (q+5) x=a::b::c::d::f::l.set q x:=rfl
def encR (l:List Nat):List (List V):=l.map Id
theorem tG {l:List Nat}:(encR l).length=l.length:=by simp [encR]
def iD (N:Nat) (L:Nat→List Nat):List (List V):=(yal N).map fun (v:Nat)=>[.sl (v+5) 0 (L v).length]
def dG (N:Nat) (L:Nat→List Nat):List Blk:=(yal N).map fun (v:Nat)=>.arr 1 (encR (L v))
section
variable {N:Nat} {L:Nat→List Nat}
theorem mB:(iD N L).length=N:=by simp [iD]
theorem fV:(dG N L).length=N:=by simp [dG]
theorem mC {v:Nat} (h:v<(iD N L).length):(iD N L)[v]=[.sl (v+5) 0 (L v).length]:=by simp [iD]
theorem sO {v:Nat} {l:List Blk} (h:v<N):(dG N L++l)[v]?=some (.arr 1 (encR (L v))):=by
 rw [yaY (by rw [fV];exact h)]
 simp [dG,h]
theorem uC {q:Nat} {l:List Blk}:(dG N L++l)[N+q]?=l[q]?:=by
 rw [yaN (by rw [fV];omega),fV];congr 1;omega
theorem yG {l:List Blk}:(dG N L++l)[N]?=l[0]?:=uC (q:=0)
theorem uB {q:Nat} {l:List Blk} {x:Blk}:(dG N L++l).set (N+q) x=dG N L++l.set q x:=by
 rw [ybc _ _ (by rw [fV];omega),fV];congr 2;omega
theorem Jj {l:List Blk} {x:Blk}:(dG N L++l).set N x=dG N L++l.set 0 x:=uB (q:=0)
theorem Cj {v:Nat} {l:List Blk} {x:Blk} (h:v<N):(dG N L++l).set v x=(dG N L).set v x++l:=by
 rw [List.set_append_left _ _ (by rw [fV];exact h)]
theorem Jk {M:List Nat}:(dG N L).map (bE M)=dG N L:=by
 unfold dG
 rw [yaL]
 rfl
def app (L:Nat→List Nat) (v k:Nat):Nat→List Nat:=fun u=>if u=v then L u++[k] else L u
theorem rI {v:Nat} (k:Nat) (hv:v<N):((iD N L).map (bQ [v+5])).set v [.sl (v+5) 0 ((L v).length+1)]=iD N (app L v k):=by
 apply yam
 ·simp [iD]
 ·intro q h1 h2
  have hq:q<N:=by simpa [iD] using h2
  rw [yaB,mC]
  by_cases e:v=q
  ·subst e
   simp [app]
  ·rw [if_neg e,yac,mC]
   have:¬(q+5=v+5):=by omega
   simp [bQ,kill,this,app,Ne.symm e]
theorem rJ {v:Nat} (k:Nat) (hv:v<N):(dG N L).set v (.arr 1 (encR (L v)++[Id k]))=dG N (app L v k):=by
 apply yam
 ·simp [dG]
 ·intro q h1 h2
  have hq:q<N:=by simpa [dG] using h2
  rw [yaB]
  simp only [dG,yac,List.getElem_range]
  by_cases e:v=q
  ·subst e
   rw [if_pos rfl]
   simp [encR,app]
  ·rw [if_neg e];simp [app,Ne.symm e]
theorem Ck {Q:List Blk→Prop} (h0:Q []) (h1:∀ els r,Q r→Q (.arr 1 els::r)):Q (dG N L):=by
 have:∀ l:List Blk,(∀ b∈l,∃ els,b=.arr 1 els)→Q l:=by
  intro l
  induction l with
  | nil=>intro _;exact h0
  | cons b r ih =>
   intro h
   obtain ⟨els,rfl⟩:=h b List.mem_cons_self
   exact h1 _ _ (ih fun b hb=>h b (yaX _ hb))
 refine this _ fun b hb=>?_
 unfold dG at hb
 rw [yaA] at hb
 obtain ⟨v,_,rfl⟩:=hb
 exact ⟨_,rfl⟩
theorem yF {q:List Blk}:wfB q (dG N L):=Ck trivial fun _ _ h=>h
theorem uD {l:List Blk}:leH (dG N L++l) (dG N L):=Ck (Q:=fun m=>leH (m++l) m) (by unfold leH;trivial) fun _ _ h=>⟨rfl,h⟩
theorem yE {a b c d f:Blk}:wfL (a::b::c::d::f::dG N L) (iD N L).flatten:=by
 refine Dp fun x hx=>?_
 rw [List.mem_flatten] at hx
 obtain ⟨l,h1,h2⟩:=hx
 unfold iD at h1
 rw [yaA] at h1
 obtain ⟨v,hv,rfl⟩:=h1
 rw [yav] at hv
 rw [yar] at h2
 subst h2
 simp only [wfV,aB,Wj]
 have:=sO (L:=L) (l:=[]) hv
 rw [yat] at this
 rw [this]
 trivial
end
def Am (N:Nat) (arcs:List Arc) (x:List Int) (L:Nat→List Nat):List Blk :=
 .arr 1 (x.map encI)::.var [.i N,.ro 4 (arcs.map Arc.enc)]::.arv 1 (iD N L)::.arr 1 (yab N (encI 0))::wB N x.length arcs 0 2 3::dG N L
def Gx (N:Nat) (arcs:List Arc) (x:List Int) (k:Nat):St :=
 ⟨[(21,.i k),(20,.i arcs.length),(19,.ro 4 (arcs.map Arc.enc)),(5,.ptr 4 0 0),(2,.ptr 1 0 0)],Am N arcs x (fun v=>outs arcs v k),0⟩
theorem yZ {arcs:List Arc} {v k:Nat}:(outs arcs v k).length≤k:=by
 have:=List.length_filter_le (fun i=>decide ((gA arcs i).from_=v∨(gA arcs i).to=v)) (yal k)
 rwa [List.length_range] at this
theorem On {arcs:List Arc} {k f t:Nat} (hf:(gA arcs k).from_=f) (ht:(gA arcs k).to=t) (hft:f≠t):(fun v=>outs arcs v (k+1))=app (app (fun v=>outs arcs v k) f k) t k:=by
 funext v
 have h1:outs arcs v (k+1)=outs arcs v k++(if (gA arcs k).from_=v∨(gA arcs k).to=v then [k] else []):=by
  unfold outs
  rw [List.range_succ,List.filter_append]
  congr 1
  by_cases h:(gA arcs k).from_=v∨(gA arcs k).to=v
  ·rw [if_pos h];simp only [List.filter_cons,List.filter_nil,h,decide_true];rfl
  ·rw [if_neg h];simp only [List.filter_cons,List.filter_nil,h,decide_false];rfl
 rw [h1,hf,ht]
 unfold app
 by_cases e1:v=t
 ·subst e1
  rw [if_pos rfl,if_neg (Ne.symm hft)]
  simp
 ·rw [if_neg e1]
  by_cases e2:v=f
  ·subst e2;simp
  ·rw [if_neg e2]
   have:¬((f:Int)=v∨(t:Int)=v):=by omega
   rw [if_neg this];simp
theorem abS (N:Nat) (arcs:List Arc) (x:List Int) (hV:Val N arcs) {RR:St→Prop} {X:Nat→St→Prop}
  (hX:∀ e b,get e 5=.ptr 4 0 0→X 0 ⟨e,Am N arcs x (fun v=>outs arcs v arcs.length),b⟩) (k:Nat) (hk:k≤arcs.length) :
  aw (cxN Tryz.prog [0]) c89l0 (fun s'=>∃ g':Nat,(g'≤arcs.length∧arcs.length-g'<arcs.length-k)∧leS [0] s' (Gx N arcs x g')) X RR (Gx N arcs x k):=by
 have hL:=hV.hl
 have hfl:=fun v=>yZ (arcs:=arcs) (k:=k) (v:=v)
 have hnext:=fun f t=>On (arcs:=arcs) (k:=k) (f:=f) (t:=t)
 unfold c89l0 Gx Am wB
 simp -implicitDefEqProofs only [rX,↓rY,rdK,aA,cells?,splice,↓reduceIte,Nat.reduceEqDiff,cR,Nat.reduceAdd,reduceCtorEq,aC,bZ,isD,Nat.reduceLT,yac,enc_len,eE,lO,e7,yaa,cxN,Wj,acK,fV,uC,yG,uB,Jj,mB,yaQ]
 simp only [br,decide_eq_true_eq,decide_eq_false_iff_not]
 refine ⟨fun h=>?_,fun h=>?_⟩
 ·have hk1:k<arcs.length:=by omega
  have hgk:gA arcs k=arcs[k]:=o5 hk1
  have hva:=hV.at hk1
  rw [hgk] at hva hnext
  have hnx:=hnext arcs[k].from_.toNat arcs[k].to.toNat (by omega) (by omega) (by omega)
  have hf:arcs[k].from_.toNat<N:=by omega
  have ht:arcs[k].to.toNat<N:=by omega
  have if5:∀ (L:Nat→List Nat) (l:List Blk),(dG N L++l)[arcs[k].from_.toNat]?=some (.arr 1 (encR (L arcs[k].from_.toNat))):=fun L l=>sO hf
  have it5:∀ (L:Nat→List Nat) (l:List Blk),(dG N L++l)[arcs[k].to.toNat]?=some (.arr 1 (encR (L arcs[k].to.toNat))):=fun L l=>sO ht
  have tk:∀ l:List Nat,yah l.length (encR l)=encR l:=fun l=>yaq (by rw [tG];omega)
  have ek:[V.v (Value.int IntKind.i64 (k:Int))]=Id k:=rfl
  have ke:∀ M:List Nat,bQ M arcs[k].enc=arcs[k].enc:=fun M=>rfl
  have n0:(N=arcs[k].from_.toNat)=False:=eq_false (by omega)
  have n1:(N+1=arcs[k].from_.toNat)=False:=eq_false (by omega)
  have n2:(N=arcs[k].to.toNat)=False:=eq_false (by omega)
  have n3:(N+1=arcs[k].to.toNat)=False:=eq_false (by omega)
  have n4:(arcs[k].from_.toNat=N)=False:=eq_false (by omega)
  have n5:(arcs[k].to.toNat=N)=False:=eq_false (by omega)
  have n6:(N+3=arcs[k].to.toNat)=False:=eq_false (by omega)
  have n7:(arcs[k].from_.toNat=arcs[k].to.toNat)=False:=eq_false (by omega)
  have n8:(arcs[k].to.toNat=arcs[k].from_.toNat)=False:=eq_false (by omega)
  have eN:(Id k).length=1:=rfl
  have eD:(Id k).all isD=true:=rfl
  have hap:∀ (L:Nat→List Nat),app L arcs[k].from_.toNat k arcs[k].to.toNat=L arcs[k].to.toNat:=fun L=>by simp [app,n8]
  have mk:∀ (L:Nat→List Nat) (M:List Nat),((iD N L).map (bQ M)).length=N:=fun L M=>by rw [List.length_map,mB]
  refine ⟨⟨by omega,h⟩,by omega,by omega,by omega,?_⟩
  simp -implicitDefEqProofs only [rX,↓rY,rdK,aA,cells?,splice,↓reduceIte,Nat.reduceEqDiff,cR,Nat.reduceAdd,reduceCtorEq,aC,bZ,leE,leH,leB,leV,aZ,aD,aB,wfE,wfB,wfV,wfL,bO,bE,kill,bQ,St.kill,isC,Nat.reduceLT,yac,lN,Wj,acK,fV,uC,yG,uB,mB,mC,yaQ,if5,it5,tk,ek,mk,tG,ke,n0,n1,n2,n3,n4,n5,n6,n7,eN,eD,hap,yaD,Jk,Cj hf,Cj ht,fun L=>rI (L:=L) k hf,fun L=>rI (L:=L) k ht,fun L=>rJ (L:=L) k hf,fun L=>rJ (L:=L) k ht]
  have r1:=rI (L:=app (fun v=>outs arcs v k) arcs[k].from_.toNat k) k ht
  have r2:=rJ (L:=app (fun v=>outs arcs v k) arcs[k].from_.toNat k) k ht
  rw [hap] at r1 r2
  have o1:=hfl arcs[k].from_.toNat
  have o2:=hfl arcs[k].to.toNat
  refine ⟨by omega,hva.1,by omega,hva.2.1,by omega,by omega,hva.2.1,by omega,by simp only [lo,hi];omega,k+1,⟨by omega,by omega⟩,by omega,?_⟩
  rw [r1,r2,←hnx]
  exact ⟨⟨rfl,uD⟩,yE,yF⟩
 ·have hke:k=arcs.length:=by omega
  subst hke
  exact hX _ _ rfl
theorem Xz (N:Nat) (arcs:List Arc) (x:List Int) (hV:Val N arcs):OkN Tryz.prog 89 [net N arcs,.sl 0 0 x.length] [.arr 1 (x.map encI)] [] (IsA (.ptr 4 0 0) (Am N arcs x (fun v=>outs arcs v arcs.length))):=by
 refine eR pol [0] lw89 (by simp) ⟨trivial,trivial⟩ (by simp) ?_
 have hL:=hV.hl
 have hN:=hV.hn
 unfold c89 net
 simp -implicitDefEqProofs only [rX,↓rY,rdK,aA,cells?,splice,↓reduceIte,Nat.reduceEqDiff,Nat.reduceAdd,reduceCtorEq,aC,bH,Nat.reduceLeDiff,yaa,cxN,aK]
 have hrows:∀ v,outs arcs v 0=[]:=fun v=>rfl
 have e0:dG N (fun v=>outs arcs v 0)=yab N (.arr 1 []):=by
  apply yam
  ·simp [dG]
  ·intro q h1 h2
   simp [dG,hrows,encR]
 have hnil:Mj (yab N [V.nil]) (iD N (fun v=>outs arcs v 0)):=by
  refine ⟨by simp [mB],fun i a b h1 h2=>?_⟩
  have hi:i<N:=by
   have:=(List.getElem?_eq_some_iff.1 h1).1
   simpa using this
  have ha:a=[V.nil]:=by
   rw [yaE,if_pos hi] at h1
   simpa using h1.symm
  have hb:b=[.sl (i+5) 0 0]:=by
   rw [yap (by rw [mB];exact hi),mC] at h2
   simpa [hrows] using h2.symm
  subst ha hb
  refine ⟨rfl,fun j x y q1 q2=>?_⟩
  cases j with
  | zero =>
   simp only [yaO,Option.some.injEq] at q1 q2
   subst q1 q2
   exact .inr ⟨rfl,_,rfl⟩
  | succ j=>simp at q1
 have hfin:∀ e b,get e 5=.ptr 4 0 0→aw (cxN Tryz.prog [0]) ((LCode.reg 0 [{ dst:=some 63,op:=LOp.mov (Operand.tmp 5) },{ dst:=some 4,op:=LOp.mov (Operand.tmp 63) }]).seq LCode.ret)
   (eL [0] 1 [gY.tmp 4] (IsA (V.ptr 4 0 0) (Am N arcs x fun v=>outs arcs v arcs.length))) (fun x x_1=>False) (eL [0] 1 [gY.tmp 4] (IsA (V.ptr 4 0 0) (Am N arcs x fun v=>outs arcs v arcs.length))) ⟨e,Am N arcs x fun v=>outs arcs v arcs.length,b⟩:=by
  intro e b he
  have hle:=uD (N:=N) (L:=fun v=>outs arcs v arcs.length) (l:=[])
  rw [yat] at hle
  unfold Am wB
  simp -implicitDefEqProofs only [rX,↓reduceIte,aL,aM,leH,leB,leV,aZ,aD,aB,wfB,wfV,wfL,Nat.reduceLeDiff,cxN,he,cA,eq_true hle,eq_true yF,eq_true yE]
 refine ⟨⟨⟨by omega,by omega,by omega⟩,⟨by omega,by omega,by omega⟩,fun hm=>?_⟩,⟨by omega,by omega,by omega⟩,⟨by omega,by omega,by omega⟩,fun hm=>?_⟩
 all_goals
  refine fX (.virt N 1 (by decide) (.nilW 2 1 _ (iD N fun v=>outs arcs v 0) rfl hnil (.refl _))) (Gx N arcs x) (fun k=>k≤arcs.length) (fun k=>arcs.length-k) 0 (yaw _) ?_ (abS N arcs x hV (fun e b he=>hfin e b he))
  unfold Gx Am wB
  rw [e0]
  have hle:=uD (N:=N) (L:=fun v=>outs arcs v 0) (l:=[])
  rw [yat,e0] at hle
  have hwf:=fun q=>yF (N:=N) (L:=fun v=>outs arcs v 0) (q:=q)
  rw [e0] at hwf
  have hws:=fun a b c d f=>yE (N:=N) (L:=fun v=>outs arcs v 0) (a:=a) (b:=b) (c:=c) (d:=d) (f:=f)
  rw [e0] at hws
  simp -implicitDefEqProofs only [rX,↓reduceIte,Nat.reduceEqDiff,leE,leH,leB,leV,aZ,aD,aB,wfE,wfB,wfV,wfL,yae,eq_true hle,fun q=>eq_true (hwf q),fun a b c d f=>eq_true (hws a b c d f)]
  rfl
theorem Ji {N:Nat} {L:Nat→List Nat} {a b c d f:Blk}:(iD N L).map (gvL (fun k=>decide (5≤k)) (a::b::c::d::f::dG N L))=(yal N).map fun (v:Nat)=>[.ro 1 (encR (L v))]:=by
 apply yam
 ·simp [iD]
 ·intro v h1 h2
  have hv:v<N:=by simpa using h2
  rw [yac,mC]
  have hb:blk (a::b::c::d::f::dG N L) (v+5)=.arr 1 (encR (L v)):=by
   unfold blk
   have:=sO (L:=L) (l:=[]) hv
   rw [yat] at this
   rw [yad,Wj,this];rfl
  simp only [gvL,gvV,hb]
  have:yah (L v).length (encR (L v))=encR (L v):=yaq (by rw [tG];omega)
  simp [tG,this]
theorem aiU (N:Nat) (arcs:List Arc) (x:List Int) (hV:Val N arcs):OkN Tryz.prog 89 [net N arcs,.sl 0 0 x.length] [.arr 1 (x.map encI)] [] (IsA (.ptr 4 0 0) [.arr 1 (x.map encI),.dead,.arv 1 (iN arcs N),.arr 1 (yab N (encI 0)),wB N x.length arcs 0 2 3]):=by
 refine ⟨(Xz N arcs x hV).1,Pn [0] (by simp) (by simp) (Xz N arcs x hV).2 ?_⟩
 rintro r hs ⟨rfl,rfl⟩
 refine ⟨by simp [aD,aB,Am],_,_,⟨rfl,rfl⟩,by simp,?_⟩
 refine ⟨_,.give (fun k=>decide (5≤k)) (by simp) (.refl _),?_⟩
 have hg:=fun a b c d f=>Ji (N:=N) (L:=fun v=>outs arcs v arcs.length) (a:=a) (b:=b) (c:=c) (d:=d) (f:=f)
 have hO:((yal N).map fun (v:Nat)=>[V.ro 1 (encR (outs arcs v arcs.length))])=iN arcs N:=rfl
 unfold Am wB
 simp only [St.give,gvH,gvB,gvE,gvV]
 simp -implicitDefEqProofs only [rX,↓reduceIte,Nat.reduceAdd,leE,leH,leB,leV,aZ,aD,aB,wfE,wfB,wfV,wfL,Nat.reduceLeDiff,gvL,gvV,hg,hO,bY,Nat.reduceLeDiff,decide_false]
end Go.Fx.P.K
namespace Go.Fx.P.K
open Go Go.Fx Go.Fx.E Go.Proofs
set_option maxRecDepth 20000
theorem abJ (i:Nat):(Id i)[0]?=some (.i i):=rfl
def cQ (arcs:List Arc) (x:List Int) (v k:Nat):Int:=if (gA arcs k).from_=v then (gA arcs k).cap-x.getD k 0 else x.getD k 0
def lJ (arcs:List Arc) (x:List Int) (v k:Nat):V :=
 if (gA arcs k).from_=v then .agg [.i k,.i (gA arcs k).to,.i ((gA arcs k).cap-x.getD k 0),.i (gA arcs k).cost,.b false]
 else .agg [.i k,.i (gA arcs k).from_,.i (x.getD k 0),.i (-(gA arcs k).cost),.b true]
def vX (arcs:List Arc) (x:List Int) (v k:Nat):List V :=
 if (gA arcs k).from_=v then [.i k,.i (gA arcs k).to,.i ((gA arcs k).cap-x.getD k 0),.i (gA arcs k).cost,.b false]
 else [.i k,.i (gA arcs k).from_,.i (x.getD k 0),.i (-(gA arcs k).cost),.b true]
theorem abI {a:Arc} {q:List Blk}:wfL q a.enc:=by simp [Arc.enc,wfL,wfV]
structure EI (arcs:List Arc) (v k a b i:Nat) (e:Env):Prop where
 e0:get e 0=.itr k
 e1:get e 1=.ptr a 0 0
 e2:get e 2=.ptr b 0 0
 e14:get e 14=.ro 1 (encR (outs arcs v arcs.length))
 e15:get e 15=.i (outs arcs v arcs.length).length
 e16:get e 16=.i i
 e65:get e 65=.b true
structure ItH {G:Type} (hp:G→List Blk) (fl:G→List Int) (L N v:Nat) (arcs:List Arc) (k a b w fb ob pb:Nat) (fx:List Nat):Prop where
 hV:Val N arcs
 hv:v<N
 len:∀ g,(hp g).length=L
 ha:∀ g tl,(hp g++tl)[a]?=some (.var [.ptr w 0 0])
 hb:∀ g tl,(hp g++tl)[b]?=some (.var [.i v])
 hw:∀ g tl,(hp g++tl)[w]?=some (wB N arcs.length arcs fb ob pb)
 hf:∀ g tl,(hp g++tl)[fb]?=some (.arr 1 ((fl g).map encI))
 ho:∀ g tl,(hp g++tl)[ob]?=some (.arv 1 (iN arcs N))
 kp:∀ g,aD fx (hp g)
 wf:∀ g,wfB (hp g) (hp g)
 lk:∀ g,∃ t e,(hp g)[k]?=some (.rcd t e)
 fk:∀ g,(fl g).length=arcs.length∧∀ j,0≤(fl g).getD j 0∧(fl g).getD j 0≤1073741824
theorem leH_app:∀ (h l:List Blk),leH (h++l) h
 | [],_=>by unfold leH;trivial
 | b::h,l=>⟨aU b,leH_app h l⟩
abbrev nP {G:Type} (hp:G→List Blk) (arcs:List Arc) (v k a b:Nat) (g:Nat × G):St :=
 ⟨[(16,.i g.1),(15,.i (outs arcs v arcs.length).length),(14,.ro 1 (encR (outs arcs v arcs.length))),(2,.ptr b 0 0),(1,.ptr a 0 0),(0,.itr k)],hp g.2,0⟩
section
variable {G:Type} {hp:G→List Blk} {fl:G→List Int} {L N v:Nat} {arcs:List Arc} {k a b w fb ob pb:Nat} {fx:List Nat} {Y:Yt} {K:List Blk→Prop} {Inv:Nat→G→Prop}
theorem w8 {i:Nat} (h:i<(outs arcs v arcs.length).length):(outs arcs v arcs.length)[i]<arcs.length∧((gA arcs (outs arcs v arcs.length)[i]).from_=v∨(gA arcs (outs arcs v arcs.length)[i]).to=v):=by
 have:=yag h
 unfold outs at this
 rw [List.mem_filter,yav,decide_eq_true_eq] at this
 exact this
theorem Wd (H:ItH hp fl L N v arcs k a b w fb ob pb fx)
  (hskip:∀ i g (hi:i<(outs arcs v arcs.length).length),Inv i g→cQ arcs (fl g) v (outs arcs v arcs.length)[i]≤0→Inv (i+1) g)
  (hY:∀ i g (hi:i<(outs arcs v arcs.length).length),Inv i g→0<cQ arcs (fl g) v (outs arcs v arcs.length)[i]→∀ (e:Env) (bb:Nat) (Z:V→St→Prop),EI arcs v k a b i e →
   (∀ e' g' tl,EI arcs v k a b i e'→Inv (i+1) g'→Z (.b true) ⟨e',hp g'++tl,bb⟩)→(∀ e' hh,EI arcs v k a b i e'→K hh→Z (.b false) ⟨e',hh,bb⟩)→Y [lJ arcs (fl g) v (outs arcs v arcs.length)[i]] ⟨e,hp g++[.var (gA arcs (outs arcs v arcs.length)[i]).enc,.var (vX arcs (fl g) v (outs arcs v arcs.length)[i])],bb⟩ Z)
  (hK:∀ g,Inv (outs arcs v arcs.length).length g→K (hp g))
  (g:Nat × G) (hg:g.1≤(outs arcs v arcs.length).length∧Inv g.1 g.2) :
  aw ⟨C0 Tryz.prog,fx,[],I0 Tryz.prog,fun k' xs s Z=>k'=k∧Y xs s Z,none⟩ c146l0 (fun s'=>∃ g':Nat × G,((g'.1≤(outs arcs v arcs.length).length∧Inv g'.1 g'.2)∧(outs arcs v arcs.length).length-g'.1<(outs arcs v arcs.length).length-g.1)∧leS fx s' (nP hp arcs v k a b g'))
   (fun j s'=>if j=0 then K s'.h else False) (fun s=>K s.h) (nP hp arcs v k a b g):=by
 obtain ⟨i,g⟩:=g
 obtain ⟨hi,hI⟩:=hg
 simp only at hi hI
 have hL:=H.hV.hl
 have ha:=H.ha g
 have hb:=H.hb g
 have hw:=H.hw g
 have hf:=H.hf g
 have ho:=H.ho g
 have hlen:=H.len g
 have hk0:=hK g
 have go:∀ j tl,(hp g++tl)[L+j]?=tl[j]?:=fun j tl=>by
  rw [yaN (by omega),hlen];congr 1;omega
 have go0:∀ tl,(hp g++tl)[L]?=tl[0]?:=go 0
 have gs:∀ j tl B,(hp g++tl).set (L+j) B=hp g++tl.set j B:=fun j tl B=>by
  rw [ybc _ _ (by omega),hlen];congr 2;omega
 have gs0:∀ tl B,(hp g++tl).set L B=hp g++tl.set 0 B:=gs 0
 have a0:=ha []
 have b0:=hb []
 have w0:=hw []
 have f0:=hf []
 have o0:=ho []
 rw [yat] at a0 b0 w0 f0 o0
 generalize hrow:outs arcs v arcs.length=row at *
 unfold c146l0 nP
 rcases yau i row.length with hi1|hi1
 ·have hd:decide ((i:Int)<(row.length:Int))=true:=decide_eq_true (by omega)
  have hin:row[i]<arcs.length∧((gA arcs row[i]).from_=v∨(gA arcs row[i]).to=v):=by have:=w8 (v:=v) (arcs:=arcs) (i:=i) (by rw [hrow];exact hi1);simp only [hrow] at this;exact this
  have hga:gA arcs row[i]=arcs[row[i]]'hin.1:=o5 hin.1
  simp -implicitDefEqProofs only [rX,↓rY,rZ,↓rW,rdK,aA,cells?,splice,↓reduceIte,Nat.reduceEqDiff,cR,Nat.reduceAdd,reduceCtorEq,aC,bH,leE,aB,wfE,wfV,isC,Nat.reduceLeDiff,yac,enc_len,eE,lO,lN,oF,p6,e7,bW,yaa,hrow,hd,encR,abJ,hlen,yaQ,ha,hb,hw,hf,wB,go,go0,gs,gs0]
  have hrk:((row[i]:Nat):Int)<arcs.length:=by omega
  have hfk:=H.fk g
  have hfx:row[i]<(fl g).length:=by rw [hfk.1];exact hin.1
  have hfb:=hfk.2 row[i]
  have hva:=H.hV.at hin.1
  have hxe:(fl g).getD row[i] 0=(fl g)[row[i]]:=bV hfx
  have hlrow:row.length≤2048:=by rw [←hrow];exact Nat.le_trans yZ hL
  rw [hga] at hva
  have hwrap:IntKind.wrap .i64 (-arcs[row[i]].cost)=-arcs[row[i]].cost:=dF .i64 _ (by simp only [lo,Fx.hi];omega)
  rw [hxe] at hfb
  have hroom:cQ arcs (fl g) v row[i]=if arcs[row[i]].from_=v then arcs[row[i]].cap-(fl g)[row[i]] else (fl g)[row[i]]:=by unfold cQ;rw [hga,hxe]
  have hway:lJ arcs (fl g) v row[i]=if arcs[row[i]].from_=v then .agg [.i row[i],.i arcs[row[i]].to,.i (arcs[row[i]].cap-(fl g)[row[i]]),.i arcs[row[i]].cost,.b false] else .agg [.i row[i],.i arcs[row[i]].from_,.i (fl g)[row[i]],.i (-arcs[row[i]].cost),.b true]:=by unfold lJ;rw [hga,hxe]
  have hwc:vX arcs (fl g) v row[i]=if arcs[row[i]].from_=v then [.i row[i],.i arcs[row[i]].to,.i (arcs[row[i]].cap-(fl g)[row[i]]),.i arcs[row[i]].cost,.b false] else [.i row[i],.i arcs[row[i]].from_,.i (fl g)[row[i]],.i (-arcs[row[i]].cost),.b true]:=by unfold vX;rw [hga,hxe]
  have hsk:=hskip i g hi1 hI
  have hy:=hY i g hi1 hI
  rw [hroom] at hsk hy
  rw [hway,hwc,hga] at hy
  simp only [hwrap]
  refine ⟨⟨by omega,by omega⟩,hi1,⟨by omega,hrk⟩,hin.1,⟨by omega,by omega⟩,hfx,by simp only [lo,Fx.hi];omega,?_⟩
  have hnext:∀ (g':G) (tl:List Blk) (e':Env),EI arcs v k a b i e'→Inv (i+1) g'→leS fx ⟨(16,.i ((i:Int)+1))::(71,.i ((i:Int)+1))::(70,.b false)::(69,.b false)::(65,.b true)::(68,.b true)::e',hp g'++tl,0⟩ (nP hp arcs v k a b (i+1,g')):=by
   intro g' tl e' he' hI'
   have la:=H.ha g' []
   have lb:=H.hb g' []
   obtain ⟨tk,ek,lk⟩:=H.lk g'
   rw [yat] at la lb
   have e1:=he'.e0;have e2:=he'.e1;have e3:=he'.e2;have e4:=he'.e14;have e5:=he'.e15
   unfold nP
   simp -implicitDefEqProofs only [rX,↓reduceIte,Nat.reduceEqDiff,reduceCtorEq,leE,aB,wfE,wfV,e1,e2,e3,e4,e5,eq_true (leH_app (hp g') tl),eq_true (H.kp g'),eq_true (H.wf g'),la,lb,lk]
   rfl
  by_cases hv:arcs[row[i]].from_=v
  ·have hb1:(arcs[row[i]].from_ != (v:Int))=false:=by simpa using hv
   simp only [if_pos hv] at hsk hy
   simp only [hb1,wd]
   simp only [br,decide_eq_true_eq,decide_eq_false_iff_not]
   refine ⟨fun hr=>?_,fun hr=>?_⟩
   ·refine ⟨rfl,?_⟩
    refine hy hr _ _ _ ⟨rfl,rfl,rfl,by rw [hrow];rfl,by rw [hrow];rfl,rfl,rfl⟩ ?_ ?_
    ·intro e' g' tl he' hI'
     simp -implicitDefEqProofs only [rX,↓rY,rZ,aA,↓reduceIte,Nat.reduceEqDiff,reduceCtorEq,leE,aB,wfE,wfV,he'.e65,he'.e16]
     refine ⟨by simp only [lo,Fx.hi];omega,(i+1,g'),⟨⟨by show i+1≤row.length;omega,hI'⟩,by show row.length-(i+1)<row.length-i;omega⟩,?_⟩
     have:=hnext g' tl e' he' hI'
     unfold nP at this
     simp -implicitDefEqProofs only [rX,↓reduceIte,Nat.reduceEqDiff,reduceCtorEq,leE,aB,wfE,wfV,hrow] at this ⊢
     exact this
    ·intro e' hh he' hK'
     simp -implicitDefEqProofs only [rX,↓rY,rZ,↓reduceIte,Nat.reduceEqDiff,he'.e65]
     exact hK'
   ·refine ⟨by simp only [lo,Fx.hi];omega,(i+1,g),⟨⟨by show i+1≤row.length;omega,hsk (by omega)⟩,by show row.length-(i+1)<row.length-i;omega⟩,?_⟩
    obtain ⟨tk,ek,lk⟩:=H.lk g
    simp only [a0,b0,lk]
    exact ⟨rfl,leH_app _ _,H.kp g,⟨trivial,trivial,trivial⟩,H.wf g⟩
  ·have hb1:(arcs[row[i]].from_ != (v:Int))=true:=by simpa using hv
   simp only [if_neg hv] at hsk hy
   simp only [hb1,wc]
   simp only [br,decide_eq_true_eq,decide_eq_false_iff_not]
   refine ⟨⟨by omega,hrk⟩,hfx,fun hr=>?_,fun hr=>?_⟩
   ·refine ⟨rfl,?_⟩
    refine hy hr _ _ _ ⟨rfl,rfl,rfl,by rw [hrow];rfl,by rw [hrow];rfl,rfl,rfl⟩ ?_ ?_
    ·intro e' g' tl he' hI'
     simp -implicitDefEqProofs only [rX,↓rY,rZ,aA,↓reduceIte,Nat.reduceEqDiff,reduceCtorEq,leE,aB,wfE,wfV,he'.e65,he'.e16]
     refine ⟨by simp only [lo,Fx.hi];omega,(i+1,g'),⟨⟨by show i+1≤row.length;omega,hI'⟩,by show row.length-(i+1)<row.length-i;omega⟩,?_⟩
     have:=hnext g' tl e' he' hI'
     unfold nP at this
     simp -implicitDefEqProofs only [rX,↓reduceIte,Nat.reduceEqDiff,reduceCtorEq,leE,aB,wfE,wfV,hrow] at this ⊢
     exact this
    ·intro e' hh he' hK'
     simp -implicitDefEqProofs only [rX,↓rY,rZ,↓reduceIte,Nat.reduceEqDiff,he'.e65]
     exact hK'
   ·refine ⟨by simp only [lo,Fx.hi];omega,(i+1,g),⟨⟨by show i+1≤row.length;omega,hsk (by omega)⟩,by show row.length-(i+1)<row.length-i;omega⟩,?_⟩
    obtain ⟨tk,ek,lk⟩:=H.lk g
    simp only [a0,b0,lk]
    exact ⟨rfl,leH_app _ _,H.kp g,⟨trivial,trivial,trivial⟩,H.wf g⟩
 ·have hd:decide ((i:Int)<(row.length:Int))=false:=decide_eq_false (by omega)
  have hie:i=row.length:=by omega
  subst hie
  have:=hk0 (by rw [←hrow] at *;exact hI)
  simp -implicitDefEqProofs only [rX,↓rY,↓reduceIte,Nat.reduceEqDiff,hd,hrow]
  first|exact this|simpa using this
theorem Yp (H:ItH hp fl L N v arcs k a b w fb ob pb fx)
  (hskip:∀ i g (hi:i<(outs arcs v arcs.length).length),Inv i g→cQ arcs (fl g) v (outs arcs v arcs.length)[i]≤0→Inv (i+1) g)
  (hY:∀ i g (hi:i<(outs arcs v arcs.length).length),Inv i g→0<cQ arcs (fl g) v (outs arcs v arcs.length)[i]→∀ (e:Env) (bb:Nat) (Z:V→St→Prop),EI arcs v k a b i e →
   (∀ e' g' tl,EI arcs v k a b i e'→Inv (i+1) g'→Z (.b true) ⟨e',hp g'++tl,bb⟩)→(∀ e' hh,EI arcs v k a b i e'→K hh→Z (.b false) ⟨e',hh,bb⟩)→Y [lJ arcs (fl g) v (outs arcs v arcs.length)[i]] ⟨e,hp g++[.var (gA arcs (outs arcs v arcs.length)[i]).enc,.var (vX arcs (fl g) v (outs arcs v arcs.length)[i])],bb⟩ Z)
  (hK:∀ g,Inv (outs arcs v arcs.length).length g→K (hp g)) (g:G) (hg:Inv 0 g) :
  I0 Tryz.prog 146 [.itr k,.ptr a 0 0,.ptr b 0 0] fx k Y (hp g) K:=by
 refine Sj pol fx lw146 (by simp) ?_
 have hL:=H.hV.hl
 have hlen:=H.len g
 have a0:=H.ha g []
 have b0:=H.hb g []
 have w0:=H.hw g []
 have o0:=H.ho g []
 rw [yat] at a0 b0 w0 o0
 obtain ⟨tk,ek,lk⟩:=H.lk g
 have hv:=H.hv
 have hg2:v<(iN arcs N).length:=by rw [Gy];exact hv
 have hlrow:(outs arcs v arcs.length).length≤2048:=Nat.le_trans yZ hL
 unfold c146
 simp -implicitDefEqProofs only [rX,↓rY,aA,↓reduceIte,Nat.reduceEqDiff,cR,Nat.reduceAdd,reduceCtorEq,yaa,aK,a0,b0,w0,o0,wB,Gy,Rk]
 refine ⟨by omega,hv,fun _=>?_⟩
 refine aT (nP hp arcs v k a b) (fun g=>g.1≤(outs arcs v arcs.length).length∧Inv g.1 g.2) (fun g=>(outs arcs v arcs.length).length-g.1) (0,g) ⟨yaw _,hg⟩ ?_ (Wd H hskip hY hK)
 unfold nP
 simp -implicitDefEqProofs only [rX,↓reduceIte,Nat.reduceEqDiff,reduceCtorEq,leE,aB,wfE,wfV,a0,b0,lk,yae,eq_true (H.kp g),eq_true (H.wf g),eq_true (bA (hp g)),encR]
end
end Go.Fx.P.K
namespace Go.Fx.Lb
theorem Gz:∀ (N:Nat) (l:List Nat),l.Nodup→(∀ x∈l,x<N)→l.length≤N
 | 0,l,_,h=>by
  cases l with
  | nil=>simp
  | cons x r=>exact absurd (h x (by simp)) (by omega)
 | N+1,l,hn,h=>by
  have h1:(l.erase N).Nodup:=hn.erase N
  have h2:∀ x∈l.erase N,x<N:=by
   intro x hx
   have h3:=h x (List.mem_of_mem_erase hx)
   have h4:x≠N:=fun e=>by subst e;exact (hn.mem_erase_iff.1 hx).1 rfl
   omega
  have h5:=Gz N _ h1 h2
  have h6:l.length≤(l.erase N).length+1:=by
   rw [List.length_erase];split<;>omega
  omega
def upd {α:Type} (f:Nat→α) (v:Nat) (x:α):Nat→α:=fun u=>if u=v then x else f u
theorem Iy {α:Type} (f:Nat→α) (v:Nat) (x:α):upd f v x v=x:=by simp [upd]
theorem upd_ne {α:Type} (f:Nat→α) {v u:Nat} (x:α) (h:u≠v):upd f v x u=f u:=by simp [upd,h]
structure Gr where
 N:Nat
 s:Nat
 src:Nat→Nat
 dst:Nat→Nat
 c:Nat→Int
 res:Nat→Prop
 π:Nat→Int
 hs:s<N
 hN:∀ i,res i→src i<N∧dst i<N
 hπ:∀ i,res i→0≤c i+π (src i)-π (dst i)
section
variable (G:Gr)
def PR:Nat→List Nat→Prop
 | v,[]=>v=G.s
 | v,i::r=>G.res i∧G.dst i=v∧PR (G.src i) r
def cs:List Nat→Int
 | []=>0
 | i::r=>G.c i+cs r
def vs:Nat→List Nat→List Nat
 | v,[]=>[v]
 | v,i::r=>v::vs (G.src i) r
def Dom (D:Nat→Int):Nat→List Nat→Prop
 | v,[]=>D v≤0
 | v,i::r=>D v≤cs G (i::r)∧Dom D (G.src i) r
variable {G}
theorem Pw:∀ (v:Nat) (r:List Nat),(vs G v r).length=r.length+1
 | _,[]=>rfl
 | v,i::r=>by simp [vs,Pw (G.src i) r]
theorem Xs:∀ (v:Nat) (r:List Nat),PR G v r→∀ u∈vs G v r,u<G.N
 | v,[],h,u,hu=>by
  simp only [vs,yar] at hu
  subst hu
  rw [show u=G.s from h];exact G.hs
 | v,i::r,h,u,hu=>by
  rcases List.mem_cons.1 hu with rfl|hu
  ·rw [←h.2.1];exact (G.hN i h.1).2
  ·exact Xs _ r h.2.2 u hu
theorem Dom.head {D:Nat→Int} {v:Nat} {r:List Nat} (h:Dom G D v r):D v≤cs G r:=by
 cases r with
 | nil=>exact h
 | cons i r=>exact h.1
theorem Dom.le {D D':Nat→Int} (hle:∀ u,D' u≤D u):∀ {v:Nat} {r:List Nat},Dom G D v r→Dom G D' v r
 | v,[],h=>yaF (hle v) h
 | v,i::r,h=>⟨yaF (hle v) h.1,Dom.le hle h.2⟩
theorem Tp {D:Nat→Int} {v:Nat}:∀ {u:Nat} {r:List Nat},PR G u r→Dom G D u r→v∈vs G u r→D v+(G.π u-G.π v)≤cs G r
 | u,[],_,hd,hv=>by
  simp only [vs,yar] at hv
  subst hv
  have:D v≤0:=hd
  simp only [cs];omega
 | u,i::r,hp,hd,hv=>by
  rcases List.mem_cons.1 hv with rfl|hv
  ·have:=hd.1;omega
  ·have ih:=Tp hp.2.2 hd.2 hv
   have:=G.hπ i hp.1
   have hdst:=hp.2.1
   rw [hdst] at this
   simp only [cs];omega
theorem Me:∀ {u:Nat} {r:List Nat},PR G u r→0≤cs G r+G.π G.s-G.π u
 | u,[],h=>by rw [show u=G.s from h];simp only [cs];omega
 | u,i::r,h=>by
  have ih:=Me h.2.2
  have:=G.hπ i h.1
  rw [h.2.1] at this
  simp only [cs];omega
structure Wp (G:Gr) (D:Nat→Int) (v:Nat) (r:List Nat):Prop where
 pr:PR G v r
 co:cs G r=D v
 nd:(vs G v r).Nodup
 dm:Dom G D v r
theorem Wp.len {D:Nat→Int} {v:Nat} {r:List Nat} (h:Wp G D v r):r.length<G.N:=by
 have:=Gz G.N _ h.nd (Xs v r h.pr)
 rw [Pw] at this
 omega
theorem If {B C:Int} (hB:∀ i,G.res i→B≤G.c i∧G.c i≤C):∀ {v:Nat} {r:List Nat},PR G v r→(r.length:Int)*B≤cs G r∧cs G r≤(r.length:Int)*C
 | v,[],_=>by simp [cs]
 | v,i::r,h=>by
  have ih:=If hB h.2.2
  have:=hB i h.1
  simp only [cs,List.length_cons]
  have e1:((r.length+1:Nat):Int)*B=(r.length:Int)*B+B:=by rw [yaG,yaH];simp
  have e2:((r.length+1:Nat):Int)*C=(r.length:Int)*C+C:=by rw [yaG,yaH];simp
  rw [e1,e2]
  omega
structure Lab (G:Gr) (F:Int) (D:Nat→Int):Prop where
 h0:D G.s=0
 hw:∀ v,v<G.N→D v=F∨(D v<F∧∃ r,Wp G D v r)
theorem Lab.start {F:Int} (hF:0<F):Lab G F (fun v=>if v=G.s then 0 else F):=by
 refine ⟨by simp,fun v _=>?_⟩
 by_cases h:v=G.s
 ·right
  simp only [h,if_true]
  exact ⟨hF,[],rfl,by simp [cs],by simp [vs],by simp [Dom]⟩
 ·left;simp [h]
theorem Lab.relax {F:Int} {D:Nat→Int} (h:Lab G F D) {i:Nat} (hr:G.res i) (hu:D (G.src i)<F) (hlt:D (G.src i)+G.c i<D (G.dst i)):Lab G F (upd D (G.dst i) (D (G.src i)+G.c i))∧G.dst i≠G.s:=by
 obtain ⟨hsN,hdN⟩:=G.hN i hr
 obtain ⟨ru,hWu⟩:∃ r,Wp G D (G.src i) r:=by
  rcases h.hw _ hsN with he|⟨_,h⟩
  ·omega
  ·exact h
 have hπi:=G.hπ i hr
 have hle:∀ u,upd D (G.dst i) (D (G.src i)+G.c i) u≤D u:=by
  intro u
  unfold upd
  split
  ·rename_i e;rw [e];omega
  ·exact yaf _
 have hds:G.dst i≠G.s:=by
  intro e
  have h1:=Me hWu.pr
  rw [hWu.co] at h1
  rw [e] at hπi hlt
  rw [h.h0] at hlt
  omega
 have hnot:G.dst i∉vs G (G.src i) ru:=by
  intro hm
  have:=Tp hWu.pr hWu.dm hm
  rw [hWu.co] at this
  omega
 have hdF:D (G.dst i)≤F:=by
  rcases h.hw _ hdN with he|⟨h1,_⟩<;>omega
 refine ⟨⟨by rw [upd_ne _ _ (Ne.symm hds)];exact h.h0,fun v hv=>?_⟩,hds⟩
 by_cases e:v=G.dst i
 ·subst e
  right
  rw [Iy]
  refine ⟨by omega,i::ru,⟨hr,rfl,hWu.pr⟩,?_,?_,?_⟩
  ·simp only [cs,Iy,hWu.co];omega
  ·exact List.nodup_cons.2 ⟨hnot,hWu.nd⟩
  ·refine ⟨?_,hWu.dm.le hle⟩
   rw [Iy];simp only [cs,hWu.co];omega
 ·rw [upd_ne _ _ e]
  rcases h.hw v hv with he|⟨h1,r,hW⟩
  ·exact .inl he
  ·exact .inr ⟨h1,r,hW.pr,by rw [upd_ne _ _ e];exact hW.co,hW.nd,hW.dm.le hle⟩
def Cl (G:Gr) (F:Int) (D:Nat→Int):Prop:=∀ i,G.res i→D (G.src i)<F→D (G.dst i)≤D (G.src i)+G.c i
theorem Nf {F:Int} {D:Nat→Int} (h0:D G.s=0) (hF:0<F) (hc:Cl G F D) (hfin:∀ i,G.res i→D (G.src i)<F→D (G.dst i)<F):∀ {v:Nat} {r:List Nat},PR G v r→D v≤cs G r∧D v<F
 | v,[],h=>by rw [show v=G.s from h,h0];simp only [cs];omega
 | v,i::r,h=>by
  have ih:=Nf h0 hF hc hfin h.2.2
  have h1:=hc i h.1 ih.2
  have h2:=hfin i h.1 ih.2
  rw [h.2.1] at h1 h2
  simp only [cs];omega
def Tight (G:Gr) (D:Nat→Int):Nat→List Nat→Prop
 | _,[]=>True
 | _,i::r=>D (G.dst i)=D (G.src i)+G.c i∧Tight G D (G.src i) r
theorem Gb {F:Int} {D:Nat→Int} (h0:D G.s=0) (hF:0<F) (hc:Cl G F D) (hfin:∀ i,G.res i→D (G.src i)<F→D (G.dst i)<F):∀ {v:Nat} {r:List Nat},PR G v r→cs G r=D v→Tight G D v r
 | v,[],_,_=>trivial
 | v,i::r,h,he=>by
  have h1:=Nf h0 hF hc hfin h.2.2
  have h2:=hc i h.1 h1.2
  have h3:cs G (i::r)=G.c i+cs G r:=rfl
  have hd:=h.2.1
  rw [h3] at he
  rw [hd] at h2
  refine ⟨by rw [hd];omega,Gb h0 hF hc hfin h.2.2 (by omega)⟩
end
end Go.Fx.Lb
namespace Go.Fx.P.K
open Go Go.Fx Go.Fx.E Go.Proofs
def agO (arcs:List Arc) (x:List Int) (p:Nat→Int):Prop :=
 ∀ k,k<arcs.length→((gA arcs k).cost+p (gA arcs k).from_.toNat-p (gA arcs k).to.toNat<0→(gA arcs k).cap≤x.getD k 0)∧(0<(gA arcs k).cost+p (gA arcs k).from_.toNat-p (gA arcs k).to.toNat→x.getD k 0≤0)
theorem OkF.at {n:Int} {arcs:List Arc} {f t:Int} {x:List Int} (h:OkF n arcs f t x) {k:Nat} (hk:k<arcs.length):0≤x.getD k 0∧x.getD k 0≤(gA arcs k).cap:=by
 have hl:=h.hl
 have:=h.hp k (by omega) hk
 rw [o5 hk,bV (by omega)]
 exact this
theorem Cf {g:Nat→Int}:∀ n,(∀ v,v<n→0≤g v)→0≤sm g n
 | 0,_=>yaf _
 | n+1,hh=>by
  have:=Cf n fun v hv=>hh v (by omega)
  have:=hh n (by omega)
  simp only [sm];omega
theorem OkC.cut {N:Nat} {arcs:List Arc} (hV:Val N arcs) {f t:Int} (hf:0≤f∧f<N) (ht:0≤t∧t<N) {x cut:List Int} (h:OkC N arcs f t x cut):∀ k,k<arcs.length→(hasB cut ((gA arcs k).from_.toNat:Int)=true→hasB cut ((gA arcs k).to.toNat:Int)=false→x.getD k 0=(gA arcs k).cap)∧(hasB cut ((gA arcs k).to.toNat:Int)=true→hasB cut ((gA arcs k).from_.toNat:Int)=false→x.getD k 0=0):=by
 intro k hk
 have hv:=hV.at hk
 have:=h.ha.h k hk hk
 rw [yan hv.1.1,yan hv.2.1.1,o5 hk]
 exact this
end Go.Fx.P.K
namespace Go.Fx.P.K
open Go Go.Fx Go.Fx.E Go.Proofs
def wsrc (arcs:List Arc) (i:Nat):Nat:=if i%2=0 then (gA arcs (i/2)).from_.toNat else (gA arcs (i/2)).to.toNat
def wdst (arcs:List Arc) (i:Nat):Nat:=if i%2=0 then (gA arcs (i/2)).to.toNat else (gA arcs (i/2)).from_.toNat
def e9 (arcs:List Arc) (i:Nat):Int:=if i%2=0 then (gA arcs (i/2)).cost else -(gA arcs (i/2)).cost
def wrm (arcs:List Arc) (x:List Int) (i:Nat):Int:=if i%2=0 then (gA arcs (i/2)).cap-x.getD (i/2) 0 else x.getD (i/2) 0
def sF (arcs:List Arc) (x:List Int) (i:Nat):Prop:=i/2<arcs.length∧0<wrm arcs x i
def dH (arcs:List Arc) (p:Nat→Int) (i:Nat):Int:=e9 arcs i+p (wsrc arcs i)-p (wdst arcs i)
def NN (arcs:List Arc) (x:List Int) (p:Nat→Int):Prop:=∀ i,sF arcs x i→0≤dH arcs p i
theorem xR {N:Nat} {arcs:List Arc} (hV:Val N arcs) {i:Nat} (h:i/2<arcs.length):wsrc arcs i<N∧wdst arcs i<N∧wsrc arcs i≠wdst arcs i:=by
 have:=hV.at h
 unfold wsrc wdst
 split<;>omega
theorem tV {N:Nat} {arcs:List Arc} (hV:Val N arcs) {i:Nat} (h:i/2<arcs.length):-1048576≤e9 arcs i∧e9 arcs i≤1048576:=by
 have:=hV.at h
 unfold e9
 split<;>omega
theorem Ru {arcs:List Arc} {x:List Int} {p:Nat→Int}:NN arcs x p↔agO arcs x p:=by
 constructor
 ·intro h k hk
  refine ⟨fun h1=>?_,fun h1=>?_⟩
  ·apply Classical.byContradiction
   intro h2
   have:=h (2*k) ⟨by omega,by
    unfold wrm
    rw [if_pos (by omega),show 2*k/2=k by omega];omega⟩
   unfold dH e9 wsrc wdst at this
   rw [if_pos (by omega),if_pos (by omega),if_pos (by omega),show 2*k/2=k by omega] at this
   omega
  ·apply Classical.byContradiction
   intro h2
   have:=h (2*k+1) ⟨by omega,by
    unfold wrm
    rw [if_neg (by omega),show (2*k+1)/2=k by omega];omega⟩
   unfold dH e9 wsrc wdst at this
   rw [if_neg (by omega),if_neg (by omega),if_neg (by omega),show (2*k+1)/2=k by omega] at this
   omega
 ·intro h i ⟨hi,hr⟩
  have:=h _ hi
  unfold wrm at hr
  unfold dH e9 wsrc wdst
  split at hr
  ·rename_i h0
   rw [if_pos h0,if_pos h0,if_pos h0]
   have:=this.1
   apply Classical.byContradiction
   intro h3
   have:=this (by omega)
   omega
  ·rename_i h0
   rw [if_neg h0,if_neg h0,if_neg h0]
   have:=this.2
   apply Classical.byContradiction
   intro h3
   have:=this (by omega)
   omega
def wix (arcs:List Arc) (v k:Nat):Nat:=if (gA arcs k).from_=v then 2*k else 2*k+1
theorem fK {arcs:List Arc} {v k:Nat}:wix arcs v k/2=k:=by unfold wix;split<;>omega
theorem Do {N:Nat} {arcs:List Arc} (hV:Val N arcs) {v k:Nat} (hk:k<arcs.length) (h:(gA arcs k).from_=v∨(gA arcs k).to=v):wsrc arcs (wix arcs v k)=v:=by
 have:=hV.at hk
 unfold wsrc
 rw [fK]
 unfold wix
 split
 ·rw [if_pos (by omega)];omega
 ·rw [if_neg (by omega)];omega
theorem xQ {arcs:List Arc} {x:List Int} {v k:Nat}:wrm arcs x (wix arcs v k)=cQ arcs x v k:=by
 unfold wrm cQ
 rw [fK]
 unfold wix
 split
 ·rw [if_pos (by omega)]
 ·rw [if_neg (by omega)]
theorem Li {N:Nat} {arcs:List Arc} (hV:Val N arcs) {i v:Nat} (hi:i/2<arcs.length) (hs:wsrc arcs i=v):i/2∈outs arcs v arcs.length∧wix arcs v (i/2)=i:=by
 have:=hV.at hi
 unfold wsrc at hs
 constructor
 ·unfold outs
  rw [List.mem_filter,yav,decide_eq_true_eq]
  refine ⟨hi,?_⟩
  split at hs
  ·left;omega
  ·right;omega
 ·unfold wix
  split at hs
  ·rw [if_pos (by omega)];omega
  ·rw [if_neg (by omega)];omega
def grD (N:Nat) (arcs:List Arc) (x:List Int) (p:Nat→Int) (s:Nat) (hV:Val N arcs) (hs:s<N) (hn:NN arcs x p):Lb.Gr :=
 ⟨N,s,wsrc arcs,wdst arcs,dH arcs p,sF arcs x,fun _=>0,hs,fun i h=>⟨(xR hV h.1).1,(xR hV h.1).2.1⟩,fun i h=>by have:=hn i h;show 0≤dH arcs p i+0-0;omega⟩
def far:Int:=4611686018427387904
def KB:Int:=67711795200
def cn (d:Int):Int:=if d<far then KB+1-d else 0
structure DI (N:Nat) (G:Lb.Gr) (n:Nat) (ks vs D:List Int):Prop where
 lab:Lb.Lab G far (fun u=>D.getD u 0)
 len:D.length=N
 ent:∀ a b,l6 n ks vs a b→(0≤b∧b<N)∧(0≤a∧a≤KB)∧D.getD b.toNat 0≤a
 cnt:(n:Int)≤sm (fun u=>cn (D.getD u 0)) N
 h1:n≤ks.length
 h2:n≤vs.length
def clN (G:Lb.Gr) (D:List Int) (u:Nat):Prop:=∀ i,G.res i→G.src i=u→D.getD (G.dst i) 0≤D.getD u 0+G.c i
def u9 (N:Nat) (G:Lb.Gr) (n:Nat) (ks vs D:List Int) (Q:Nat→Prop):Prop:=∀ u,u<N→Q u→D.getD u 0<far→l6 n ks vs (D.getD u 0) u∨clN G D u
section
variable {N:Nat} {arcs:List Arc} {x:List Int} {p:Nat→Int} {s:Nat} {hV:Val N arcs} {hs:s<N} {hn:NN arcs x p}
theorem Ag (hN:N≤64) (hp:∀ j,0≤p j∧p j≤1073741824) {D:Nat→Int} (h:Lb.Lab (grD N arcs x p s hV hs hn) far D) {u:Nat} (hu:u<N):0≤D u∧(D u=far∨D u≤KB):=by
 rcases h.hw u hu with he|⟨_,r,hW⟩
 ·rw [he];exact ⟨by decide,.inl rfl⟩
 ·have h1:=Lb.If (G:=grD N arcs x p s hV hs hn) (B:=0) (C:=1074790400) (fun i hr=>by
   refine ⟨hn i hr,?_⟩
   have:=tV hV hr.1
   have h2:=hp (wsrc arcs i)
   have h3:=hp (wdst arcs i)
   show e9 arcs i+p (wsrc arcs i)-p (wdst arcs i)≤_
   omega) hW.pr
  have hl:r.length<N:=hW.len
  rw [hW.co] at h1
  have:(r.length:Int)*1074790400≤63*1074790400:=yaI (by omega) (by omega)
  exact ⟨by omega,.inr (by unfold KB;omega)⟩
theorem n_b (hN:N≤64) {D:List Int} (hD:∀ u,u<N→0≤D.getD u 0) {n:Nat} (h:(n:Int)≤sm (fun u=>cn (D.getD u 0)) N):n≤8796093022207:=by
 have h1:sm (fun u=>cn (D.getD u 0)) N≤sm (fun _=>KB+1) N:=Qj N fun u hu=>by
  have:=hD u hu
  unfold cn
  split
  ·omega
  ·unfold KB;omega
 have h2:∀ m:Nat,sm (fun _=>KB+1) m=(m:Int)*(KB+1):=by
  intro m
  induction m with
  | zero=>simp [sm]
  | succ m ih =>
   simp only [sm,ih]
   rw [yaG,yaH];simp
 rw [h2] at h1
 have:(N:Int)*(KB+1)≤64*(KB+1):=yaI (by omega) (by decide)
 have e:(64:Int)*(KB+1)=4333554892864:=by decide
 omega
theorem Dz {g h:Nat→Int} {v:Nat}:∀ n,v<n→(∀ u,u<n→u≠v→g u=h u)→sm g n=sm h n+(g v-h v)
 | 0,hv,_=>by omega
 | n+1,hv,hh=>by
  simp only [sm]
  by_cases e:v=n
  ·subst e
   rw [Gd v fun u hu=>hh u (by omega) (by omega)];omega
  ·rw [Dz n (by omega) fun u hu hne=>hh u (by omega) hne,hh n (by omega) (Ne.symm e)];omega
end
end Go.Fx.P.K
namespace Go.Fx.P.K
open Go Go.Fx Go.Fx.E Go.Proofs
theorem gD {l:List Int} {i j:Nat} {x:Int} (h:i<l.length):(l.set i x).getD j 0=if j=i then x else l.getD j 0:=uP h
def meas (N n:Nat) (D:List Int):Nat:=2*(sm (fun u=>D.getD u 0) N).toNat+n
section
variable {N:Nat} {arcs:List Arc} {x:List Int} {p:Nat→Int} {s:Nat} {hV:Val N arcs} {hs:s<N} {hn:NN arcs x p}
theorem DI.nn {n:Nat} {ks vs D:List Int} (hN:N≤64) (hp:∀ j,0≤p j∧p j≤1073741824) (h:DI N (grD N arcs x p s hV hs hn) n ks vs D) {u:Nat} (hu:u<N):0≤D.getD u 0∧(D.getD u 0=far∨D.getD u 0≤KB):=Ag hN hp h.lab hu
theorem DI.n_le {n:Nat} {ks vs D:List Int} (hN:N≤64) (hp:∀ j,0≤p j∧p j≤1073741824) (h:DI N (grD N arcs x p s hV hs hn) n ks vs D):n≤8796093022207:=n_b hN (fun u hu=>(h.nn hN hp hu).1) h.cnt
theorem DI.push {n:Nat} {ks vs D ks' vs':List Int} (hN:N≤64) (hp:∀ j,0≤p j∧p j≤1073741824) (h:DI N (grD N arcs x p s hV hs hn) n ks vs D) {i:Nat} (hr:sF arcs x i) (hu:D.getD (wsrc arcs i) 0<far) (hlt:D.getD (wsrc arcs i) 0+dH arcs p i<D.getD (wdst arcs i) 0)
  (hq:oI n ks vs (D.getD (wsrc arcs i) 0+dH arcs p i) (wdst arcs i:Nat) (ks',vs')) :
  DI N (grD N arcs x p s hV hs hn) (n+1) ks' vs' (D.set (wdst arcs i) (D.getD (wsrc arcs i) 0+dH arcs p i))∧meas N (n+1) (D.set (wdst arcs i) (D.getD (wsrc arcs i) 0+dH arcs p i))<meas N n D:=by
 obtain ⟨w1,w2,w3⟩:=xR hV hr.1
 obtain ⟨hl,hds⟩:=h.lab.relax (i:=i) hr hu hlt
 have hdl:wdst arcs i<D.length:=by rw [h.len];exact w2
 have efn:(fun u=>(D.set (wdst arcs i) (D.getD (wsrc arcs i) 0+dH arcs p i)).getD u 0)=Lb.upd (fun u=>D.getD u 0) (wdst arcs i) (D.getD (wsrc arcs i) 0+dH arcs p i):=by
  funext u
  rw [gD hdl];rfl
 have hl':Lb.Lab (grD N arcs x p s hV hs hn) far (fun u=>(D.set (wdst arcs i) (D.getD (wsrc arcs i) 0+dH arcs p i)).getD u 0):=by rw [efn];exact hl
 have hnew:0≤D.getD (wsrc arcs i) 0+dH arcs p i:=by
  have:=(h.nn hN hp w1).1
  have:=hn i hr
  omega
 have hold:=h.nn hN hp w2
 have hlow:D.getD (wsrc arcs i) 0+dH arcs p i<far:=by
  rcases hold.2 with e|e
  ·omega
  ·have:KB<far:=by decide
   omega
 have hkb:D.getD (wsrc arcs i) 0+dH arcs p i≤KB:=by
  have:=Ag hN hp hl' w2
  rw [gD hdl,if_pos rfl] at this
  rcases this.2 with e|e
  ·omega
  ·exact e
 generalize hnv:D.getD (wsrc arcs i) 0+dH arcs p i=nv at *
 have hge:∀ u,(D.set (wdst arcs i) nv).getD u 0=if u=wdst arcs i then nv else D.getD u 0:=fun u=>gD hdl
 refine ⟨⟨hl',by rw [yax];exact h.len,fun a b hab=>?_,?_,by have:=hq.h1;simp only at this;omega,by have:=hq.h2;simp only at this;omega⟩,?_⟩
 ·rw [hge]
  rcases (hq.he a b).1 hab with h1|⟨rfl,rfl⟩
  ·obtain ⟨q1,q2,q3⟩:=h.ent a b h1
   refine ⟨q1,q2,?_⟩
   split
   ·rename_i e;rw [e] at q3;omega
   ·exact q3
  ·refine ⟨⟨by omega,by omega⟩,⟨hnew,hkb⟩,?_⟩
   rw [if_pos (by omega)];exact yaf _
 ·have hc:=h.cnt
  rw [Dz (v:=wdst arcs i) (h:=fun u=>cn (D.getD u 0)) N w2 (fun u _ hne=>by simp only [hge,if_neg hne])]
  simp only [hge,if_true]
  have:cn (D.getD (wdst arcs i) 0)+1≤cn nv:=by
   unfold cn
   rw [if_pos hlow]
   split
   ·omega
   ·omega
  omega
 ·unfold meas
  rw [Dz (v:=wdst arcs i) (h:=fun u=>D.getD u 0) N w2 (fun u _ hne=>by simp only [hge,if_neg hne])]
  simp only [hge,if_true]
  have h1:0≤sm (fun u=>(D.set (wdst arcs i) nv).getD u 0) N:=Cf N fun u hu=>(Ag hN hp hl' hu).1
  rw [Dz (v:=wdst arcs i) (h:=fun u=>D.getD u 0) N w2 (fun u _ hne=>by simp only [hge,if_neg hne])] at h1
  simp only [hge,if_true] at h1
  omega
theorem u9.push {n:Nat} {ks vs D ks' vs':List Int} {Q:Nat→Prop} {G:Lb.Gr} (h:u9 N G n ks vs D Q) {t:Nat} {nv:Int} (ht:t<D.length) (hlt:nv<D.getD t 0) (hq:oI n ks vs nv (t:Nat) (ks',vs')):u9 N G (n+1) ks' vs' (D.set t nv) Q:=by
 intro u hu hQ hf
 have hge:∀ u,(D.set t nv).getD u 0=if u=t then nv else D.getD u 0:=fun u=>gD ht
 rw [hge] at hf ⊢
 by_cases e:u=t
 ·subst e
  rw [if_pos rfl]
  exact .inl ((hq.he _ _).2 (.inr ⟨rfl,rfl⟩))
 ·rw [if_neg e] at hf ⊢
  rcases h u hu hQ hf with h1|h1
  ·exact .inl ((hq.he _ _).2 (.inl h1))
  ·right
   intro i hi hsrc
   have:=h1 i hi hsrc
   rw [hge,hge,if_neg e]
   split
   ·rename_i e2;rw [e2] at this;omega
   ·exact this
theorem DI.pop {n:Nat} {ks vs D:List Int} {G:Lb.Gr} (h:DI N G n ks vs D) (hn0:0<n) {g:(Int × Int) × List Int × List Int} (hq:Xk n ks vs g):DI N G (n-1) g.2.1 g.2.2 D∧meas N (n-1) D<meas N n D :=
 ⟨⟨h.lab,h.len,fun a b hab=>h.ent a b ((hq.he a b).2 (.inl hab)),by have:=h.cnt;omega,hq.h1,hq.h2⟩,by unfold meas;omega⟩
theorem u9.pop {n:Nat} {ks vs D:List Int} {G:Lb.Gr} (h:u9 N G n ks vs D fun _=>True) {g:(Int × Int) × List Int × List Int} (hq:Xk n ks vs g):u9 N G (n-1) g.2.1 g.2.2 D fun u=>¬(g.1.1=D.getD u 0∧g.1.2=u):=by
 intro u hu hQ hf
 rcases h u hu trivial hf with h1|h1
 ·rcases (hq.he _ _).1 h1 with h2|⟨h2,h3⟩
  ·exact .inl h2
  ·exact absurd ⟨h2.symm,h3.symm⟩ hQ
 ·exact .inr h1
theorem u9.done {n:Nat} {ks vs D:List Int} {G:Lb.Gr} {v:Nat} (h:u9 N G n ks vs D fun u=>u≠v) (hc:clN G D v):u9 N G n ks vs D fun _=>True:=by
 intro u hu _ hf
 by_cases e:u=v
 ·subst e;exact .inr hc
 ·exact h u hu e hf
structure Bn (N:Nat) (G:Lb.Gr) (D:List Int):Prop where
 lab:Lb.Lab G far (fun u=>D.getD u 0)
 len:D.length=N
 cl:Lb.Cl G far (fun u=>D.getD u 0)
theorem DI.fin {ks vs D:List Int} (h:DI N (grD N arcs x p s hV hs hn) 0 ks vs D) (hP:u9 N (grD N arcs x p s hV hs hn) 0 ks vs D fun _=>True):Bn N (grD N arcs x p s hV hs hn) D:=by
 refine ⟨h.lab,h.len,fun i hr hf=>?_⟩
 rcases hP (wsrc arcs i) (xR hV hr.1).1 trivial hf with ⟨j,hj,_⟩|h1
 ·omega
 ·exact h1 i hr rfl
theorem DI.start {ks vs:List Int} (hq:oI 0 [] [] 0 (s:Nat) (ks,vs)):DI N (grD N arcs x p s hV hs hn) 1 ks vs ((yab N far).set s 0)∧u9 N (grD N arcs x p s hV hs hn) 1 ks vs ((yab N far).set s 0) fun _=>True:=by
 have hsl:s<(yab N far).length:=by simpa using hs
 have hge:∀ u,u<N→((yab N far).set s 0).getD u 0=if u=s then 0 else far:=by
  intro u hu
  rw [gD hsl]
  split
  ·rfl
  ·rw [yad,yaE,if_pos hu];rfl
 have hlab:=Lb.Lab.start (G:=grD N arcs x p s hV hs hn) (F:=far) (by decide)
 have hent:∀ a b,l6 1 ks vs a b→a=0∧b=s:=by
  intro a b h
  rcases (hq.he a b).1 h with ⟨j,hj,_⟩|h
  ·omega
  ·exact h
 refine ⟨⟨⟨?_,fun v hv=>?_⟩,by simp,fun a b hab=>?_,?_,by have:=hq.h1;simp only at this;omega,by have:=hq.h2;simp only at this;omega⟩,fun u hu _ hf=>?_⟩
 ·show ((yab N far).set s 0).getD s 0=0
  rw [hge s hs,if_pos rfl]
 ·rw [hge v hv]
  rcases hlab.hw v hv with h1|⟨h1,r,hW⟩
  ·exact .inl h1
  ·right
   by_cases e:v=s
   ·subst e
    rw [if_pos rfl]
    refine ⟨by decide,[],rfl,?_,by simp [Lb.vs],?_⟩
    ·show (0:Int)=_
     simp only [hge v hv,if_true]
    ·show ((yab N far).set v 0).getD v 0≤0
     rw [hge v hv,if_pos rfl];exact yaf _
   ·simp only [show ((grD N arcs x p s hV hs hn).s)=s from rfl,if_neg e] at h1
    exact absurd h1 (yaJ _)
 ·obtain ⟨rfl,rfl⟩:=hent a b hab
  refine ⟨⟨by omega,by omega⟩,⟨yaf _,by decide⟩,?_⟩
  rw [yaa,hge s hs,if_pos rfl];exact yaf _
 ·have h1:sm (fun u=>if u=s then (1:Int) else 0) N≤sm (fun u=>cn (((yab N far).set s 0).getD u 0)) N:=by
   refine Qj N fun u hu=>?_
   rw [hge u hu]
   split
   ·decide
   ·unfold cn;rw [if_neg (by omega)];exact yaf _
  rw [Qi,if_pos hs] at h1
  simpa using h1
 ·rw [hge u hu] at hf
  left
  split at hf
  ·rename_i e
   subst e
   rw [hge u hu,if_pos rfl]
   exact (hq.he _ _).2 (.inr ⟨rfl,rfl⟩)
  ·exact absurd hf (yaJ _)
end
end Go.Fx.P.K
namespace Go.Fx.P.K
open Go Go.Fx Go.Fx.E Go.Proofs
theorem Cz {d:List Bool} {i j:Nat} {b:Bool} (h:i<d.length):(d.set i b).getD j false=if j=i then b else d.getD j false:=by
 rw [yad,yad,List.getElem?_set]
 by_cases e:i=j
 ·subst e;simp [h]
 ·rw [if_neg e,if_neg (Ne.symm e)]
theorem Cd {arcs:List Arc} {x:List Int} {k:Nat} {v:Int} (u:Int) (hk:k<x.length):∀ m,valTo arcs u (x.set k v) m=valTo arcs u x m+(if k<m then (if (gA arcs k).from_=u then v-x.getD k 0 else 0)-(if (gA arcs k).to=u then v-x.getD k 0 else 0) else 0)
 | 0=>by simp [valTo]
 | m+1=>by
  have e1:∀ y:List Int,valTo arcs u y (m+1)=valTo arcs u y m+(if (gA arcs m).from_=u then y.getD m 0 else 0)-(if (gA arcs m).to=u then y.getD m 0 else 0):=fun _=>rfl
  rw [e1,e1,Cd u hk m,gD hk]
  by_cases e:m=k
  ·subst e
   rw [if_pos rfl,if_neg (Nat.lt_irrefl _),if_pos (Nat.lt_succ_self _)]
   split<;>split<;>omega
  ·rw [if_neg e]
   generalize valTo arcs u x m=V
   generalize (if (gA arcs m).from_=u then x.getD m 0 else 0)=F
   generalize (if (gA arcs m).to=u then x.getD m 0 else 0)=G
   generalize (if (gA arcs k).from_=u then v-x.getD k 0 else 0)=A
   generalize (if (gA arcs k).to=u then v-x.getD k 0 else 0)=B
   by_cases e2:k<m
   ·rw [if_pos e2,if_pos (by omega)];omega
   ·rw [if_neg e2,if_neg (by omega)];omega
structure XB (arcs:List Arc) (x:List Int):Prop where
 hl:x.length=arcs.length
 hb:∀ k,k<arcs.length→0≤x.getD k 0∧x.getD k 0≤(gA arcs k).cap
def vd (v:Nat) (n:Int) (w:Nat):Int:=if w=v then n else 0
theorem Dr {v w:Nat} {a b:Int}:vd v (a+b) w=vd v a w+vd v b w:=by unfold vd;split<;>omega
theorem Ve {v w:Nat}:vd v 0 w=0:=by unfold vd;split<;>rfl
structure FI (arcs:List Arc) (x:List Int) (p:Nat→Int) (to:Nat) (d:List Bool) (v:Nat) (n:Int) (x':List Int) (d':List Bool):Prop where
 xb:XB arcs x'
 dl:d'.length=d.length
 val:∀ w:Nat,valTo arcs w x' arcs.length=valTo arcs w x arcs.length+vd v n w-vd to n w
 tig:∀ k,k<arcs.length→x'.getD k 0≠x.getD k 0→dH arcs p (2*k)=0
 mono:∀ u,d.getD u false=true→d'.getD u false=true
 kept:∀ k,k<arcs.length→(d.getD (gA arcs k).from_.toNat false=true∨d.getD (gA arcs k).to.toNat false=true)→x'.getD k 0=x.getD k 0
def CLo (arcs:List Arc) (x:List Int) (p:Nat→Int) (to:Nat) (d:List Bool) (u:Nat):Prop:=u≠to∧∀ i,sF arcs x i→wsrc arcs i=u→dH arcs p i=0→d.getD (wdst arcs i) false=true
theorem CLo.mono {arcs:List Arc} {x:List Int} {p:Nat→Int} {to u:Nat} {d d':List Bool} (h:CLo arcs x p to d u) (hm:∀ u,d.getD u false=true→d'.getD u false=true):CLo arcs x p to d' u :=
 ⟨h.1,fun i h1 h2 h3=>hm _ (h.2 i h1 h2 h3)⟩
structure FQ (arcs:List Arc) (x:List Int) (p:Nat→Int) (to:Nat) (d:List Bool) (v:Nat) (most:Int) (r:Int × List Int × List Bool):Prop where
 fi:FI arcs x p to d v r.1 r.2.1 r.2.2
 n0:0≤r.1∧r.1≤most
 zero:r.1=0→0<most→r.2.1=x∧r.2.2.getD v false=true∧∀ u,r.2.2.getD u false=true→d.getD u false=false→CLo arcs x p to r.2.2 u
structure FN (N:Nat) (arcs:List Arc) (x:List Int) (p:Nat→Int) (to:Nat) (d:List Bool) (v:Nat) (most:Int) (i:Nat) (g:Int × List Int × List Bool):Prop where
 fi:FI arcs x p to d v g.1 g.2.1 g.2.2
 n0:0≤g.1∧g.1≤most
 nd:g.2.2.getD v false=true
 zero:g.1=0→g.2.1=x∧(∀ u,g.2.2.getD u false=true→d.getD u false=false→u≠v→CLo arcs x p to g.2.2 u) ∧
  ∀ j (hj:j<(outs arcs v arcs.length).length),j<i→0<cQ arcs x v (outs arcs v arcs.length)[j]→dH arcs p (wix arcs v (outs arcs v arcs.length)[j])=0→g.2.2.getD (wdst arcs (wix arcs v (outs arcs v arcs.length)[j])) false=true
section
variable {N:Nat} {arcs:List Arc} {x:List Int} {p:Nat→Int} {to:Nat} {d:List Bool} {v:Nat} {most:Int}
theorem FQ.base (hx:XB arcs x) (hm:0≤most) (h:v=to∨most=0):FQ arcs x p to d v most (most,x,d):=by
 refine ⟨⟨hx,rfl,fun w=>?_,fun k _ hk=>absurd rfl hk,fun u hu=>hu,fun k _ _=>rfl⟩,⟨hm,yaf _⟩,fun h1 h2=>absurd h1 (by simp only;omega)⟩
 rcases h with h|h
 ·subst h;simp only;omega
 ·subst h;simp only [Ve];omega
theorem FN.start (hx:XB arcs x) (hm:0≤most) (hv:v<d.length):FN N arcs x p to d v most 0 (0,x,d.set v true):=by
 have hg:∀ u,(d.set v true).getD u false=if u=v then true else d.getD u false:=fun u=>Cz hv
 refine ⟨⟨hx,by simp,fun w=>by simp only [Ve];omega,fun k _ hk=>absurd rfl hk,fun u hu=>?_,fun k _ _=>rfl⟩,⟨yaf _,hm⟩,?_,fun _=>⟨rfl,fun u h1 h2 h3=>?_,fun j _ hj=>by omega⟩⟩
 ·show (d.set v true).getD u false=true
  rw [hg];split
  ·rfl
  ·exact hu
 ·show (d.set v true).getD v false=true
  rw [hg,if_pos rfl]
 ·rw [show ((0,x,d.set v true):Int × List Int × List Bool).2.2=d.set v true from rfl,hg,if_neg h3] at h1
  rw [h2] at h1;cases h1
theorem FN.skip {i:Nat} {g:Int × List Int × List Bool} (h:FN N arcs x p to d v most i g) (hi:i<(outs arcs v arcs.length).length)
  (hs:g.1=0→0<cQ arcs x v (outs arcs v arcs.length)[i]→dH arcs p (wix arcs v (outs arcs v arcs.length)[i])=0→g.2.2.getD (wdst arcs (wix arcs v (outs arcs v arcs.length)[i])) false=true):FN N arcs x p to d v most (i+1) g:=by
 refine ⟨h.fi,h.n0,h.nd,fun h0=>?_⟩
 obtain ⟨z1,z2,z3⟩:=h.zero h0
 refine ⟨z1,z2,fun j hj hlt hr hc=>?_⟩
 by_cases e:j=i
 ·subst e;exact hs h0 hr hc
 ·exact z3 j hj (by omega) hr hc
theorem Rb {k:Nat}:dH arcs p (2*k+1)=- dH arcs p (2*k):=by
 unfold dH e9 wsrc wdst
 rw [if_neg (by omega),if_neg (by omega),if_neg (by omega),if_pos (by omega),if_pos (by omega),if_pos (by omega),show (2*k+1)/2=k by omega,show 2*k/2=k by omega]
 omega
theorem Oi {i:Nat} (h:dH arcs p i=0):dH arcs p (2*(i/2))=0:=by
 by_cases e:i%2=0
 ·rwa [show 2*(i/2)=i by omega]
 ·have:i=2*(i/2)+1:=by omega
  rw [this,Rb] at h
  omega
def dlt (arcs:List Arc) (v k:Nat) (n:Int):Int:=if (gA arcs k).from_=v then n else -n
theorem FN.step (hV:Val N arcs) (hvd:d.getD v false=false) (hm:0<most) {i:Nat} {s:Int} {x1:List Int} {d1:List Bool} (h:FN N arcs x p to d v most i (s,x1,d1)) {k:Nat} (hi:i<(outs arcs v arcs.length).length) (hk:(outs arcs v arcs.length)[i]=k)
  (hd:d1.getD (wdst arcs (wix arcs v k)) false=false) (hc:dH arcs p (wix arcs v k)=0) (hr:0<cQ arcs x1 v k) (hne:s≠most) {n:Int} {x2:List Int} {d2:List Bool}
  (hq:FQ arcs x1 p to d1 (wdst arcs (wix arcs v k)) (min (cQ arcs x1 v k) (most-s)) (n,x2,d2)) :
  FN N arcs x p to d v most (i+1) (s+n,x2.set k (x2.getD k 0+dlt arcs v k n),d2):=by
 obtain ⟨hj,hend⟩:=w8 hi
 rw [hk] at hj hend
 have hsrc:=Do hV hj hend
 obtain ⟨w1,w2,w3⟩:=xR hV (i:=wix arcs v k) (by rw [fK];exact hj)
 rw [hsrc] at w1 w3
 have hva:=hV.at hj
 have hfi:=h.fi
 have hqi:=hq.fi
 simp only at hfi hqi
 have hn:=hq.n0
 have hs:=h.n0
 simp only at hn hs
 have hmin:=yaR (cQ arcs x1 v k) (most-s)
 have hmin2:=yay (cQ arcs x1 v k) (most-s)
 have hkl:k<x2.length:=by rw [hqi.xb.hl];exact hj
 have hge:∀ j w,(x2.set k w).getD j 0=if j=k then w else x2.getD j 0:=fun j w=>gD hkl
 have hnd:d1.getD v false=true:=h.nd
 have hk2:x2.getD k 0=x1.getD k 0:=hqi.kept k hj (by
  rcases hend with e|e
  ·left;rw [e];exact hnd
  ·right;rw [e];exact hnd)
 have hends:(gA arcs k).from_=v∧(gA arcs k).to.toNat=wdst arcs (wix arcs v k)∨((gA arcs k).from_≠v∧(gA arcs k).to=v∧(gA arcs k).from_.toNat=wdst arcs (wix arcs v k)):=by
  unfold wdst
  rw [fK]
  unfold wix
  by_cases e:(gA arcs k).from_=v
  ·left;rw [if_pos e,if_pos (by omega)];exact ⟨e,rfl⟩
  ·right;rw [if_neg e,if_neg (by omega)]
   refine ⟨e,?_,rfl⟩
   rcases hend with e2|e2
   ·exact absurd e2 e
   ·exact e2
 have hx1k:=hfi.xb.hb k hj
 have hroom:cQ arcs x1 v k=if (gA arcs k).from_=v then (gA arcs k).cap-x1.getD k 0 else x1.getD k 0:=rfl
 generalize hu:wdst arcs (wix arcs v k)=u at *
 refine ⟨⟨⟨by rw [yax];exact hqi.xb.hl,fun j hj2=>?_⟩,hqi.dl.trans hfi.dl,fun w=>?_,fun j hj2 hne2=>?_,fun w hw=>hqi.mono w (hfi.mono w hw),fun j hj2 hdd=>?_⟩,⟨by simp only;omega,by simp only;omega⟩,hqi.mono v hnd,fun h0=>?_⟩
 ·show 0≤(x2.set k _).getD j 0∧_
  simp only
  rw [hge]
  split
  ·rename_i e
   subst e
   rw [hk2]
   unfold dlt
   split
   ·rename_i e;rw [if_pos e] at hroom;omega
   ·rename_i e;rw [if_neg e] at hroom;omega
  ·exact hqi.xb.hb j hj2
 ·have e1:=hqi.val w
  have e2:=hfi.val w
  simp only at e1 e2 ⊢
  rw [Cd w hkl,if_pos hj,e1,e2,Dr,Dr]
  have:x2.getD k 0+dlt arcs v k n-x2.getD k 0=dlt arcs v k n:=by omega
  rw [this]
  unfold dlt vd
  rcases hends with ⟨q1,q2⟩|⟨q1,q2,q3⟩
  ·rw [if_pos q1,q1]
   have t1:((v:Int)=w)↔w=v:=by omega
   have t2:((gA arcs k).to=w)↔w=u:=by omega
   simp only [t1,t2]
   split<;>split<;>split<;>omega
  ·rw [if_neg q1,q2]
   have t1:((v:Int)=w)↔w=v:=by omega
   have t2:((gA arcs k).from_=w)↔w=u:=by omega
   simp only [t1,t2]
   split<;>split<;>split<;>omega
 ·simp only at hne2
  rw [hge] at hne2
  by_cases e:j=k
  ·subst e
   have:=Oi hc
   rwa [fK] at this
  ·rw [if_neg e] at hne2
   by_cases e2:x2.getD j 0=x1.getD j 0
   ·exact hfi.tig j hj2 (by rw [←e2];exact hne2)
   ·exact hqi.tig j hj2 e2
 ·simp only
  rw [hge]
  by_cases e:j=k
  ·subst e
   exfalso
   have a1:d.getD u false=true→False:=fun h1=>by rw [hfi.mono u h1] at hd;cases hd
   rcases hends with ⟨q1,q2⟩|⟨q1,q2,q3⟩
   ·rw [q1,q2,yaa,hvd] at hdd
    rcases hdd with h1|h1
    ·cases h1
    ·exact a1 h1
   ·rw [q2,q3,yaa,hvd] at hdd
    rcases hdd with h1|h1
    ·exact a1 h1
    ·cases h1
  ·rw [if_neg e]
   rw [←hfi.kept j hj2 hdd]
   exact hqi.kept j hj2 (hdd.imp (hfi.mono _) (hfi.mono _))
 ·simp only at h0
  have s0:s=0:=by omega
  have n0:n=0:=by omega
  obtain ⟨z1,z2,z3⟩:=h.zero s0
  obtain ⟨y1,y2,y3⟩:=hq.zero n0 (by
   rw [s0] at hne ⊢
   exact Int.lt_min.2 ⟨hr,by omega⟩)
  simp only at z1 z2 z3 y1 y2 y3 ⊢
  have ex:x2.set k (x2.getD k 0+dlt arcs v k n)=x:=by
   have:dlt arcs v k n=0:=by unfold dlt;rw [n0];split<;>rfl
   rw [this,Int.add_zero,y1,z1]
   rw [yad,yap (by rw [←z1,←y1];exact hkl),Option.getD_some,List.set_getElem_self]
  refine ⟨ex,fun w h1 h2 h3=>?_,fun j hj2 hlt hro hcz=>?_⟩
  ·by_cases e:d1.getD w false=true
   ·exact (z2 w e h2 h3).mono hqi.mono
   ·rw [Bool.not_eq_true] at e
    have:=y3 w h1 e
    rwa [z1] at this
  ·by_cases e:j=i
   ·subst e
    rw [hk,hu]
    exact y2
   ·exact hqi.mono _ (z3 j hj2 (by omega) hro hcz)
theorem FN.done (hV:Val N arcs) (hv:v<d.length) (hvt:v≠to) (hvd:d.getD v false=false) (hm:0<most) {i:Nat} {g:Int × List Int × List Bool} (h:FN N arcs x p to d v most i g) (hi:i=(outs arcs v arcs.length).length∨g.1=most) :
  FQ arcs x p to d v most (g.1,g.2.1,g.2.2.set v (decide (g.1<most))):=by
 obtain ⟨s,x1,d1⟩:=g
 have hfi:=h.fi
 have hn:=h.n0
 simp only at hfi hn hi ⊢
 have hl:v<d1.length:=by rw [hfi.dl];exact hv
 have hg:∀ u b,(d1.set v b).getD u false=if u=v then b else d1.getD u false:=fun u b=>Cz hl
 refine ⟨⟨hfi.xb,by rw [yax];exact hfi.dl,hfi.val,hfi.tig,fun u hu=>?_,hfi.kept⟩,hn,fun h0 hmm=>?_⟩
 ·show (d1.set v _).getD u false=true
  rw [hg]
  by_cases e:u=v
  ·subst e;rw [hvd] at hu;cases hu
  ·rw [if_neg e];exact hfi.mono u hu
 ·simp only at h0
  obtain ⟨z1,z2,z3⟩:=h.zero h0
  simp only at z1 z2 z3 ⊢
  have hnd:d1.getD v false=true:=h.nd
  have hd:decide (s<most)=true:=decide_eq_true (by omega)
  have hsub:∀ u,d1.getD u false=true→(d1.set v (decide (s<most))).getD u false=true:=fun u hu=>by
   rw [hg];split
   ·exact hd
   ·exact hu
  refine ⟨z1,by rw [hg,if_pos rfl];exact hd,fun u h1 h2=>?_⟩
  by_cases e:u=v
  ·subst e
   refine ⟨hvt,fun w hw hsrc hc=>hsub _ ?_⟩
   obtain ⟨q1,q2⟩:=Li hV hw.1 hsrc
   obtain ⟨j,hj,hje⟩:=yao q1
   have:=z3 j hj (by omega) (by rw [hje,←xQ,q2];exact hw.2) (by rw [hje,q2];exact hc)
   rwa [hje,q2] at this
  ·rw [hg,if_neg e] at h1
   exact (z2 u h1 h2 e).mono hsub
theorem Tu:∀ {a b:List Bool},a.length=b.length→(∀ u,a.getD u false=true→b.getD u false=true)→b.count false≤a.count false
 | [],b,hl,_=>by cases b<;>simp_all
 | x::a,[],hl,_=>by simp at hl
 | x::a,y::b,hl,h=>by
  have h0:=h 0
  have:=Tu (a:=a) (b:=b) (by simpa using hl) fun u hu=>by have:=h (u+1);simpa using this (by simpa using hu)
  simp only [yaS]
  cases x<;>cases y<;>simp at*<;> omega
theorem cnt_lt:∀ {a b:List Bool} {v:Nat},a.length=b.length→(∀ u,a.getD u false=true→b.getD u false=true)→v<a.length→a.getD v false=false→b.getD v false=true→b.count false<a.count false
 | [],b,v,hl,_,hv,_,_=>by simp at hv
 | x::a,[],v,hl,_,_,_,_=>by simp at hl
 | x::a,y::b,0,hl,h,hv,h1,h2=>by
  have:=Tu (a:=a) (b:=b) (by simpa using hl) fun u hu=>by have:=h (u+1);simpa using this (by simpa using hu)
  simp only [yaS]
  simp at h1 h2
  subst h1 h2
  simp;omega
 | x::a,y::b,v+1,hl,h,hv,h1,h2=>by
  have h0:=h 0
  have:=cnt_lt (a:=a) (b:=b) (v:=v) (by simpa using hl) (fun u hu=>by have:=h (u+1);simpa using this (by simpa using hu)) (by simpa using hv) (by simpa using h1) (by simpa using h2)
  simp only [yaS]
  cases x<;>cases y<;>simp at*<;> omega
end
end Go.Fx.P.K
namespace Go.Fx.P.K
open Go Go.Fx Go.Fx.E Go.Proofs
set_option maxRecDepth 20000
abbrev G28:Type:=Nat × List Int × List Int × List Int
def hpD (N:Nat) (arcs:List Arc) (x p:List Int) (g:G28):List Blk :=
 [wB N x.length arcs 1 2 3,.arr 1 (x.map encI),.arv 1 (iN arcs N),.arr 1 (p.map encI),.var [.ptr 0 0 0],.dead,.var [.sl 7 0 N],.arr 1 (g.2.2.2.map encI),.var [.sl 10 0 g.1,.sl 11 0 g.1],.var [.ptr 8 0 0],.arr 1 (g.2.1.map encI),.arr 1 (g.2.2.1.map encI)]
def Kn:Env:=[(8,.ptr 13 0 0),(7,.ptr 12 0 0),(6,.ptr 9 0 0),(5,.ptr 6 0 0),(2,.ptr 4 0 0)]
def hpI (N:Nat) (arcs:List Arc) (x p:List Int) (key:Int) (v:Nat) (g:G28):List Blk :=
 hpD N arcs x p g++[.var [.i key],.var [.i v],.var [.ptr 0 0 0],.var [.i v],.rcd .ready Kn]
section
variable {N:Nat} {arcs:List Arc} {x p:List Int} {s:Nat} {hs:s<N}
structure Inn (G:Lb.Gr) (N:Nat) (arcs:List Arc) (x:List Int) (key:Int) (v M0:Nat) (i:Nat) (g:G28):Prop where
 di:DI N G g.1 g.2.1 g.2.2.1 g.2.2.2
 kv:g.2.2.2.getD v 0=key
 kf:key<far
 pe:u9 N G g.1 g.2.1 g.2.2.1 g.2.2.2 fun u=>u≠v
 cl:∀ j (hj:j<(outs arcs v arcs.length).length),j<i→0<cQ arcs x v (outs arcs v arcs.length)[j]→g.2.2.2.getD (G.dst (wix arcs v (outs arcs v arcs.length)[j])) 0≤key+G.c (wix arcs v (outs arcs v arcs.length)[j])
 ms:meas N g.1 g.2.2.2<M0
theorem afJ (hW:WOk N arcs x p) {key:Int} {v:Nat} (hv:v<N) (hx:∀ j,0≤x.getD j 0∧x.getD j 0≤1073741824):ItH (hpI N arcs x p key v) (fun _=>x) 17 N v arcs 16 14 15 0 1 2 3 [16,0,1,2,3]:=by
 have hxl:=hW.hx
 refine ⟨hW.hV,hv,fun g=>rfl,fun g tl=>rfl,fun g tl=>rfl,fun g tl=>by rw [←hxl];rfl,fun g tl=>rfl,fun g tl=>rfl,fun g=>⟨trivial,trivial,trivial,trivial,trivial,trivial⟩,fun g=>?_,fun g=>⟨_,_,rfl⟩,fun g=>⟨hxl,hx⟩⟩
 unfold hpI hpD wB Kn
 simp -implicitDefEqProofs only [rX,aB,wfE,wfB,wfV,wfL,bY]
theorem Nr {v k a b i:Nat} {e:Env} {M:List Nat} (h1:k∉M) (h2:a∉M) (h3:b∉M) (h:EI arcs v k a b i e):EI arcs v k a b i (bO M e):=by
 refine ⟨?_,?_,?_,?_,?_,?_,?_⟩<;>rw [eP]
 ·rw [h.e0];simp [kill,h1]
 ·rw [h.e1];simp [kill,h2]
 ·rw [h.e2];simp [kill,h3]
 ·rw [h.e14];rfl
 ·rw [h.e15];rfl
 ·rw [h.e16];rfl
 ·rw [h.e65];rfl
theorem acZ (hW:WOk N arcs x p) (hn:NN arcs x fun u=>p.getD u 0) {key:Int} {v M0 i:Nat} {g:G28} (hv:v<N) (hi:i<(outs arcs v arcs.length).length) (hI:Inn (grD N arcs x (fun u=>p.getD u 0) s hW.hV hs hn) N arcs x key v M0 i g)
  (hr:0<cQ arcs x v (outs arcs v arcs.length)[i]) {e:Env} {bb:Nat} {Z:V→St→Prop} (he:EI arcs v 16 14 15 i e)
  (hT:∀ e' g' tl,EI arcs v 16 14 15 i e'→Inn (grD N arcs x (fun u=>p.getD u 0) s hW.hV hs hn) N arcs x key v M0 (i+1) g'→Z (.b true) ⟨e',hpI N arcs x p key v g'++tl,bb⟩) :
  yR (cxN Tryz.prog [0,1,2,3]) [46] c90a0 c90r0 16 [lJ arcs x v (outs arcs v arcs.length)[i]] ⟨e,hpI N arcs x p key v g++[.var (gA arcs (outs arcs v arcs.length)[i]).enc,.var (vX arcs x v (outs arcs v arcs.length)[i])],bb⟩ Z:=by
 have hVV:=hW.hV
 obtain ⟨hj,hend⟩:=w8 hi
 generalize hk:(outs arcs v arcs.length)[i]=k at *
 have hsrc:=Do hVV hj hend
 have hroom:wrm arcs x (wix arcs v k)=cQ arcs x v k:=xQ
 have hres:sF arcs x (wix arcs v k):=⟨by rw [fK];exact hj,by rw [hroom];exact hr⟩
 obtain ⟨w1,w2,w3⟩:=xR hVV hres.1
 have hcb:=tV hVV hres.1
 have hway:lJ arcs x v k=.agg [.i k,.i (wdst arcs (wix arcs v k):Nat),.i (cQ arcs x v k),.i (e9 arcs (wix arcs v k)),.b (decide (¬(gA arcs k).from_=v))]:=by
  have:=hVV.at hj
  unfold lJ cQ wdst e9
  rw [fK]
  unfold wix
  by_cases h:(gA arcs k).from_=v
  ·simp only [if_pos h]
   rw [if_pos (by omega),if_pos (by omega),show (((gA arcs k).to.toNat:Nat):Int)=(gA arcs k).to by omega,show decide (¬(gA arcs k).from_=v)=false from decide_eq_false (by simpa using h)]
  ·simp only [if_neg h]
   rw [if_neg (by omega),if_neg (by omega),show (((gA arcs k).from_.toNat:Nat):Int)=(gA arcs k).from_ by omega,show decide (¬(gA arcs k).from_=v)=true from decide_eq_true h]
 have hwc:cells? (lJ arcs x v k)=some (vX arcs x v k):=by unfold lJ vX;split<;>rfl
 have hwc2:vX arcs x v k=[.i k,.i (wdst arcs (wix arcs v k):Nat),.i (cQ arcs x v k),.i (e9 arcs (wix arcs v k)),.b (decide (¬(gA arcs k).from_=v))]:=by
  rw [hway] at hwc
  simpa [cells?] using hwc.symm
 obtain ⟨n,ks,vs,D⟩:=g
 rw [hway,hwc2]
 generalize decide (¬(gA arcs k).from_=v)=bk at *
 generalize cQ arcs x v k=rm at *
 have hKill:∀ M,bQ M (gA arcs k).enc=(gA arcs k).enc:=fun M=>rfl
 generalize (gA arcs k).enc=encA at *
 have hcall:=Yd N arcs x p v (wdst arcs (wix arcs v k):Nat) (e9 arcs (wix arcs v k)) (.i k) (.i rm) (.b bk) hW (by omega) (by omega) hcb
 have hrc:e9 arcs (wix arcs v k)+p.getD (v:Int).toNat 0-p.getD ((wdst arcs (wix arcs v k):Nat):Int).toNat 0=dH arcs (fun u=>p.getD u 0) (wix arcs v k):=by
  unfold dH
  rw [hsrc,yaa,yaa]
 rw [hrc] at hcall
 have hc0:=hn _ hres
 have hp1:=hW.hb v
 have hp2:=hW.hb (wdst arcs (wix arcs v k))
 have hcB:dH arcs (fun u=>p.getD u 0) (wix arcs v k)≤1074790400:=by
  unfold dH
  rw [hsrc]
  show e9 arcs (wix arcs v k)+p.getD v 0-p.getD (wdst arcs (wix arcs v k)) 0≤_
  omega
 have hDl:D.length=N:=hI.di.len
 have hkey:=hI.di.nn hW.hN (fun j=>hW.hb j) hv
 have hkv:D.getD v 0=key:=hI.kv
 rw [show ((n,ks,vs,D):G28).2.2.2=D from rfl,hkv] at hkey
 have hkf:=hI.kf
 have hkB:key≤KB:=by
  rcases hkey.2 with e|e
  ·omega
  ·exact e
 refine Lg 19 rfl rfl rfl ?_
 unfold hpI hpD wB Kn c90a0
 simp -implicitDefEqProofs only [rX,↓rY,rZ,↓rW,aA,cells?,splice,↓reduceIte,Nat.reduceEqDiff,Nat.reduceAdd,aC,isC,cxN,l7]
 unfold c90r0
 simp -implicitDefEqProofs only [rX,↓rY,rdK,↓reduceIte,Nat.reduceEqDiff,Nat.reduceAdd]
 generalize hcc:dH arcs (fun u=>p.getD u 0) (wix arcs v k)=c at *
 generalize hto:wdst arcs (wix arcs v k)=to at *
 refine cY [0,1,2,3] [.ptr 0 0 0,.i v,.agg [.i k,.i (to:Nat),.i rm,.i (e9 arcs (wix arcs v k)),.b bk]] (.i c) (.i c) (wH N arcs x p) (wH N arcs x p) _ hcall (by simp) (by simp [wH,wB,blk,bX,cI,ren,pos,cJ]) (by simp [aF,aG,aN,bD,wkL,wk,pos]) (by simp [wH]) rfl rfl (by simp [aD,aB,wH,wB,bM,bX]) ?_
 simp -implicitDefEqProofs only [rX,↓rY,rZ,↓rW,cells?,splice,↓reduceIte,Nat.reduceEqDiff,cR,Nat.reduceAdd,isD,isC,yac,bW,yaa,fG,wH,wB,bM,bX,cI,ren,cJ,back]
 have hDt:D.getD to 0=D[to]'(by omega):=bV (by omega)
 have hKBv:KB=67711795200:=rfl
 have hEI:=he
 have hcl:∀ (D':List Int),D'.getD v 0=key→(∀ u,D'.getD u 0≤D.getD u 0)→D'.getD to 0≤key+c →
   ∀ j (hj:j<(outs arcs v arcs.length).length),j<i+1→0<cQ arcs x v (outs arcs v arcs.length)[j]→D'.getD ((grD N arcs x (fun u=>p.getD u 0) s hW.hV hs hn).dst (wix arcs v (outs arcs v arcs.length)[j])) 0≤key+(grD N arcs x (fun u=>p.getD u 0) s hW.hV hs hn).c (wix arcs v (outs arcs v arcs.length)[j]):=by
  intro D' e1 e2 e3 j hj2 hlt hro
  by_cases e:j=i
  ·subst e
   show D'.getD (wdst arcs (wix arcs v (outs arcs v arcs.length)[j])) 0≤key+dH arcs (fun u=>p.getD u 0) (wix arcs v (outs arcs v arcs.length)[j])
   rw [hk,hto,hcc]
   exact e3
  ·exact yaF (e2 _) (hI.cl j hj2 (by omega) hro)
 refine ⟨by simp only [lo,Fx.hi];omega,⟨by omega,by omega⟩,by omega,?_⟩
 simp only [br,decide_eq_true_eq,decide_eq_false_iff_not]
 refine ⟨fun hlt=>⟨⟨by omega,by omega⟩,by omega,?_⟩,fun hge=>?_⟩
 ·have hnle:=hI.di.n_le hW.hN (fun j=>hW.hb j)
  simp only at hnle
  refine fC (oI n ks vs (key+c) (to:Nat)) [8,10,11] [1,2] [10,11] [.ptr 0 0 0,.i (key+c),.i to] (fun _=>.tup []) (hpB n ks vs) (fun g=>hpB (n+1) g.1 g.2) (aeL n ks vs (key+c) to hI.di.h1 hI.di.h2 (by omega)) (by simp) (by simp) (by simp [hpB,blk,bX,cI,ren,pos]) (by simp [aF,aG,aN,bD,wkL,wk,pos]) fun g hg=>⟨by simp [aD,aB,hpB,bM,bX,bE],?_⟩
  obtain ⟨ks2,vs2⟩:=g
  have hpush:=hI.di.push (i:=wix arcs v k) (ks':=ks2) (vs':=vs2) hW.hN (fun j=>hW.hb j) hres
  have hpe:=hI.pe.push (t:=to) (nv:=key+c) (by rw [hI.di.len];exact w2) (by show key+c<D.getD to 0;rw [hDt];exact hlt) hg
  simp only [hsrc,hto,hcc,hkv,hDt] at hpush
  obtain ⟨hd1,hd2⟩:=hpush hkf hlt hg
  simp -implicitDefEqProofs only [rX,rZ,↓rW,↓reduceIte,Nat.reduceEqDiff,Nat.reduceAdd,reduceCtorEq,bO,bE,kill,bQ,St.kill,hpB,bM,bX,cI,ren,back,fW,mS,hKill]
  have hge:∀ u,(D.set to (key+c)).getD u 0=if u=to then key+c else D.getD u 0:=fun u=>gD (by omega)
  have hvt:¬v=to:=by rw [←hsrc];exact w3
  refine hT (bO [10,11] e) (n+1,ks2,vs2,D.set to (key+c)) [.var encA,.var [.i k,.i to,.i rm,.i (e9 arcs (wix arcs v k)),.b bk],.dead,.var [.i k,.i to,.i rm,.i (e9 arcs (wix arcs v k)),.b bk]] (Nr (by simp) (by simp) (by simp) he) ⟨hd1,?_,hkf,hpe,hcl _ ?_ ?_ ?_,Nat.lt_trans hd2 hI.ms⟩
  ·show (D.set to (key+c)).getD v 0=key
   rw [hge,if_neg hvt];exact hkv
  ·show (D.set to (key+c)).getD v 0=key
   rw [hge,if_neg hvt];exact hkv
  ·intro u
   show (D.set to (key+c)).getD u 0≤D.getD u 0
   rw [hge]
   split
   ·rename_i e;rw [e,hDt];omega
   ·exact yaf _
  ·show (D.set to (key+c)).getD to 0≤key+c
   rw [hge,if_pos rfl];exact yaf _
 ·exact hT e (n,ks,vs,D) [.var encA,.var [.i k,.i to,.i rm,.i (e9 arcs (wix arcs v k)),.b bk],.dead,.var [.i k,.i to,.i rm,.i (e9 arcs (wix arcs v k)),.b bk]] he ⟨hI.di,hkv,hkf,hI.pe,hcl D hkv (fun u=>yaf _) (by rw [hDt];omega),hI.ms⟩
end
end Go.Fx.P.K
namespace Go.Fx.P.K
open Go Go.Fx Go.Fx.E Go.Proofs
set_option maxRecDepth 20000
section
variable {N:Nat} {arcs:List Arc} {x p:List Int} {s:Nat} {hs:s<N}
abbrev Gw (N:Nat) (arcs:List Arc) (x p:List Int) (g:G28):St:=⟨[(6,.ptr 9 0 0),(5,.ptr 6 0 0),(2,.ptr 4 0 0)],hpD N arcs x p g,0⟩
structure Ui (G:Lb.Gr) (N:Nat) (g:G28):Prop where
 di:DI N G g.1 g.2.1 g.2.2.1 g.2.2.2
 pe:u9 N G g.1 g.2.1 g.2.2.1 g.2.2.2 fun _=>True
theorem abR (hW:WOk N arcs x p) (hn:NN arcs x fun u=>p.getD u 0) (hx:∀ j,0≤x.getD j 0∧x.getD j 0≤1073741824) {RR:St→Prop} {X:Nat→St→Prop}
  (hX:∀ D ks vs,Bn N (grD N arcs x (fun u=>p.getD u 0) s hW.hV hs hn) D→∀ e b,get e 5=.ptr 6 0 0→X 0 ⟨e,hpD N arcs x p (0,ks,vs,D),b⟩) (g:G28) (hg:Ui (grD N arcs x (fun u=>p.getD u 0) s hW.hV hs hn) N g) :
  aw (cxN Tryz.prog [0,1,2,3]) c90l0 (fun s'=>∃ g':G28,(Ui (grD N arcs x (fun u=>p.getD u 0) s hW.hV hs hn) N g'∧meas N g'.1 g'.2.2.2<meas N g.1 g.2.2.2)∧leS [0,1,2,3] s' (Gw N arcs x p g')) X RR (Gw N arcs x p g):=by
 obtain ⟨n,ks,vs,D⟩:=g
 obtain ⟨hD,hP⟩:=hg
 simp only at hD hP
 have hnle:=hD.n_le hW.hN (fun j=>hW.hb j)
 have hDl:D.length=N:=hD.len
 unfold c90l0 Gw hpD wB
 rcases Nat.eq_zero_or_pos n with h0|h0
 ·subst h0
  have hfin:=hD.fin hP
  have:=hX D ks vs hfin
  unfold hpD wB at this
  simp -implicitDefEqProofs only [rX,↓rY,aA,↓reduceIte,Nat.reduceEqDiff,Nat.reduceAdd,cxN]
  intro _
  have hd:decide ((0:Int)<((0:Nat):Int))=false:=by decide
  simp -implicitDefEqProofs only [↓rY,hd]
  exact this _ _ rfl
 have hd:decide ((0:Int)<(n:Int))=true:=decide_eq_true (by omega)
 simp -implicitDefEqProofs only [rX,↓rY,aA,↓reduceIte,Nat.reduceEqDiff,Nat.reduceAdd,cxN,hd]
 intro _
 refine fC (Xk n ks vs) [8,10,11] [] [] [.ptr 0 0 0] (fun g=>.tup [.i g.1.1,.i g.1.2]) (hpB n ks vs) (fun g=>hpB (n-1) g.2.1 g.2.2) (aeK n ks vs h0 hD.h1 hD.h2 (by omega)) (by simp) (by simp) (by simp [hpB,blk,bX,cI,ren,pos]) (by simp [aF,aG,aN,bD,wkL,wk,pos]) fun g hg=>⟨by simp [aD,aB,hpB,bM,bX,bE],?_⟩
 obtain ⟨⟨key,v0⟩,ks2,vs2⟩:=g
 have hent:=hD.ent _ _ hg.hin
 simp only at hent
 obtain ⟨v,rfl⟩:∃ v:Nat,v0=v:=⟨v0.toNat,by omega⟩
 rw [yaa] at hent
 have hvN:v<N:=by omega
 obtain ⟨hD2,hM2⟩:=hD.pop h0 hg
 have hP2:=hP.pop hg
 simp only at hD2 hM2 hP2
 have hDv:D.getD v 0=D[v]'(by omega):=bV (by omega)
 simp -implicitDefEqProofs only [rX,↓rY,aA,cells?,splice,↓reduceIte,Nat.reduceEqDiff,cR,Nat.reduceAdd,aC,leE,leH,leB,leV,aZ,aD,aB,wfE,wfB,wfV,wfL,bO,bE,kill,bQ,St.kill,isC,yac,bW,yaa,hpB,bM,bX,cI,ren,back,fW]
 refine ⟨⟨by omega,by omega⟩,by omega,?_⟩
 simp only [br,decide_eq_true_eq,decide_eq_false_iff_not]
 refine ⟨fun hgt=>?_,fun hle=>?_⟩
 ·refine ⟨(n-1,ks2,vs2,D),⟨⟨hD2,fun u hu hQ hf=>hP2 u hu ?_ hf⟩,hM2⟩,?_⟩
  ·rintro ⟨e1,e2⟩
   have:u=v:=by omega
   subst this
   omega
  ·exact ⟨⟨rfl,⟨rfl,rfl⟩,rfl,rfl⟩,w9⟩
 have hkey:D.getD v 0=key:=by omega
 refine cY [0,1,2,3] [.ptr 0 0 0,.i v] (.clo 146 [.ptr 4 0 0,.ptr 5 0 0]) (.clo 146 [.ptr 14 0 0,.ptr 15 0 0]) (wH N arcs x p) (wH N arcs x p++[Blk.var [V.ptr 0 0 0],Blk.var [V.i v]]) (hpD N arcs x p (n-1,ks2,vs2,D)++[Blk.var [V.i key],Blk.var [V.i v],Blk.var [V.ptr 0 0 0],Blk.var [V.i v]]) (Ye N arcs x p v) (by simp) (by simp [wH,wB,blk,bX,cI,ren,pos,cJ]) (by simp [aF,aG,aN,bD,wkL,wk,pos]) (by simp [wH]) (by simp [hpD,wH,wB,bM,bX,cI,ren,cJ,back]) (by simp [ren,cI,back]) (by simp [aD,aB,hpD,wB]) ?_
 unfold hpD wB
 simp -implicitDefEqProofs only [rX]
 refine Ec 16 rfl rfl trivial ?_
 have hkf:key<far:=by
  have:KB<far:=by decide
  omega
 have hI0:Inn (grD N arcs x (fun u=>p.getD u 0) s hW.hV hs hn) N arcs x key v (meas N n D) 0 (n-1,ks2,vs2,D):=by
  refine ⟨hD2,hkey,hkf,fun u hu hQ hf=>hP2 u hu ?_ hf,fun j hj h=>by omega,hM2⟩
  rintro ⟨e1,e2⟩
  omega
 refine Ul (h':=hpI N arcs x p key v (n-1,ks2,vs2,D)) ?_ ?_ ?_ ?_ (Yp (Inv:=Inn (grD N arcs x (fun u=>p.getD u 0) s hW.hV hs hn) N arcs x key v (meas N n D)) (afJ hW hvN hx) ?_ ?_ ?_ _ hI0)
 ·unfold hpI hpD wB Kn
  simp -implicitDefEqProofs only [rX,↓reduceIte,Nat.reduceEqDiff,leE,leH,leB,leV,aZ,or_true]
 ·simp [aD,aB,hpI,hpD,wB]
 ·unfold hpI hpD wB Kn
  simp -implicitDefEqProofs only [rX,aB,wfE,wfB,wfV,wfL,bY]
 ·unfold hpI hpD wB Kn
  simp -implicitDefEqProofs only [rX,aB,wfV,wfL]
 ·rintro i g hi ⟨g1,g2,g3,g4,g5,g6⟩ hr
  refine ⟨g1,g2,g3,g4,fun j hj hlt hro=>?_,g6⟩
  by_cases e:j=i
  ·subst e
   exact absurd hro (by omega)
  ·exact g5 j hj (by omega) hro
 ·intro i g hi hI hr e bb Z he hT hF
  exact acZ hW hn hvN hi hI hr he hT
 ·rintro ⟨n3,ks3,vs3,D3⟩ ⟨g1,g2,g3,g4,g5,g6⟩
  simp only at g1 g2 g3 g4 g5 g6
  have hcl:clN (grD N arcs x (fun u=>p.getD u 0) s hW.hV hs hn) D3 v:=by
   intro i hi hsrc
   obtain ⟨q1,q2⟩:=Li hW.hV hi.1 hsrc
   obtain ⟨j,hj,hje⟩:=yao q1
   have hres:sF arcs x i:=hi
   have:=g5 j hj hj (by rw [hje,←xQ,q2];exact hres.2)
   rw [hje,q2] at this
   rw [g2]
   exact this
  unfold hpI hpD wB Kn
  simp -implicitDefEqProofs only [rX,rZ,↓rW,↓reduceIte,Nat.reduceEqDiff,leE,leH,leB,leV,aZ,aD,aB,wfE,wfB,wfV,wfL,bY]
  refine ⟨(n3,ks3,vs3,D3),⟨⟨g1,g4.done hcl⟩,g6⟩,?_⟩
  exact ⟨rfl,⟨rfl,rfl⟩,rfl,rfl⟩
theorem Gm {N:Nat} {x:Int}:yab N (encI x)=(yab N x).map encI:=by simp
theorem aaL (key val:Int):OkN Tryz.prog 123 [.ptr 0 0 0,.i key,.i val] [.var [.nil,.nil]] [] (IsQ (oI 0 [] [] key val) (fun _=>.tup []) (fun g=>hpB 1 g.1 g.2)):=by
 refine Vw pol [0] lw123 (by simp) ⟨trivial,trivial⟩ (by simp) (s0:=⟨aK 0 [.ptr 0 0 0,.i key,.i val],hpB 0 [] [],0⟩) ?_ ?_
 ·refine ⟨_,.virt 2 1 (by decide) (.nilB 0 [.nil,.nil] [.sl 1 0 0,.sl 2 0 0] rfl ⟨rfl,fun i a b h1 h2=>?_⟩ (.refl _)),?_⟩
  ·match i with
   | 0=>simp at h1 h2;subst h1 h2;exact .inr ⟨rfl,_,rfl⟩
   | 1=>simp at h1 h2;subst h1 h2;exact .inr ⟨rfl,_,rfl⟩
   | i+2=>simp at h1
  ·unfold hpB
   simp -implicitDefEqProofs only [rX,↓reduceIte,Nat.reduceEqDiff,Nat.reduceAdd,reduceCtorEq,leE,leH,leB,leV,aZ,aD,aB,wfE,wfB,wfV,wfL,aK]
 ·refine Tt 0 [] [] key val (by simp) (by simp) (by omega) fun g hg e b=>?_
  refine dT g hg ?_
  unfold hpB
  simp -implicitDefEqProofs only [rX,Nat.reduceAdd,aL,aM,leH,leB,leV,aZ,aD,aB,wfB,wfV,wfL,Nat.reduceLeDiff]
theorem aiT (hW:WOk N arcs x p) (hn:NN arcs x fun u=>p.getD u 0) (hx:∀ j,0≤x.getD j 0∧x.getD j 0≤1073741824) :
  OkN Tryz.prog 90 [.ptr 0 0 0,.i s] (wH N arcs x p) [] (IsQ (Bn N (grD N arcs x (fun u=>p.getD u 0) s hW.hV hs hn)) (fun _=>.sl 7 0 N) (fun D=>wH N arcs x p++[.dead,.dead,.dead,.arr 1 (D.map encI)])):=by
 refine eR pol [0,1,2,3] lw90 (by simp) ⟨trivial,trivial,trivial,trivial,trivial⟩ (by simp [wH];omega) ?_
 have hN:=hW.hV.hn
 unfold c90 wH wB
 simp -implicitDefEqProofs only [rX,↓rY,aA,cells?,↓reduceIte,Nat.reduceEqDiff,Nat.reduceAdd,aC,bZ,isD,Nat.reduceLT,cxN,aK]
 refine dE [.bro 1 [encI far],.i N] (.sl 0 0 N) (.sl 7 0 N) [.arr 1 (yab N (encI far))] [.arr 1 (yab N (encI far))] (aeM N far (by omega) (by omega)) (by simp [aF,aG,aN,bD,wkL,wk,wkB,blk,far,encI]) rfl rfl (by simp [aD,aB]) ?_
 rw [Gm]
 simp -implicitDefEqProofs only [rX,↓rY,aA,cells?,splice,↓reduceIte,Nat.reduceEqDiff,cR,Nat.reduceAdd,reduceCtorEq,aC,bH,isD,isC,yac,yaa,fG,mS]
 refine ⟨⟨by omega,by omega⟩,by omega,?_⟩
 refine fC (oI 0 [] [] 0 (s:Nat)) [8] [] [] [.ptr 0 0 0,.i 0,.i s] (fun _=>.tup []) [Blk.var [.nil,.nil]] (fun g=>hpB 1 g.1 g.2) (aaL 0 s) (by simp) (by simp) (by simp [blk,bX,cI,ren,pos]) (by simp [aF,aG,aN,bD,wkL,wk,pos]) fun g hg=>⟨by simp [aD,aB,hpB,bM,bX,bE],?_⟩
 obtain ⟨ks,vs⟩:=g
 obtain ⟨h1,h2⟩:=DI.start (N:=N) (arcs:=arcs) (x:=x) (p:=fun u=>p.getD u 0) (s:=s) (hV:=hW.hV) (hs:=hs) (hn:=hn) hg
 simp -implicitDefEqProofs only [rX,↓reduceIte,Nat.reduceAdd,bO,bE,kill,bQ,St.kill,hpB,bM,bX,cI,ren,back,fW]
 refine aT (Gw N arcs x p) (Ui (grD N arcs x (fun u=>p.getD u 0) s hW.hV hs hn) N) (fun g=>meas N g.1 g.2.2.2) (1,ks,vs,(yab N far).set s 0) ⟨h1,h2⟩ ?_ (abR hW hn hx fun D ks vs hQ e b he=>?_)
 ·unfold Gw hpD wB
  simp -implicitDefEqProofs only [rX,↓reduceIte,Nat.reduceEqDiff,leE,leH,leB,leV,aZ,aD,aB,wfE,wfB,wfV,wfL,bY]
  exact ⟨rfl,rfl⟩
 ·unfold hpD wB
  simp -implicitDefEqProofs only [rX,↓rY,↓reduceIte,Nat.reduceAdd,he]
  refine dT D hQ ?_
  simp -implicitDefEqProofs only [rX,↓reduceIte,Nat.reduceAdd,aL,aM,leH,leB,leV,aZ,aD,aB,wfB,wfV,wfL,Nat.reduceLeDiff,bY]
end
end Go.Fx.P.K
namespace Go.Fx.P.K
open Go Go.Fx Go.Fx.E Go.Proofs
set_option maxRecDepth 20000
def h44 (N:Nat) (arcs:List Arc) (p:List Int) (to:Nat) (x:List Int) (d:List Bool):List Blk :=
 [wB N arcs.length arcs 1 2 3,.arr 1 (x.map encI),.arv 1 (iN arcs N),.arr 1 (p.map encI),.var [.ptr 0 0 0],.var [.i to],.arr 1 (d.map v6),.var [.sl 6 0 N],.var [.clo 128 [.ptr 5 0 0,.ptr 7 0 0,.ptr 4 0 0,.ptr 8 0 0]]]
abbrev G44 (arcs:List Arc):Type:={ g:Int × List Int × List Bool // XB arcs g.2.1 }
def v7:Env:=[(9,.ptr 11 0 0),(7,.ptr 10 0 0),(6,.ptr 9 0 0),(5,.ptr 8 0 0),(4,.ptr 4 0 0),(3,.ptr 7 0 0)]
def hpF (N:Nat) (arcs:List Arc) (p:List Int) (to v:Nat) (most:Int) (g:Int × List Int × List Bool):List Blk :=
 h44 N arcs p to g.2.1 g.2.2++[.var [.i v],.var [.i most],.var [.i g.1],.var [.ptr 0 0 0],.var [.i v],.rcd .ready v7]
theorem Da {l:List Bool} {k:Nat} (h:k<l.length):l.getD k false=l[k]:=by
 rw [yad,yap h];rfl
theorem XB.bd {N:Nat} {arcs:List Arc} {x:List Int} (hV:Val N arcs) (h:XB arcs x) (j:Nat):0≤x.getD j 0∧x.getD j 0≤1073741824:=by
 by_cases hj:j<arcs.length
 ·have:=h.hb j hj
  have:=hV.at hj
  omega
 ·rw [yad,yaC (by have:=h.hl;omega)];simp
def Uj (N:Nat) (arcs:List Arc) (p:List Int) (to:Nat) (x:List Int) (d:List Bool) (v:Nat) (most:Int):Prop :=
 OkN Tryz.prog 128 [.i v,.i most,.ptr 5 0 0,.ptr 7 0 0,.ptr 4 0 0,.ptr 8 0 0] (h44 N arcs p to x d) [] (IsQ (FQ arcs x (fun u=>p.getD u 0) to d v most) (fun g=>.i g.1) (fun g=>h44 N arcs p to g.2.1 g.2.2))
section
variable {N:Nat} {arcs:List Arc} {x p:List Int} {to v:Nat} {d:List Bool} {most:Int}
theorem afI (hV:Val N arcs) (hv:v<N):ItH (fun g:G44 arcs=>hpF N arcs p to v most g.1) (fun g=>g.1.2.1) 15 N v arcs 14 12 13 0 1 2 3 [14,0,1,2,3,4,5,6,7,8]:=by
 refine ⟨hV,hv,fun g=>rfl,fun g tl=>rfl,fun g tl=>rfl,fun g tl=>rfl,fun g tl=>rfl,fun g tl=>rfl,fun g=>⟨trivial,trivial,trivial,trivial,trivial,trivial,trivial,trivial,trivial,trivial,trivial⟩,fun g=>?_,fun g=>⟨_,_,rfl⟩,fun g=>⟨g.2.hl,fun j=>g.2.bd hV j⟩⟩
 unfold hpF h44 wB v7
 simp -implicitDefEqProofs only [rX,aB,wfE,wfB,wfV,wfL,bY]
theorem acY (hW:∀ x,XB arcs x→WOk N arcs x p) (hvd:d.getD v false=false) (hdl:d.length=N) (hto:to<N) (hm:0<most∧most≤4611686018427387904) {i:Nat} {g:Int × List Int × List Bool} (hv:v<N) (hi:i<(outs arcs v arcs.length).length)
  (IH:∀ (x1:List Int) (d1:List Bool) (v1:Nat) (m1:Int),d1.count false<d.count false→XB arcs x1→d1.length=N→v1<N→d1.getD v1 false=false→0≤m1∧m1≤4611686018427387904→Uj N arcs p to x1 d1 v1 m1)
  (hI:FN N arcs x (fun u=>p.getD u 0) to d v most i g)
  (hr:0<cQ arcs g.2.1 v (outs arcs v arcs.length)[i]) {e:Env} {bb:Nat} {Z:V→St→Prop} {NX RX:St→Prop} {XX:Nat→St→Prop} (he:EI arcs v 14 12 13 i e)
  (hN:∀ e' h',(∃ (g:Int × List Int × List Bool) (tl:List Blk),FN N arcs x (fun u=>p.getD u 0) to d v most i g∧g.1=most∧e'=v7∧h'=(hpF N arcs p to v most g).set 14 .dead++tl)→XX 0 ⟨e',h',0⟩)
  (hT:∀ e' g' tl,EI arcs v 14 12 13 i e'→FN N arcs x (fun u=>p.getD u 0) to d v most (i+1) g'→Z (.b true) ⟨e',hpF N arcs p to v most g'++tl,bb⟩)
  (hF:∀ e' hh,EI arcs v 14 12 13 i e'→tF 14 NX XX RX hh→Z (.b false) ⟨e',hh,bb⟩) :
  yR (cxN Tryz.prog [0,1,2,3,4,5,6,7,8]) [26] c128a0 c128r0 14 [lJ arcs g.2.1 v (outs arcs v arcs.length)[i]] ⟨e,hpF N arcs p to v most g++[.var (gA arcs (outs arcs v arcs.length)[i]).enc,.var (vX arcs g.2.1 v (outs arcs v arcs.length)[i])],bb⟩ Z:=by
 obtain ⟨sent,x1,d1⟩:=g
 have hfi:=hI.fi
 have hn0:=hI.n0
 simp only at hfi hn0 hr ⊢
 have hx1:=hfi.xb
 have hWx:=hW x1 hx1
 have hVV:=hWx.hV
 obtain ⟨hj,hend⟩:=w8 hi
 generalize hk:(outs arcs v arcs.length)[i]=k at *
 have hsrc:=Do hVV hj hend
 obtain ⟨w1,w2,w3⟩:=xR hVV (i:=wix arcs v k) (by rw [fK];exact hj)
 have hcb:=tV hVV (i:=wix arcs v k) (by rw [fK];exact hj)
 have hway:lJ arcs x1 v k=.agg [.i k,.i (wdst arcs (wix arcs v k):Nat),.i (cQ arcs x1 v k),.i (e9 arcs (wix arcs v k)),.b (decide (¬(gA arcs k).from_=v))]:=by
  have:=hVV.at hj
  unfold lJ cQ wdst e9
  rw [fK]
  unfold wix
  by_cases h:(gA arcs k).from_=v
  ·simp only [if_pos h]
   rw [if_pos (by omega),if_pos (by omega),show (((gA arcs k).to.toNat:Nat):Int)=(gA arcs k).to by omega,show decide (¬(gA arcs k).from_=v)=false from decide_eq_false (by simpa using h)]
  ·simp only [if_neg h]
   rw [if_neg (by omega),if_neg (by omega),show (((gA arcs k).from_.toNat:Nat):Int)=(gA arcs k).from_ by omega,show decide (¬(gA arcs k).from_=v)=true from decide_eq_true h]
 have hwc:cells? (lJ arcs x1 v k)=some (vX arcs x1 v k):=by unfold lJ vX;split<;>rfl
 have hwc2:vX arcs x1 v k=[.i k,.i (wdst arcs (wix arcs v k):Nat),.i (cQ arcs x1 v k),.i (e9 arcs (wix arcs v k)),.b (decide (¬(gA arcs k).from_=v))]:=by
  rw [hway] at hwc
  simpa [cells?] using hwc.symm
 rw [hway,hwc2]
 have hdlt:∀ n,dlt arcs v k n=if decide (¬(gA arcs k).from_=v)=true then -n else n:=by
  intro n
  unfold dlt
  by_cases h:(gA arcs k).from_=v
  ·rw [if_pos h,if_neg (by simpa using h)]
  ·rw [if_neg h,if_pos (by simpa using h)]
 have hcap:=hVV.at hj
 have hx1b:=hx1.hb k hj
 have hrmb:cQ arcs x1 v k≤1073741824:=by unfold cQ;split<;>omega
 have hdltr:∀ n,0≤n→n≤cQ arcs x1 v k→0≤x1.getD k 0+dlt arcs v k n∧x1.getD k 0+dlt arcs v k n≤1073741824:=by
  intro n h1 h2
  unfold cQ at h2
  unfold dlt
  split
  ·rename_i e;rw [if_pos e] at h2;omega
  ·rename_i e;rw [if_neg e] at h2;omega
 generalize hbk:decide (¬(gA arcs k).from_=v)=bk at *
 generalize hrm:cQ arcs x1 v k=rm at *
 have hKill:∀ M,bQ M (gA arcs k).enc=(gA arcs k).enc:=fun M=>rfl
 have hWf:∀ q,wfL q (gA arcs k).enc=True:=fun q=>eq_true abI
 generalize (gA arcs k).enc=encA at *
 have hcall:=Yd N arcs x1 p v (wdst arcs (wix arcs v k):Nat) (e9 arcs (wix arcs v k)) (.i k) (.i rm) (.b bk) hWx (by omega) (by omega) hcb
 have hrc:e9 arcs (wix arcs v k)+p.getD (v:Int).toNat 0-p.getD ((wdst arcs (wix arcs v k):Nat):Int).toNat 0=dH arcs (fun u=>p.getD u 0) (wix arcs v k):=by
  unfold dH
  rw [hsrc,yaa,yaa]
 rw [hrc] at hcall
 have hxl:=hx1.hl
 have hd1:d1.length=N:=hfi.dl.trans hdl
 have hst:=fun (hd:d1.getD (wdst arcs (wix arcs v k)) false=false) (hc:dH arcs (fun u=>p.getD u 0) (wix arcs v k)=0)=>hI.step hVV hvd hm.1 hi hk hd hc
 have hsk:=hI.skip hi
 rw [hk] at hsk
 rw [hrm] at hst
 generalize hcc:dH arcs (fun u=>p.getD u 0) (wix arcs v k)=c at *
 generalize hto2:wdst arcs (wix arcs v k)=u at *
 have hud:u<d1.length:=by omega
 have hdu:d1.getD u false=d1[u]:=Da hud
 refine Lg 17 rfl rfl rfl ?_
 unfold hpF h44 wB v7 c128a0
 simp -implicitDefEqProofs only [rX,↓rY,rZ,↓rW,aA,cells?,splice,↓reduceIte,Nat.reduceEqDiff,Nat.reduceAdd,aC,isC,cxN,l7]
 unfold c128r0
 simp -implicitDefEqProofs only [rX,↓rY,rZ,↓rW,aA,↓reduceIte,Nat.reduceEqDiff,cR,Nat.reduceAdd,reduceCtorEq,yac,uU,yaa]
 simp only [br,decide_eq_true_eq,decide_eq_false_iff_not]
 refine ⟨fun heq=>?_,fun hne=>?_⟩
 ·have heq':sent=most:=by simpa using heq
  refine hF e _ he ?_
  simp -implicitDefEqProofs only [rX,rZ,↓rW,aB,wfE,wfB,wfV,wfL,bY,hWf]
  exact hN _ _ ⟨(sent,x1,d1),[.var encA,.var [.i k,.i u,.i rm,.i (e9 arcs (wix arcs v k)),.b bk],.dead,.var [.i k,.i u,.i rm,.i (e9 arcs (wix arcs v k)),.b bk]],hI,heq',rfl,rfl⟩
 ·have hne':sent≠most:=by simpa using hne
  refine ⟨⟨by omega,by omega⟩,by omega,?_⟩
  refine ⟨fun hdead=>?_,fun hlive=>?_⟩
  ·exact hT e _ [.var encA,.var [.i k,.i u,.i rm,.i (e9 arcs (wix arcs v k)),.b bk],.dead,.var [.i k,.i u,.i rm,.i (e9 arcs (wix arcs v k)),.b bk]] he (hsk fun _ _ _=>by rw [hdu];exact hdead)
  ·refine cY [0,1,2,3] [.ptr 0 0 0,.i v,.agg [.i k,.i (u:Nat),.i rm,.i (e9 arcs (wix arcs v k)),.b bk]] (.i c) (.i c) (wH N arcs x1 p) (wH N arcs x1 p) _ hcall (by simp) (by simp [wH,wB,blk,bX,cI,ren,pos,cJ,hxl]) (by simp [aF,aG,aN,bD,wkL,wk,pos]) (by simp [wH]) rfl rfl (by simp [aD,aB,wH,wB,bM,bX]) ?_
   simp -implicitDefEqProofs only [rX,↓rY,rZ,↓rW,aA,↓reduceIte,Nat.reduceEqDiff,Nat.reduceAdd,wH,wB,bM,bX,cI,ren,cJ,back,hxl]
   simp only [br,decide_eq_true_eq,decide_eq_false_iff_not]
   refine ⟨fun hc=>hT e _ [.var encA,.var [.i k,.i u,.i rm,.i (e9 arcs (wix arcs v k)),.b bk],.dead,.var [.i k,.i u,.i rm,.i (e9 arcs (wix arcs v k)),.b bk]] he (hsk fun _ _ h0=>absurd h0 (by simpa using hc)),fun hc=>⟨by simp only [lo,Fx.hi];omega,?_⟩⟩
   have hc0:c=0:=by simpa using hc
   have hstep:=@hst (by rw [hdu];exact hlive) hc0 hr hne'
   have hm1:0<min rm (most-sent)∧min rm (most-sent)≤rm∧min rm (most-sent)≤most-sent:=⟨Int.lt_min.2 ⟨hr,by omega⟩,yaR _ _,yay _ _⟩
   generalize min rm (most-sent)=m1 at *
   refine fC (FQ arcs x1 (fun u=>p.getD u 0) to d1 u m1) [0,1,2,3,4,5,6,7,8] [] [] [.i u,.i m1,.ptr 5 0 0,.ptr 7 0 0,.ptr 4 0 0,.ptr 8 0 0] (fun g=>.i g.1) (h44 N arcs p to x1 d1) (fun g=>h44 N arcs p to g.2.1 g.2.2)
    (IH x1 d1 u m1 (cnt_lt (hdl.trans hd1.symm) hfi.mono (by omega) hvd hI.nd) hx1 hd1 w2 (by rw [hdu];exact hlive) (by omega)) (by simp) (by simp) (by simp [h44,wB,blk,bX,cI,ren,pos,cJ]) (by simp [aF,aG,aN,bD,wkL,wk,pos]) fun g hg=>⟨by simp [aD,aB,h44,wB,bM,bX,bE],?_⟩
   obtain ⟨n,x2,d2⟩:=g
   have hN3:=hstep hg
   have hqi:=hg.fi
   have hn:=hg.n0
   simp only at hqi hn
   have hk2:x2.getD k 0=x1.getD k 0:=hqi.kept k hj (by
    have:d1.getD v false=true:=hI.nd
    rcases hend with e|e
    ·left;rw [e];exact this
    ·right;rw [e];exact this)
   have hkl:k<x2.length:=by rw [hqi.xb.hl];exact hj
   have hx2e:x2.getD k 0=x2[k]:=bV hkl
   have hdr:=hdltr n hn.1 (by omega)
   rw [←hk2,hx2e,hdlt] at hdr
   rw [hx2e,hdlt] at hN3
   have hmax:max n (-n)=n:=Int.max_eq_left (by omega)
   have hmax2:max (-n) n=n:=Int.max_eq_right (by omega)
   simp -implicitDefEqProofs only [rX,↓rY,rZ,↓rW,rdK,cells?,splice,↓reduceIte,Nat.reduceEqDiff,cR,Nat.reduceAdd,bO,bE,kill,bQ,St.kill,isD,isC,yac,bW,yaa,fG,h44,wB,bM,bX,cI,ren,back,cJ,fW,hKill]
   have hw1:IntKind.wrap .i64 (-n)=-n:=dF .i64 _ (by simp only [lo,Fx.hi];omega)
   have hw2:IntKind.wrap .i64 (- -n)=n:=by rw [Int.neg_neg];exact dF .i64 _ (by simp only [lo,Fx.hi];omega)
   have hZ:=hT (bO [] e) _ [.var encA,.var [.i k,.i u,.i rm,.i (e9 arcs (wix arcs v k)),.b bk],.dead,.var [.i k,.i u,.i rm,.i (e9 arcs (wix arcs v k)),.b bk]] (Nr (by simp) (by simp) (by simp) he) hN3
   unfold hpF h44 wB v7 at hZ
   cases bk
   ·simp -implicitDefEqProofs only [↓rY,hw1,hmax,mS]
    simp only [if_neg (show ¬(false=true) by decide)] at hZ hdr
    exact ⟨⟨by omega,by omega⟩,by omega,by simp only [lo,Fx.hi];omega,⟨by omega,by omega⟩,by omega,by simp only [lo,Fx.hi];omega,hZ⟩
   ·simp -implicitDefEqProofs only [↓rY,hw1,hw2,hmax2,mS]
    simp only [if_pos] at hZ hdr
    exact ⟨⟨by omega,by omega⟩,by omega,by simp only [lo,Fx.hi];omega,⟨by omega,by omega⟩,by omega,by simp only [lo,Fx.hi];omega,hZ⟩
end
end Go.Fx.P.K
namespace Go.Fx.P.K
open Go Go.Fx Go.Fx.E Go.Proofs
set_option maxRecDepth 20000
section
variable {N:Nat} {arcs:List Arc} {p:List Int} {to:Nat}
theorem Tn {l:List Bool} {k:Nat} {b:Bool}:(l.map v6).set k [.b b]=(l.set k b).map v6:=by
 rw [List.map_set];rfl
def hpE (N:Nat) (arcs:List Arc) (p:List Int) (to v:Nat) (most:Int) (g:Int × List Int × List Bool) (tl:List Blk):List Blk :=
 h44 N arcs p to g.2.1 g.2.2++[.var [.i v],.var [.i most],.var [.i g.1],.var [.ptr 0 0 0],.var [.i v],.dead]++tl
theorem acX (hV:Val N arcs) (hW:∀ x,XB arcs x→WOk N arcs x p) (hto:to<N) {x:List Int} {d:List Bool} {v:Nat} {most:Int} {Q:Int × List Int × List Bool→Prop} (hx:XB arcs x) (hdl:d.length=N) (hv:v<N) (hvt:v≠to) (hvd:d.getD v false=false) (hm:0<most∧most≤4611686018427387904)
  (IH:∀ (x1:List Int) (d1:List Bool) (v1:Nat) (m1:Int),d1.count false<d.count false→XB arcs x1→d1.length=N→v1<N→d1.getD v1 false=false→0≤m1∧m1≤4611686018427387904→Uj N arcs p to x1 d1 v1 m1)
  {NX RX:St→Prop} {XX:Nat→St→Prop} (hX:∀ s,NX s→XX 0 s) (hQ:Q=FQ arcs x (fun u=>p.getD u 0) to d v most)
  (hfin:∀ (g:Int × List Int × List Bool) tl,Q (g.1,g.2.1,g.2.2.set v (decide (g.1<most)))→g.2.2.length=N→NX ⟨v7,hpE N arcs p to v most g tl,0⟩) :
  I0 Tryz.prog 146 [.itr 14,.ptr 12 0 0,.ptr 13 0 0] [14,0,1,2,3,4,5,6,7,8] 14 (yR (cxN Tryz.prog [0,1,2,3,4,5,6,7,8]) [26] c128a0 c128r0 14) (hpF N arcs p to v most (0,x,d.set v true)) (tF 14 NX XX RX):=by
 subst hQ
 have hvl:v<d.length:=by omega
 refine Yp (Inv:=fun i (g:G44 arcs)=>FN N arcs x (fun u=>p.getD u 0) to d v most i g.1) (afI (p:=p) (to:=to) (most:=most) hV hv) ?_ ?_ ?_ ⟨(0,x,d.set v true),hx⟩ (FN.start hx (Int.le_of_lt hm.1) hvl)
 ·rintro i ⟨⟨s,x1,d1⟩,hg⟩ hi hI hr
  refine hI.skip hi fun h0 h1=>?_
  obtain ⟨z1,_⟩:=hI.zero h0
  simp only at z1 hr
  subst z1
  omega
 ·rintro i ⟨g,hg⟩ hi hI hr e bb Z he hT hF
  refine acY hW hvd hdl hto hm hv hi IH hI hr he ?_ ?_ hF
  ·rintro e' h' ⟨g',tl,h1,h2,rfl,rfl⟩
   refine hX _ (hfin g' tl (h1.done hV hvl hvt hvd hm.1 (.inr h2)) (h1.fi.dl.trans hdl))
  ·intro e' g' tl he' hI'
   exact hT e' ⟨g',hI'.fi.xb⟩ tl he' hI'
 ·rintro ⟨g,hg⟩ hI
  have:=hfin g [] (hI.done hV hvl hvt hvd hm.1 (.inl rfl)) (hI.fi.dl.trans hdl)
  obtain ⟨s,x1,d1⟩:=g
  unfold hpF h44 wB v7
  unfold hpE h44 wB v7 at this
  simp -implicitDefEqProofs only [rX,rZ,↓rW,aB,wfE,wfB,wfV,wfL,bY] at this ⊢
  exact this
theorem Yc (hV:Val N arcs) (hW:∀ x,XB arcs x→WOk N arcs x p) (hto:to<N):∀ (c:Nat) (x:List Int) (d:List Bool) (v:Nat) (most:Int),d.count false<c→XB arcs x→d.length=N→v<N→d.getD v false=false→0≤most∧most≤4611686018427387904→Uj N arcs p to x d v most
 | 0,_,d,_,_,hc,_,_,_,_,_=>by omega
 | c+1,x,d,v,most,hc,hx,hdl,hv,hvd,hm=>by
  have IH:=Yc hV hW hto c
  have hxl:=hx.hl
  have hWx:=hW x hx
  have hvl:v<d.length:=by omega
  have hN:=hWx.hN
  unfold Uj
  have hbase:=FQ.base (p:=fun u=>p.getD u 0) (to:=to) (d:=d) (v:=v) hx hm.1
  generalize hQ:FQ arcs x (fun u=>p.getD u 0) to d v most=Q at *
  refine eR pol [0,1,2,3,4,5,6,7,8] lw128 (by simp) ⟨trivial,trivial,trivial,trivial,trivial,trivial,trivial,trivial,trivial,trivial⟩ (by simp [h44];omega) ?_
  unfold c128 h44 wB
  simp -implicitDefEqProofs only [rX,↓rY,aA,cells?,splice,↓reduceIte,Nat.reduceEqDiff,cR,Nat.reduceAdd,reduceCtorEq,aC,isD,isC,yac,yaa,i6,cxN,aK]
  simp only [br]
  refine ⟨fun h1=>?_,fun h1=>⟨fun h2=>?_,fun h2=>?_⟩⟩
  ·refine dT _ (hbase (.inl (Int.ofNat.inj (by simpa using h1)))) ?_
   simp -implicitDefEqProofs only [rX,↓reduceIte,Nat.reduceAdd,aL,aM,leH,leB,leV,aZ,aD,aB,wfB,wfV,wfL,bY]
  ·refine dT _ (hbase (.inr (by simpa using h2))) ?_
   simp -implicitDefEqProofs only [rX,↓reduceIte,Nat.reduceAdd,aL,aM,leH,leB,leV,aZ,aD,aB,wfB,wfV,wfL,bY]
  have hvt:v≠to:=by
   have:¬((v:Int)=to):=by simpa using h1
   omega
  have hm0:0<most:=by
   have:¬most=0:=by simpa using h2
   omega
  refine ⟨⟨by omega,by omega⟩,by omega,?_⟩
  refine cY [0,1,2,3] [.ptr 0 0 0,.i v] (.clo 146 [.ptr 4 0 0,.ptr 5 0 0]) (.clo 146 [.ptr 12 0 0,.ptr 13 0 0]) (wH N arcs x p) (wH N arcs x p++[Blk.var [V.ptr 0 0 0],Blk.var [V.i v]]) (h44 N arcs p to x (d.set v true)++[Blk.var [V.i v],Blk.var [V.i most],Blk.var [V.i 0],Blk.var [V.ptr 0 0 0],Blk.var [V.i v]]) (Ye N arcs x p v) (by simp) (by simp [wH,wB,blk,bX,cI,ren,pos,cJ,hxl]) (by simp [aF,aG,aN,bD,wkL,wk,pos]) (by simp [wH]) (by simp [h44,wH,wB,bM,bX,cI,ren,cJ,back,hxl,v6]) (by simp [ren,cI,back]) (by simp [aD,aB,h44,wB]) ?_
  unfold h44 wB
  simp -implicitDefEqProofs only [rX]
  refine Ec 14 rfl rfl trivial ?_
  refine Ul (h':=hpF N arcs p to v most (0,x,d.set v true)) ?_ ?_ ?_ ?_ (acX hV hW hto hx hdl hv hvt hvd ⟨hm0,hm.2⟩ (fun x1 d1 v1 m1 hlt=>IH x1 d1 v1 m1 (by omega)) ?_ hQ.symm ?_)
  ·unfold hpF h44 wB v7
   simp -implicitDefEqProofs only [rX,↓reduceIte,Nat.reduceEqDiff,reduceCtorEq,leE,leH,leB,leV,aZ,or_true]
  ·simp [aD,aB,hpF,h44,wB]
  ·unfold hpF h44 wB v7
   simp -implicitDefEqProofs only [rX,aB,wfE,wfB,wfV,wfL,bY]
  ·unfold hpF h44 wB v7
   simp -implicitDefEqProofs only [rX,aB,wfV,wfL]
  ·intro s hs
   exact hs
  ·rintro ⟨s,x1,d1⟩ tl hq hl
   simp only at hl
   unfold hpE h44 wB v7
   simp -implicitDefEqProofs only [rX,↓rY,cells?,splice,↓reduceIte,Nat.reduceEqDiff,cR,isD,isC,yac,yaa,i6,hl]
   refine ⟨⟨by omega,by omega⟩,hv,dT _ hq ?_⟩
   simp -implicitDefEqProofs only [rX,↓reduceIte,Nat.reduceAdd,aL,aM,leH,leB,leV,aZ,aD,aB,wfB,wfV,wfL,bY,Tn]
end
end Go.Fx.P.K
namespace Go.Fx.P.K
open Go Go.Fx Go.Fx.E Go.Proofs
set_option maxRecDepth 20000
section
variable {N:Nat} {arcs:List Arc} {p:List Int} {to:Nat}
theorem aiS (hV:Val N arcs) (hW:∀ x,XB arcs x→WOk N arcs x p) (hto:to<N) (x:List Int) (v:Nat) (most:Int) (hx:XB arcs x) (hv:v<N) (hm:0≤most∧most≤4611686018427387904) :
  OkN Tryz.prog 92 [.ptr 0 0 0,.i v,.i to,.i most] (wH N arcs x p) [] (IsQ (FQ arcs x (fun u=>p.getD u 0) to (yab N false) v most) (fun g=>.i g.1) (fun g=>wH N arcs g.2.1 p)):=by
 have hWx:=hW x hx
 have hN:=hWx.hN
 have hxl:=hx.hl
 have hfree:(yab N false).getD v false=false:=by rw [Da (by simpa using hv)];simp
 have hcall:=Yc hV hW hto (N+1) x (yab N false) v most (by simp) hx (by simp) hv hfree hm
 unfold Uj at hcall
 generalize hQ:FQ arcs x (fun u=>p.getD u 0) to (yab N false) v most=Q at *
 refine eR pol [0,1,2,3] lw92 (by simp) ⟨trivial,trivial,trivial,trivial,trivial⟩ (by simp [wH];omega) ?_
 unfold c92 wH wB
 simp -implicitDefEqProofs only [rX,↓rY,aA,cells?,splice,↓reduceIte,Nat.reduceEqDiff,Nat.reduceAdd,reduceCtorEq,aC,isC,yaa,cxN,aK]
 refine ⟨⟨⟨by omega,by omega⟩,by omega,by omega⟩,?_⟩
 refine fC Q [0,1,2,3,4,5,6,7,8] [] [] [.i v,.i most,.ptr 5 0 0,.ptr 7 0 0,.ptr 4 0 0,.ptr 8 0 0] (fun g=>.i g.1) (h44 N arcs p to x (yab N false)) (fun g=>h44 N arcs p to g.2.1 g.2.2) hcall (by simp) (by simp) (by simp [h44,wB,blk,bX,cI,ren,pos,cJ,hxl,v6]) (by simp [aF,aG,aN,bD,wkL,wk,pos]) fun g hg=>⟨by simp [aD,aB,h44,wB,bM,bX,bE],?_⟩
 obtain ⟨n,x2,d2⟩:=g
 have hx2:x2.length=arcs.length:=by
  rw [←hQ] at hg
  exact hg.fi.xb.hl
 simp -implicitDefEqProofs only [rX,↓reduceIte,Nat.reduceAdd,bO,bE,kill,bQ,St.kill,h44,wB,bM,bX,cI,ren,back,cJ,fW]
 refine dT _ hg ?_
 simp -implicitDefEqProofs only [rX,↓reduceIte,Nat.reduceAdd,aL,aM,leH,leB,leV,aZ,aD,aB,wfB,wfV,wfL,bY,hx2]
end
end Go.Fx.P.K
namespace Go.Fx.P.K
open Go Go.Fx Go.Fx.E Go.Proofs
set_option maxRecDepth 20000
section
variable {N:Nat} {arcs:List Arc} {p x:List Int}
theorem aeJ (hW:WOk N arcs x p) (hx:XB arcs x):OkN Tryz.prog 127 [.ptr 0 0 0] (wH N arcs x p) [] (IsA (.i (dI arcs x arcs.length)) (wH N arcs x p)):=by
 have hV:=hW.hV
 have hN:=hW.hN
 have hxl:=hW.hx
 have hal:=hV.hl
 refine eR pol [0,1,2,3] lw127 (by simp) ⟨trivial,trivial,trivial,trivial,trivial⟩ (by simp [wH];omega) ?_
 unfold c127 wH wB
 simp -implicitDefEqProofs only [rX,↓rY,aA,↓reduceIte,Nat.reduceAdd,reduceCtorEq,cxN,aK]
 intro hm
 have hf:∀ y∈x,0≤y∧y≤1073741824:=fun y hy=>by
  obtain ⟨i,hi,rfl⟩:=yao hy
  rw [←bV hi]
  exact hx.bd hV i
 have ha:∀ a∈arcs,0≤a.cost∧a.cost≤1048576:=fun a h=>(hV.ha a h).2.2.2.2
 refine aT (fun k:Nat=>(⟨[(12,.i k),(11,.i arcs.length),(10,.ro 4 (arcs.map Arc.enc)),(3,.i (dI arcs x k)),(0,.ptr 0 0 0)],[.var [.i N,.ro 4 (arcs.map Arc.enc),.sl 1 0 x.length,.sl 2 0 N,.sl 3 0 N],.arr 1 (x.map encI),.arv 1 (iN arcs N),.arr 1 (p.map encI)],0⟩:St)) (fun k=>k≤arcs.length) (fun k=>arcs.length-k) 0 (yaw _) ?_ fun k hk=>?_
 ·simp -implicitDefEqProofs only [rX,↓reduceIte,Nat.reduceEqDiff,reduceCtorEq,leE,leH,leB,leV,aZ,aD,aB,wfE,wfB,wfV,wfL,bY,dI,yae]
 ·rcases yau k arcs.length with h|h
  ·have hd:decide ((k:Int)<arcs.length)=true:=decide_eq_true (by omega)
   simp -implicitDefEqProofs only [rX,↓rY,aA,cells?,splice,↓reduceIte,Nat.reduceEqDiff,cR,Nat.reduceAdd,reduceCtorEq,aC,leE,leH,leB,leV,aZ,aD,aB,wfE,wfB,wfV,wfL,yac,enc_len,eE,p6,e7,bW,yaa,hd]
   have hk2:k<x.length:=by omega
   have hfk:=hf x[k] (yag hk2)
   have hak:=ha arcs[k] (yag h)
   have hvb:=oN arcs x hf ha k
   have hst:=rG h hk2
   have hmb:=Hd hfk hak
   rw [Int.mul_comm] at hst hmb
   refine ⟨⟨by omega,by omega⟩,h,⟨by omega,by omega⟩,hk2,by simp only [lo,hi];omega,by simp only [lo,hi];omega,by simp only [lo,hi];omega,k+1,⟨by omega,by omega⟩,?_⟩
   simp -implicitDefEqProofs only [rX,bY,hst]
   trivial
  ·have hd:decide ((k:Int)<arcs.length)=false:=decide_eq_false (by omega)
   have:k=arcs.length:=by omega
   subst this
   simp -implicitDefEqProofs only [rX,↓rY,↓reduceIte,Nat.reduceEqDiff,Nat.reduceAdd,aL,aM,leH,leB,leV,aZ,aD,aB,wfB,wfV,wfL,hd,cA,bY]
end
end Go.Fx.P.K
namespace Go.Fx.P.K
open Go Go.Fx Go.Fx.E Go.Proofs
structure SI (N:Nat) (arcs:List Arc) (f t:Nat) (am:Int) (x p:List Int) (sent:Int):Prop where
 xb:XB arcs x
 val:∀ w:Nat,valTo arcs w x arcs.length=vd f sent w-vd t sent w
 nn:NN arcs x fun u=>p.getD u 0
 pl:p.length=N
 p0:p.getD f 0=0
 pb:∀ j,0≤p.getD j 0∧p.getD j 0≤p.getD t 0
 pt:p.getD t 0≤((N:Int)-1)*1048576
 s0:0≤sent∧sent≤am
def Reach (arcs:List Arc) (x p:List Int) (f t:Nat):Prop:=∀ S:Nat→Prop,S f→(∀ i,sF arcs x i→dH arcs (fun u=>p.getD u 0) i=0→S (wsrc arcs i)→S (wdst arcs i))→S t
section
variable {N:Nat} {arcs:List Arc} {f t:Nat} {am sent:Int} {x p:List Int}
theorem SI.pmax (hN:1≤N∧N≤64) (h:SI N arcs f t am x p sent) (j:Nat):0≤p.getD j 0∧p.getD j 0≤1073741824:=by
 have h1:=h.pb j
 have h2:=h.pt
 have:((N:Int)-1)*1048576≤63*1048576:=yaI (by omega) (by omega)
 omega
theorem SI.wok (hV:Val N arcs) (hN:N≤64) (h:SI N arcs f t am x p sent) (y:List Int) (hy:XB arcs y):WOk N arcs y p :=
 ⟨hV,hN,hy.hl,h.pl,h.pmax ⟨hV.hn.1,hN⟩⟩
theorem Ts (hV:Val N arcs) {hs:f<N} {hn:NN arcs x fun u=>p.getD u 0}:∀ {v:Nat} {r:List Nat},Lb.PR (grD N arcs x (fun u=>p.getD u 0) f hV hs hn) v r→Lb.cs (grD N arcs x (fun u=>p.getD u 0) f hV hs hn) r+p.getD v 0≤(r.length:Int)*1048576+p.getD f 0
 | v,[],h=>by
  rw [show v=f from h]
  simp [Lb.cs]
 | v,i::r,h=>by
  have ih:=Ts hV h.2.2
  have hi:sF arcs x i:=h.1
  have hd:wdst arcs i=v:=h.2.1
  have hc:=tV hV hi.1
  have e:Lb.cs (grD N arcs x (fun u=>p.getD u 0) f hV hs hn) (i::r)=dH arcs (fun u=>p.getD u 0) i+Lb.cs (grD N arcs x (fun u=>p.getD u 0) f hV hs hn) r:=rfl
  have ihs:Lb.cs (grD N arcs x (fun u=>p.getD u 0) f hV hs hn) r+p.getD (wsrc arcs i) 0≤(r.length:Int)*1048576+p.getD f 0:=ih
  rw [e]
  unfold dH
  rw [hd,List.length_cons,yaG,yaH]
  simp only [Int.natCast_one,Int.one_mul]
  omega
theorem SI.price (hV:Val N arcs) (hf:f<N) (ht:t<N) (h:SI N arcs f t am x p sent) {D:List Int} (hD:Bn N (grD N arcs x (fun u=>p.getD u 0) f hV hf h.nn) D) (hN:N≤64) (hdt:D.getD t 0≠far) {p':List Int} (hl:p'.length=N) (hp:∀ k,k<N→p'.getD k 0=p.getD k 0+min (D.getD k 0) (D.getD t 0)) :
  SI N arcs f t am x p' sent∧Reach arcs x p' f t:=by
 have hb:∀ u,u<N→0≤D.getD u 0∧(D.getD u 0=far∨D.getD u 0≤KB):=fun u hu=>Ag hN (fun j=>h.pmax ⟨hV.hn.1,hN⟩ j) hD.lab hu
 have hKB:KB<far:=by decide
 have hDf:D.getD f 0=0:=hD.lab.h0
 have hbt:=hb t ht
 have hcl:∀ i,sF arcs x i→D.getD (wsrc arcs i) 0<far→D.getD (wdst arcs i) 0≤D.getD (wsrc arcs i) 0+dH arcs (fun u=>p.getD u 0) i:=fun i hi hlt=>hD.cl i hi hlt
 have hr':∀ i,sF arcs x i→dH arcs (fun u=>p'.getD u 0) i=dH arcs (fun u=>p.getD u 0) i+min (D.getD (wsrc arcs i) 0) (D.getD t 0)-min (D.getD (wdst arcs i) 0) (D.getD t 0):=by
  intro i hi
  obtain ⟨w1,w2,_⟩:=xR hV hi.1
  unfold dH
  simp only
  rw [hp _ w1,hp _ w2]
  omega
 have hout:∀ j,¬j<N→p'.getD j 0=0∧p.getD j 0=0:=by
  intro j hj
  have h1:=h.pl
  rw [yad,yad,yaC (by omega),yaC (by omega)]
  exact ⟨rfl,rfl⟩
 obtain ⟨r,hW⟩:∃ r,Lb.Wp (grD N arcs x (fun u=>p.getD u 0) f hV hf h.nn) (fun u=>D.getD u 0) t r:=by
  rcases hD.lab.hw t ht with he|⟨_,h⟩
  ·exact absurd he hdt
  ·exact h
 have hpt':=hp t ht
 rw [Int.min_self] at hpt'
 refine ⟨⟨h.xb,h.val,fun i hi=>?_,hl,?_,fun j=>?_,?_,h.s0⟩,?_⟩
 ·rw [hr' i hi]
  have h1:=h.nn i hi
  have hm1:=yay (D.getD (wdst arcs i) 0) (D.getD t 0)
  have hm2:=yaR (D.getD (wdst arcs i) 0) (D.getD t 0)
  rcases Int.le_total (D.getD t 0) (D.getD (wsrc arcs i) 0) with h2|h2
  ·rw [Int.min_eq_right h2];omega
  ·rw [yaK h2]
   have:=hcl i hi (by rcases hbt.2 with e|e<;>omega)
   omega
 ·rw [hp f hf,h.p0,hDf,yaK hbt.1];rfl
 ·by_cases hj:j<N
  ·rw [hp j hj,hpt']
   have h1:=h.pb j
   have h2:=hb j hj
   have hm1:=yay (D.getD j 0) (D.getD t 0)
   have hm2:0≤min (D.getD j 0) (D.getD t 0):=Int.le_min.2 ⟨h2.1,hbt.1⟩
   omega
  ·rw [(hout j hj).1,hpt']
   have:=h.pb t
   omega
 ·rw [hpt']
  have h1:=Ts hV hW.pr
  have h2:=hW.len
  rw [hW.co,h.p0] at h1
  have h3:r.length<N:=h2
  have h4:(r.length:Int)*1048576≤((N:Int)-1)*1048576:=yaI (by omega) (by omega)
  have h1':D.getD t 0+p.getD t 0≤(r.length:Int)*1048576+0:=h1
  omega
 ·intro S hS hstep
  have hCl:Lb.Cl (grD N arcs x (fun u=>p.getD u 0) f hV hf h.nn) far (fun u=>D.getD u 0):=fun i hi hlt=>hcl i hi hlt
  have hfin:∀ i,(grD N arcs x (fun u=>p.getD u 0) f hV hf h.nn).res i→D.getD (wsrc arcs i) 0<far→D.getD (wdst arcs i) 0<far:=by
   intro i hi hlt
   have hi':sF arcs x i:=hi
   obtain ⟨w1,w2,_⟩:=xR hV hi'.1
   have h1:=hcl i hi' hlt
   have h2:=hb _ w1
   have h3:=tV hV hi'.1
   have h4:=h.pmax ⟨hV.hn.1,hN⟩ (wsrc arcs i)
   have h5:=h.pmax ⟨hV.hn.1,hN⟩ (wdst arcs i)
   unfold dH at h1
   simp only at h1
   have:KB+1048576+1073741824<far:=by decide
   rcases h2.2 with e|e<;>omega
  have hti:=Lb.Gb hDf (by decide:(0:Int)<far) hCl hfin hW.pr hW.co
  have key:∀ (v:Nat) (r:List Nat),Lb.PR (grD N arcs x (fun u=>p.getD u 0) f hV hf h.nn) v r→Lb.Tight (grD N arcs x (fun u=>p.getD u 0) f hV hf h.nn) (fun u=>D.getD u 0) v r→D.getD v 0≤D.getD t 0→S v:=by
   intro v r
   induction r generalizing v with
   | nil=>intro h1 _ _;rw [show v=f from h1];exact hS
   | cons i r ih =>
    intro h1 h2 h3
    have hi:sF arcs x i:=h1.1
    have hd:wdst arcs i=v:=h1.2.1
    have ht1:D.getD (wdst arcs i) 0=D.getD (wsrc arcs i) 0+dH arcs (fun u=>p.getD u 0) i:=h2.1
    have h0:=h.nn i hi
    rw [←hd] at h3 ⊢
    refine hstep i hi ?_ (ih (wsrc arcs i) h1.2.2 h2.2 (by omega))
    rw [hr' i hi,yaK h3,yaK (by omega)]
    omega
  exact key t r hW.pr hti (yaf _)
theorem SI.fill (h:SI N arcs f t am x p sent) (hf:f<N) {n:Int} {x':List Int} {d':List Bool} (hq:FQ arcs x (fun u=>p.getD u 0) t (yab N false) f (am-sent) (n,x',d')) :
  SI N arcs f t am x' p (sent+n)∧0≤n∧(Reach arcs x p f t→sent<am→0<n):=by
 have hfi:=hq.fi
 have hn:=hq.n0
 simp only at hfi hn
 have hs:=h.s0
 refine ⟨⟨hfi.xb,fun w=>?_,fun i hi=>?_,h.pl,h.p0,h.pb,h.pt,by omega⟩,hn.1,fun hR hlt=>?_⟩
 ·rw [hfi.val,h.val,Dr,Dr];omega
 ·by_cases e:x'.getD (i/2) 0=x.getD (i/2) 0
  ·refine h.nn i ⟨hi.1,?_⟩
   have:=hi.2
   unfold wrm at this ⊢
   rw [e] at this
   exact this
  ·have h0:=hfi.tig (i/2) hi.1 e
   by_cases e2:i%2=0
   ·rw [show 2*(i/2)=i by omega] at h0
    omega
   ·have h1:=Rb (arcs:=arcs) (p:=fun u=>p.getD u 0) (k:=i/2)
    rw [show 2*(i/2)+1=i by omega] at h1
    omega
 ·apply Classical.byContradiction
  intro hz
  have h0:n=0:=by omega
  obtain ⟨z1,z2,z3⟩:=hq.zero h0 (by omega)
  simp only at z1 z2 z3
  have hfr:∀ u,(yab N false).getD u false=false:=by
   intro u
   rw [yad,yaE]
   split<;>rfl
  have:d'.getD t false=true:=hR (fun u=>d'.getD u false=true) z2 fun i hi hc hu=>(z3 _ hu (hfr _)).2 i hi rfl hc
  exact (z3 t this (hfr t)).1 rfl
def fH (D:List Int):Nat→List Int
 | 0=>[]
 | k+1=>if D.getD k 0<far then fH D k++[(k:Int)] else fH D k
theorem pA {D:List Int} {v:Int}:∀ {k:Nat},v∈fH D k↔(0≤v∧v<k)∧D.getD v.toNat 0<far
 | 0=>by
  simp only [fH,List.not_mem_nil,false_iff]
  omega
 | k+1=>by
  have ih:=pA (D:=D) (v:=v) (k:=k)
  unfold fH
  by_cases e:v=k
  ·subst e
   rw [yaa] at ih ⊢
   split
   ·rename_i h
    rw [yaz,yar]
    exact ⟨fun _=>⟨by omega,h⟩,fun _=>.inr rfl⟩
   ·rename_i h
    rw [ih]
    exact ⟨fun h2=>absurd h2.2 h,fun h2=>absurd h2.2 h⟩
  ·split
   ·rw [yaz,ih,yar]
    constructor
    ·rintro (h1|h1)
     ·exact ⟨⟨h1.1.1,by omega⟩,h1.2⟩
     ·exact absurd h1 e
    ·intro h1
     exact .inl ⟨⟨h1.1.1,by omega⟩,h1.2⟩
   ·rw [ih]
    constructor
    ·intro h1
     exact ⟨⟨h1.1.1,by omega⟩,h1.2⟩
    ·intro h1
     exact ⟨⟨h1.1.1,by omega⟩,h1.2⟩
theorem Ie {D:List Int}:∀ {k:Nat},(fH D k).length≤k
 | 0=>by simp [fH]
 | k+1=>by
  have:=Ie (D:=D) (k:=k)
  unfold fH
  split<;>simp<;>omega
theorem Nb {D:List Int} {n:Int}:∀ {k:Nat},(k:Int)≤n→OkS n (fH D k) (fH D k).length
 | 0,_=>⟨fun j h=>by simp [fH] at h⟩
 | k+1,hk=>by
  have ih:=Nb (D:=D) (n:=n) (k:=k) (by omega)
  have hm:=fun v=>pA (D:=D) (v:=v) (k:=k)
  unfold fH
  split
  ·refine ⟨fun j hj _=>?_⟩
   rw [yaT,yaU] at hj
   by_cases e:j<(fH D k).length
   ·rw [yaV e]
    have:=ih.h j e e
    refine ⟨this.1,fun h0=>?_⟩
    have h2:=this.2 h0
    rw [bV (by omega)] at h2
    rw [bV (by rw [yaT,yaU];omega),yaV (by omega)]
    exact h2
   ·have ej:j=(fH D k).length:=by omega
    subst ej
    rw [List.getElem_append_right (yas _)]
    simp only [Nat.sub_self,List.getElem_singleton]
    refine ⟨by omega,fun h0=>?_⟩
    rw [bV (by rw [yaT,yaU];omega),yaV (by omega)]
    have:=((hm _).1 (yag (l:=fH D k) (n:=(fH D k).length-1) (by omega))).1
    omega
  ·exact ih
theorem SI.okF (hf:f<N) (ht:t<N) (h:SI N arcs f t am x p sent):OkF N arcs f t x:=by
 refine ⟨h.xb.hl,fun i h1 h2=>?_,fun j h1 h2 h3 h4=>?_⟩
 ·have:=h.xb.hb i h2
  rw [o5 h2,bV h1] at this
  exact this
 ·have:=h.val j.toNat
  rw [yan h1] at this
  rw [this]
  unfold vd
  rw [if_neg (by omega),if_neg (by omega)];rfl
theorem SI.okP (hV:Val N arcs) (hN:N≤64) (h:SI N arcs f t am x p sent):OkP N arcs f x p:=by
 have hs:=Ru.1 h.nn
 refine ⟨h.pl,by rw [yaa];exact h.p0,fun j hj=>?_,fun k hk=>?_⟩
 ·rw [←bV hj];exact h.pmax ⟨hV.hn.1,hN⟩ j
 ·have:=hs k hk
  rw [o5 hk] at this
  exact this
theorem SI.okv (hft:f≠t) (h:SI N arcs f t am x p sent):valTo arcs f x arcs.length=sent:=by
 rw [h.val]
 unfold vd
 rw [if_pos rfl,if_neg hft];omega
theorem SI.all (hV:Val N arcs) (hN:N≤64) (hf:f<N) (ht:t<N) (hft:f≠t) (h:SI N arcs f t am x p sent) (he:sent=am):OkAc N arcs f t am ⟨sent,dI arcs x arcs.length,x,p,[]⟩ :=
 ⟨h.okF hf ht,h.s0,h.okv hft,rfl,h.okP hV hN,by simp only;rw [if_pos he];trivial⟩
theorem SI.cut (hV:Val N arcs) (hN:N≤64) (hf:f<N) (ht:t<N) (hft:f≠t) (h:SI N arcs f t am x p sent) (he:sent<am) {D:List Int} (hD:Bn N (grD N arcs x (fun u=>p.getD u 0) f hV hf h.nn) D) (hdt:D.getD t 0=far):OkAc N arcs f t am ⟨sent,dI arcs x arcs.length,x,p,fH D N⟩:=by
 have hKB:KB<far:=by decide
 have hb:∀ u,u<N→0≤D.getD u 0∧(D.getD u 0=far∨D.getD u 0≤KB):=fun u hu=>Ag hN (fun j=>h.pmax ⟨hV.hn.1,hN⟩ j) hD.lab hu
 have hDf:D.getD f 0=0:=hD.lab.h0
 have hcl:∀ i,sF arcs x i→D.getD (wsrc arcs i) 0<far→D.getD (wdst arcs i) 0<far:=by
  intro i hi hlt
  obtain ⟨w1,w2,_⟩:=xR hV hi.1
  have h1:D.getD (wdst arcs i) 0≤D.getD (wsrc arcs i) 0+dH arcs (fun u=>p.getD u 0) i:=hD.cl i hi hlt
  have h2:=hb _ w1
  have h3:=tV hV hi.1
  have h4:=h.pmax ⟨hV.hn.1,hN⟩ (wsrc arcs i)
  have h5:=h.pmax ⟨hV.hn.1,hN⟩ (wdst arcs i)
  unfold dH at h1
  simp only at h1
  have:KB+1048576+1073741824<far:=by decide
  rcases h2.2 with e|e<;>omega
 have hh:∀ v:Int,hasB (fH D N) v=true↔((0≤v∧v<N)∧D.getD v.toNat 0<far):=by
  intro v
  unfold hasB
  rw [decide_eq_true_eq,pA]
 have hfalse:∀ v:Int,0≤v∧v<N→hasB (fH D N) v=false→¬D.getD v.toNat 0<far:=by
  intro v hv h1 h2
  rw [(hh v).2 ⟨hv,h2⟩] at h1
  cases h1
 refine ⟨h.okF hf ht,h.s0,h.okv hft,rfl,h.okP hV hN,?_⟩
 simp only
 rw [if_neg (by omega)]
 refine ⟨Nb (yaf _),(hh _).2 ⟨by omega,by rw [yaa,hDf];decide⟩,?_,⟨fun j hj _=>?_⟩⟩
 ·rw [←Bool.not_eq_true,hh,yaa,hdt]
  exact fun h1=>absurd h1.2 (yaJ _)
 ·have hva:=hV.at hj
  have hxb:=h.xb.hb j hj
  rw [o5 hj] at hva hxb
  refine ⟨fun h1 h2=>?_,fun h1 h2=>?_⟩
  ·have h3:=((hh _).1 h1).2
   have h4:=hfalse _ hva.2.1 h2
   apply Classical.byContradiction
   intro h5
   have:=hcl (2*j) ⟨by omega,by
    unfold wrm
    rw [if_pos (by omega),show 2*j/2=j by omega,o5 hj];omega⟩
   unfold wsrc wdst at this
   rw [if_pos (by omega),if_pos (by omega),show 2*j/2=j by omega,o5 hj] at this
   exact h4 (this h3)
  ·have h3:=((hh _).1 h1).2
   have h4:=hfalse _ hva.1 h2
   apply Classical.byContradiction
   intro h5
   have:=hcl (2*j+1) ⟨by omega,by
    unfold wrm
    rw [if_neg (by omega),show (2*j+1)/2=j by omega];omega⟩
   unfold wsrc wdst at this
   rw [if_neg (by omega),if_neg (by omega),show (2*j+1)/2=j by omega,o5 hj] at this
   exact h4 (this h3)
end
end Go.Fx.P.K
namespace Go.Fx.P.K
open Go Go.Fx Go.Fx.E Go.Proofs
set_option maxRecDepth 20000
section
variable {N:Nat} {arcs:List Arc} {p x:List Int}
abbrev vK (N:Nat) (arcs:List Arc) (x p D:List Int) (sent tot:Int) (k:Nat):St :=
 ⟨[(24,.i k),(23,.i D.length),(22,.bro 1 (D.map encI)),(7,.ptr 5 0 0),(6,.ptr 4 0 0)],[wB N x.length arcs 1 2 3,.arr 1 (x.map encI),.arv 1 (iN arcs N),.arr 1 (p.map encI),.var [.i 0,.i 0,.nil,.nil,.nil],.var [.i sent,.i tot,.sl 1 0 x.length,.sl 3 0 N,.sl 6 0 (fH D k).length],.arr 1 ((fH D k).map encI)],0⟩
theorem abQ (D:List Int) (hD:D.length≤64) (sent tot:Int) {RR:St→Prop} {X:Nat→St→Prop}
  (hX:∀ e b,get e 7=.ptr 5 0 0→get e 6=.ptr 4 0 0→X 0 ⟨e,(vK N arcs x p D sent tot D.length).h,b⟩) (k:Nat) (hk:k≤D.length) :
  aw (cxN Tryz.prog [0,1,2,3]) c91l0 (fun s'=>∃ k':Nat,(k'≤D.length∧D.length-k'<D.length-k)∧leS [0,1,2,3] s' (vK N arcs x p D sent tot k')) X RR (vK N arcs x p D sent tot k):=by
 have hcl:=Ie (D:=D) (k:=k)
 unfold c91l0 vK wB
 rcases yau k D.length with h|h
 ·have hd:decide ((k:Int)<D.length)=true:=decide_eq_true (by omega)
  simp -implicitDefEqProofs only [rX,↓rY,aA,cells?,splice,↓reduceIte,Nat.reduceEqDiff,Nat.reduceAdd,reduceCtorEq,aC,bZ,leE,leH,leB,leV,aZ,aD,aB,wfE,wfB,wfV,wfL,bO,bE,kill,bQ,St.kill,isD,isC,Nat.reduceLT,yac,bW,yaa,cxN,hd,fW]
  have hDk:D.getD k 0=D[k]:=bV h
  simp only [br,decide_eq_true_eq,decide_eq_false_iff_not]
  refine ⟨⟨by omega,by omega⟩,h,⟨fun hf=>?_,fun hf=>?_⟩⟩
  ·have hcs:fH D (k+1)=fH D k++[(k:Int)]:=by
    show (if D.getD k 0<far then _ else _)=_
    rw [if_pos (by rw [hDk];exact hf)]
   refine ⟨by omega,by simp only [lo,hi];omega,k+1,⟨by omega,by omega⟩,by simp,?_⟩
   rw [hcs]
   refine ⟨⟨by simp,?_⟩,w9⟩
   rw [yaD,yaq (by simp)]
   rfl
  ·have hcs:fH D (k+1)=fH D k:=by
    show (if D.getD k 0<far then _ else _)=_
    rw [if_neg (by rw [hDk];exact hf)]
   refine ⟨by simp only [lo,hi];omega,k+1,⟨by omega,by omega⟩,?_⟩
   rw [hcs]
   simp -implicitDefEqProofs only [rX,bY]
   trivial
 ·have hd:decide ((k:Int)<D.length)=false:=decide_eq_false (by omega)
  have:k=D.length:=by omega
  subst this
  have:=hX
  unfold vK wB at this
  simp -implicitDefEqProofs only [rX,↓rY,↓reduceIte,Nat.reduceEqDiff,Nat.reduceAdd,cxN,hd]
  exact this _ _ rfl rfl
theorem adG (hW:WOk N arcs x p) (hx:XB arcs x) (sent:Int) (D:List Int) (hD:D.length≤N):OkN Tryz.prog 91 [.ptr 0 0 0,.i sent,.bro 1 (D.map encI)] (wH N arcs x p) [] (IsA (.agg [.i sent,.i (dI arcs x arcs.length),.sl 1 0 x.length,.sl 3 0 N,.sl 6 0 (fH D D.length).length]) (wH N arcs x p++[.dead,.dead,.arr 1 ((fH D D.length).map encI)])):=by
 have hV:=hW.hV
 have hN:=hW.hN
 have hxl:=hW.hx
 have hal:=hV.hl
 have hcall:=aeJ hW hx
 generalize hT:dI arcs x arcs.length=tot at *
 refine eR pol [0,1,2,3] lw91 (by simp) ⟨trivial,trivial,trivial,trivial,trivial⟩ (by simp [wH];omega) ?_
 unfold c91 wH wB
 simp -implicitDefEqProofs only [rX,↓rY,aA,cells?,↓reduceIte,Nat.reduceEqDiff,Nat.reduceAdd,reduceCtorEq,aC,cxN,aK]
 repeat' refine And.intro ?_ ?_
 all_goals
  refine cY [0,1,2,3] [.ptr 0 0 0] (.i tot) (.i tot) (wH N arcs x p) (wH N arcs x p) _ hcall (by simp) (by simp [wH,wB,blk,bX,cI,ren,pos,cJ]) (by simp [aF,aG,aN,bD,wkL,wk,pos]) (by simp [wH]) rfl rfl (by simp [aD,aB,wH,wB,bM,bX]) ?_
  simp -implicitDefEqProofs only [rX,↓rY,rdK,aA,cells?,splice,↓reduceIte,Nat.reduceEqDiff,Nat.reduceAdd,reduceCtorEq,aC,bH,isC,Nat.reduceLeDiff,wH,wB,bM,bX,cI,ren,cJ,back]
  intro _
  refine fX (.virt 1 1 (by decide) (.nilB 5 [.i sent,.i tot,.sl 1 0 x.length,.sl 3 0 N,.nil] [.i sent,.i tot,.sl 1 0 x.length,.sl 3 0 N,.sl 6 0 0] rfl ⟨rfl,fun i a b h1 h2=>?_⟩ (.refl _))) (vK N arcs x p D sent tot) (fun k=>k≤D.length) (fun k=>D.length-k) 0 (yaw _) ?_ (abQ D (by omega) sent tot fun e b he1 he2=>?_)
  ·match i with
   | 0=>simp at h1 h2;subst h1 h2;exact .inl rfl
   | 1=>simp at h1 h2;subst h1 h2;exact .inl rfl
   | 2=>simp at h1 h2;subst h1 h2;exact .inl rfl
   | 3=>simp at h1 h2;subst h1 h2;exact .inl rfl
   | 4=>simp at h1 h2;subst h1 h2;exact .inr ⟨rfl,_,rfl⟩
   | i+5=>simp at h1
  ·unfold vK wB
   simp -implicitDefEqProofs only [rX,↓reduceIte,Nat.reduceEqDiff,leE,leH,leB,leV,aZ,aD,aB,wfE,wfB,wfV,wfL,bY,fH,yae]
  ·unfold vK wB
   simp -implicitDefEqProofs only [rX,↓rY,cells?,splice,↓reduceIte,Nat.reduceEqDiff,Nat.reduceAdd,aL,aM,leH,leB,leV,aZ,aD,aB,wfB,wfV,wfL,isC,Nat.reduceLeDiff,he1,he2,cA,bY]
end
end Go.Fx.P.K
namespace Go.Fx.P.K
open Go Go.Fx Go.Fx.E Go.Proofs
set_option maxRecDepth 20000
def tN (x:Int):Bool:=decide (x<0∨1073741824<x)
theorem aeH (x:Int):Ok 130 [.i x] (Is (.b (tN x))):=by
 refine ok_of lw130 (by simp) ?_
 unfold c130
 simp -implicitDefEqProofs only [rX,↓rY,aA,↓reduceIte,Nat.reduceEqDiff,reduceCtorEq,aL,aM,wfV,cxN,aK]
 simp only [br,decide_eq_true_eq,decide_eq_false_iff_not,tN]
 grind
def Ew (l:List Int):Int:=if l.any tN then (l.findIdx tN:Nat) else -1
structure GInv (l:List Int) (k:Nat):Prop where
 h:∀ j (h:j<l.length),j<k→tN l[j]=false
theorem adZ (l:List Int):Ok 147 [li l,.clo 130 []] (Is (.i (Ew l))):=by
 refine ok_of lw147 (by simp) ?_
 unfold c147 li
 simp -implicitDefEqProofs only [rX,↓rY,aA,↓reduceIte,reduceCtorEq,cxN,aK]
 intro hm
 refine aT (fun k:Nat=>⟨[(8,.i k),(7,.i l.length),(1,.clo 130 []),(0,.ro 1 (l.map encI))],[],0⟩) (fun k=>k≤l.length∧GInv l k) (fun k=>l.length-k) 0 ⟨by omega,⟨by simp⟩⟩ ?_ ?_
 ·simp -implicitDefEqProofs only [rX,↓reduceIte,Nat.reduceEqDiff,reduceCtorEq,leE,leH,aD,wfE,wfB,wfV,wfL,yae]
 rintro k ⟨hk,hv⟩
 unfold c147l0
 simp -implicitDefEqProofs only [rX,↓rY,aA,↓reduceIte,Nat.reduceEqDiff,reduceCtorEq,aL,aM,wfV,yac,bW,yaa]
 simp only [br,yaa,decide_eq_true_eq,decide_eq_false_iff_not]
 refine ⟨fun h=>⟨⟨by omega,h⟩,by omega,?_⟩,fun h=>?_⟩
 ·have hk:k<l.length:=by omega
  refine aE (aeH l[k]) ?_ rfl trivial ?_
  ·simp [aF,aG,aN,bD,wkL,wk,pos]
  cases hb:tN l[k] with
  | true =>
   simp -implicitDefEqProofs only [rX,↓rY,↓reduceIte,Nat.reduceEqDiff,aL,aM,wfV]
   have h1:l.any tN=true:=by
    rw [List.any_eq_true];exact ⟨_,yag hk,hb⟩
   have h2:l.findIdx tN=k:=by
    rw [List.findIdx_eq hk]
    exact ⟨hb,fun j hj=>hv.h j (by omega) hj⟩
   simp [Ew,h1,h2]
  | false =>
   simp -implicitDefEqProofs only [rX,↓rY,aA,↓reduceIte,Nat.reduceEqDiff,reduceCtorEq,leE,leH,aD,wfE,wfB,wfV,wfL]
   refine ⟨by simp only [lo,hi,maxLen] at *;omega,k+1,⟨⟨by omega,⟨fun j hj h2=>?_⟩⟩,by omega⟩,by simp⟩
   by_cases h3:j=k
   ·subst h3;exact hb
   ·exact hv.h j hj (by omega)
 ·have h1:l.any tN=false:=by
   rw [List.any_eq_false]
   intro x hx
   obtain ⟨j,hj,rfl⟩:=yao hx
   simp [hv.h j hj (by omega)]
  simp [Ew,h1]
theorem aeI (l:List Int):Ok 129 [li l,.clo 130 []] (Is (.b (l.any tN))):=by
 refine ok_of lw129 (by simp) ?_
 unfold c129 li
 simp -implicitDefEqProofs only [rX,aA,↓reduceIte,Nat.reduceEqDiff,reduceCtorEq,cxN,aK]
 refine aE (adZ l) ?_ rfl trivial ?_
 ·simp [li,aF,aG,aN,bD,wkL,wk,wkR]
 simp -implicitDefEqProofs only [rX,↓rY,aA,↓reduceIte,aL,aM,wfV,Ew]
 by_cases h:l.any tN=true
 ·simp [h]
 ·simp only [h,if_false];simp
theorem aiQ (N:Nat) (arcs:List Arc) (f:Int) (fr:Fr) (hV:Val N arcs) (hf:0≤f∧f<N) (hl:fr.flow.length=arcs.length):Ok 94 [net N arcs,.i f,fr.enc] (Is (.b (prB N arcs f fr.flow fr.price))):=by
 refine ok_of lw94 (by simp) ?_
 unfold c94 net Fr.enc li
 simp -implicitDefEqProofs only [rX,↓rY,aA,cells?,↓reduceIte,Nat.reduceEqDiff,Nat.reduceAdd,reduceCtorEq,aC,aL,aM,wfV,yac,bW,cxN,aK]
 simp only [br,decide_eq_true_eq,decide_eq_false_iff_not,bne_iff_ne,bne_eq_false_iff_eq]
 have hL:=hV.hl
 have hN:=hV.hn
 refine fun hm1=>⟨fun h=>pV fun hO=>?_,fun h=>?_⟩
 ·have:=hO.hl;omega
 have hpl:fr.price.length=N:=by omega
 refine ⟨⟨hf.1,by omega⟩,by omega,fun h0=>pV fun hO=>?_,fun h0=>?_⟩
 ·have:=hO.h0
  rw [getD_at (by omega)] at this
  exact h0 this
 refine aE (aeI fr.price) (by simp [li,aF,aG,aN,bD,wkL,wk,wkR]) rfl trivial ?_
 cases hb:fr.price.any tN with
 | true =>
  simp -implicitDefEqProofs only [rX,↓rY,aA,↓reduceIte,Nat.reduceEqDiff,Nat.reduceAdd,aL,aM,wfV]
  refine pV fun hO=>?_
  rw [List.any_eq_true] at hb
  obtain ⟨x,hx,hb⟩:=hb
  obtain ⟨j,hj,rfl⟩:=yao hx
  have:=hO.hb j hj
  simp only [tN,decide_eq_true_eq] at hb
  omega
 | false =>
 have hb:∀ j (h:j<fr.price.length),0≤fr.price[j]∧fr.price[j]≤1073741824:=by
  intro j hj
  rw [List.any_eq_false] at hb
  have:=hb _ (yag hj)
  simp only [tN,decide_eq_true_eq] at this
  omega
 simp -implicitDefEqProofs only [rX,↓rY,aA,↓reduceIte,Nat.reduceEqDiff,Nat.reduceAdd]
 refine fun _=>aT (fun k:Nat=>⟨[(32,.i k),(31,.i arcs.length),(30,.ro 4 (arcs.map Arc.enc)),(5,.ptr 1 0 0),(3,.ptr 0 0 0),(1,.i f)],[.var [.i N,.ro 4 (arcs.map Arc.enc)],frB fr],0⟩) (fun k=>k≤arcs.length∧RInv arcs fr.flow fr.price k) (fun k=>arcs.length-k) 0 ⟨by omega,⟨by simp⟩⟩ ?_ ?_
 ·simp -implicitDefEqProofs only [rX,↓reduceIte,Nat.reduceEqDiff,reduceCtorEq,leE,leH,leB,leV,aZ,aD,aB,wfE,wfB,wfV,wfL,aZ,leV,yae,frB]
 rintro k ⟨hk,hv⟩
 simp -implicitDefEqProofs only [rX,↓rY,aA,cells?,splice,↓reduceIte,Nat.reduceEqDiff,Nat.reduceAdd,aC,aL,aM,leE,leH,leB,leV,aZ,aD,aB,wfE,wfB,wfV,wfL,yac,enc_len,eE,lO,lN,oF,p6,e7,bW,yaa,frB]
 simp only [br,decide_eq_true_eq,decide_eq_false_iff_not]
 refine ⟨fun h2=>?_,fun h2=>?_⟩
 ·have hk1:k<arcs.length:=by omega
  have hk2:k<fr.flow.length:=by omega
  have hva:=hV.ha arcs[k] (yag hk1)
  have b1:=hb arcs[k].from_.toNat (by omega)
  have b2:=hb arcs[k].to.toNat (by omega)
  have bad:¬(_∧_)→false=prB N arcs f fr.flow fr.price:=fun h=>pV fun hO=>h (hO.ha k hk1)
  have good:=hv.next hk1
  rw [getD_at (by omega),getD_at (by omega),bV hk2] at bad good
  simp only [lo,hi,maxLen] at *
  repeat' (first|(refine ⟨(k+1:_),?_⟩)|(refine ⟨by omega,?_⟩)|(refine And.intro ?_ ?_)|(refine (fun _=>?_)))
  all_goals first|omega|(apply bad;omega)|(apply good;omega)
 ·refine Mf ⟨hpl,?_,hb,fun j hj=>hv.h j hj (by omega)⟩
  rw [getD_at (by omega)];exact h0
end Go.Fx.P.K
namespace Go.Fx.P.K
open Go Go.Fx Go.Fx.E Go.Proofs
set_option maxRecDepth 20000
theorem Ow {l:List Int} {k:Nat} (h:k<l.length) (x:Int):hasB (l.take (k+1)) x=if x=l[k] then true else hasB (l.take k) x:=by
 simp only [hasB,List.take_succ_eq_append_getElem h,yaz,yar]
 by_cases hx:x=l[k]
 ·simp only [hx,or_true,if_true,decide_true]
 ·simp only [hx,or_false,if_false]
theorem aiP (N:Nat) (arcs:List Arc) (f t:Int) (fr:Fr) (hV:Val N arcs) (hf:0≤f∧f<N) (ht:0≤t∧t<N) (hl:fr.flow.length=arcs.length):Ok 95 [net N arcs,.i f,.i t,fr.enc] (Is (.b (cuB N arcs f t fr.flow fr.cut))):=by
 refine ok_of lw95 (by simp) ?_
 unfold c95 net Fr.enc li
 simp -implicitDefEqProofs only [rX,↓rY,aA,cells?,↓reduceIte,Nat.reduceEqDiff,Nat.reduceAdd,reduceCtorEq,aC,yaa,cxN,aK]
 have hL:=hV.hl
 have hN:=hV.hn
 refine ⟨by omega,fun hm=>?_⟩
 refine aT (fun k:Nat=>⟨[(20,.i k),(19,.i fr.cut.length),(18,.ro 1 (fr.cut.map encI)),(9,.sl 2 0 N),(7,.ptr 1 0 0),(4,.ptr 0 0 0),(2,.i t),(1,.i f)],[.var [.i N,.ro 4 (arcs.map Arc.enc)],frB fr,.arr 1 (oS N (fun j=>hasB (fr.cut.take k) j))],0⟩) (fun k=>k≤fr.cut.length∧OkS N fr.cut k) (fun k=>fr.cut.length-k) 0 ⟨by omega,⟨by simp⟩⟩ ?_ ?_
 ·have h0:oS N (fun j=>hasB [] j)=yab N [V.b false]:=by rw [Qt];rfl
  simp -implicitDefEqProofs only [rX,↓reduceIte,Nat.reduceEqDiff,reduceCtorEq,leE,leH,leB,leV,aZ,aD,aB,wfE,wfB,wfV,wfL,aZ,leV,yae,frB,h0]
 rintro k ⟨hk,hv⟩
 simp -implicitDefEqProofs only [rX,↓rY,aA,cells?,splice,↓reduceIte,Nat.reduceEqDiff,cR,Nat.reduceAdd,aL,aM,leE,leH,leB,leV,aZ,aD,aB,wfE,wfB,wfV,wfL,isD,isC,yac,bW,uU,yaa,i6,frB,Gf,yI,Qs]
 simp only [br,decide_eq_true_eq,decide_eq_false_iff_not]
 refine ⟨fun h2=>?_,fun h2=>?_⟩
 ·have hk1:k<fr.cut.length:=by omega
  have good:=hv.next hk1
  have bad:¬((0≤fr.cut[k]∧fr.cut[k]<N)∧(0<k→fr.cut.getD (k-1) 0<fr.cut[k]))→false=cuB N arcs f t fr.flow fr.cut:=fun h=>p8 fun hO=>h (hO.hs.h k hk1 hk1)
  have hp:0<k→fr.cut.getD (k-1) 0=fr.cut[((k:Int)-1).toNat]'(by omega):=by
   intro h0
   have e1:((k:Int)-1).toNat=k-1:=by omega
   simp only [e1]
   exact bV (by omega)
  have hrow:∀ i:Nat,i<N→(if (i:Int)=(fr.cut[k].toNat:Nat) then true else hasB (fr.cut.take k) i)=hasB (fr.cut.take (k+1)) i∨¬(0≤fr.cut[k]):=by
   intro i hi
   rw [Ow hk1]
   by_cases h0:0≤fr.cut[k]
   ·left;rw [yan h0]
   ·right;exact h0
  simp only [br,decide_eq_true_eq,decide_eq_false_iff_not,lo,hi,maxLen] at *
  repeat' (first|(refine ⟨(k+1:_),?_⟩)|(refine ⟨by omega,?_⟩)|(refine And.intro ?_ ?_)|(refine (fun _=>?_)))
  all_goals first|omega|(apply bad;rintro ⟨_,h4⟩;have h4:=h4 (by omega);rw [hp (by omega)] at h4;omega)|(apply bad;omega)|(apply good;refine ⟨by omega,fun h0=>?_⟩;rw [hp h0];omega)|(apply good;refine ⟨by omega,fun h0=>?_⟩;omega)|(congr 1;apply Jm;intro i hi;exact (hrow i hi).resolve_right (by omega))
 have hs:OkS N fr.cut fr.cut.length:=⟨fun j h _=>hv.h j h (by omega)⟩
 have hk0:fr.cut.take k=fr.cut:=yaq (by omega)
 rw [hk0]
 have e1:((f.toNat:Nat):Int)=f:=yan hf.1
 have e2:((t.toNat:Nat):Int)=t:=yan ht.1
 simp only [e1,e2]
 refine ⟨hf,by omega,fun h3=>p8 fun hO=>?_,fun h3=>⟨ht,by omega,fun h4=>p8 fun hO=>?_,fun h4=>?_⟩⟩
 ·have:=hO.hf;simp [this] at h3
 ·have:=hO.ht;simp [this] at h4
 have h3:hasB fr.cut f=true:=by simpa using h3
 refine fun _=>aT (fun k:Nat=>⟨[(65,.i k),(64,.i arcs.length),(63,.ro 4 (arcs.map Arc.enc)),(9,.sl 2 0 N),(7,.ptr 1 0 0)],[.dead,frB fr,.arr 1 (oS N (fun j=>hasB fr.cut j))],0⟩) (fun k=>k≤arcs.length∧OkA arcs fr.flow fr.cut k) (fun k=>arcs.length-k) 0 ⟨by omega,⟨by simp⟩⟩ ?_ ?_
 ·simp -implicitDefEqProofs only [rX,↓reduceIte,Nat.reduceEqDiff,leE,leH,leB,leV,aZ,aD,aB,wfE,wfB,wfV,wfL,aZ,leV,yae,frB]
 rintro k ⟨hk,hv⟩
 simp -implicitDefEqProofs only [rX,↓rY,aA,cells?,splice,↓reduceIte,Nat.reduceEqDiff,cR,Nat.reduceAdd,aC,aL,aM,leE,leH,leB,leV,aZ,aD,aB,wfE,wfB,wfV,wfL,yac,enc_len,eE,lO,lN,oF,e7,bW,uU,yaa,frB,Gf,yI]
 simp only [br,decide_eq_true_eq,decide_eq_false_iff_not]
 refine ⟨fun h5=>?_,fun h2=>Nc ⟨hs,h3,h4,⟨fun j h _=>hv.h j h (by omega)⟩⟩⟩
 have hk1:k<arcs.length:=by omega
 have hk2:k<fr.flow.length:=by omega
 have hva:=hV.ha arcs[k] (yag hk1)
 have good:=hv.next hk1
 have bad:¬(_∧_)→false=cuB N arcs f t fr.flow fr.cut:=fun h=>p8 fun hO=>h (hO.ha.h k hk1 hk1)
 rw [bV hk2] at good bad
 have e3:((arcs[k].from_.toNat:Nat):Int)=arcs[k].from_:=by omega
 have e4:((arcs[k].to.toNat:Nat):Int)=arcs[k].to:=by omega
 simp only [e3,e4] at *
 generalize hasB fr.cut arcs[k].from_=x at *
 generalize hasB fr.cut arcs[k].to=y at *
 cases x<;>cases y<;>simp only [br,bne_iff_ne,bne_eq_false_iff_eq,lo,hi,maxLen,Bool.not_true,Bool.not_false,forall_const,yak,reduceCtorEq,false_implies,true_implies,and_true,true_and] at*<;>
  (repeat' (first|(refine ⟨(k+1:_),?_⟩)|(refine ⟨by omega,?_⟩)|(refine And.intro ?_ ?_)|(refine (fun _=>?_))))<;>first|omega|exact good ‹_›|exact bad ‹_›|exact good|(apply bad;simp;omega)|(apply good;simp;try omega)|(apply good;done)|trivial
theorem ajF (N:Nat) (arcs:List Arc) (f t am:Int) (fr:Fr) (hV:Val N arcs) (hf:0≤f∧f<N) (ht:0≤t∧t<N):Ok 69 [net N arcs,.i f,.i t,.i am,fr.enc] (Is (.i (accI N arcs f t am fr))):=by
 refine ok_of lw69 (by simp) ?_
 unfold c69 net Fr.enc li
 have hL:=hV.hl
 have hN:=hV.hn
 simp -implicitDefEqProofs only [rX,↓rY,aA,cells?,↓reduceIte,Nat.reduceEqDiff,Nat.reduceAdd,reduceCtorEq,aC,aL,aM,wfV,cxN,aK]
 simp only [br,decide_eq_true_eq,decide_eq_false_iff_not]
 refine ⟨fun h=>fT fun hO=>by have:=hO.hs;omega,fun h0=>⟨fun h=>fT fun hO=>by have:=hO.hs;omega,fun h1=>?_⟩⟩
 refine aE (aiR N arcs f t fr hV hf) (by simp [Fr.enc,net,li,aF,aG,aN,bD,wkL,wk,wkR]) rfl trivial ?_
 cases hfl:Bv N arcs f t fr with
 | false =>
  simp -implicitDefEqProofs only [rX,↓rY,aA,↓reduceIte,Nat.reduceEqDiff,Nat.reduceAdd,aL,aM,wfV]
  exact fT fun hO=>by rw [abA ⟨hO.fl,hO.hv,hO.ht⟩] at hfl;cases hfl
 | true =>
 have hfl:OkF N arcs f t fr.flow∧valTo arcs f fr.flow arcs.length=fr.sent∧dI arcs fr.flow arcs.length=fr.cost:=by
  apply Classical.byContradiction
  intro h
  rw [Aq h] at hfl;cases hfl
 have hl:=hfl.1.hl
 simp -implicitDefEqProofs only [rX,↓rY,↓reduceIte,Nat.reduceEqDiff,Nat.reduceAdd,reduceCtorEq]
 refine aE (aiQ N arcs f fr hV hf hl) (by simp [Fr.enc,net,li,aF,aG,aN,bD,wkL,wk,wkR]) rfl trivial ?_
 cases hp:prB N arcs f fr.flow fr.price with
 | false =>
  simp -implicitDefEqProofs only [rX,↓rY,aA,↓reduceIte,Nat.reduceEqDiff,Nat.reduceAdd,aL,aM,wfV]
  exact fT fun hO=>by have:=Mf hO.hp;rw [hp] at this;cases this
 | true =>
 have hp:OkP N arcs f fr.flow fr.price:=by
  apply Classical.byContradiction
  intro h
  have:=pV h;rw [hp] at this;cases this
 simp -implicitDefEqProofs only [rX,↓rY,aA,↓reduceIte,Nat.reduceEqDiff,Nat.reduceAdd,reduceCtorEq,aL,aM,wfV]
 simp only [br,beq_iff_eq,beq_eq_false_iff_ne,decide_eq_true_eq,decide_eq_false_iff_not]
 refine ⟨fun h4=>fun _=>⟨fun h5=>Fm ⟨hfl.1,by omega,hfl.2.1,hfl.2.2,hp,?_⟩,fun h5=>⟨fun h6=>by omega,fun h6=>fT fun hO=>?_⟩⟩,fun h4=>⟨fun h5=>?_,fun h5=>fT fun hO=>?_⟩⟩
 ·rw [if_pos h4]
  exact yaW.1 (by omega)
 ·have:=hO.hc
  rw [if_pos h4] at this
  rw [this] at h5
  simp at h5
 ·refine aE (aiP N arcs f t fr hV hf ht hl) (by simp [Fr.enc,net,li,aF,aG,aN,bD,wkL,wk,wkR]) rfl trivial ?_
  cases hc:cuB N arcs f t fr.flow fr.cut with
  | false =>
   simp -implicitDefEqProofs only [rX,↓rY,aA,↓reduceIte,Nat.reduceEqDiff,Nat.reduceAdd,aL,aM,wfV]
   exact fT fun hO=>by have h6:=hO.hc;rw [if_neg h4] at h6;have:=Nc h6;rw [hc] at this;cases this
  | true =>
  have hc:OkC N arcs f t fr.flow fr.cut:=by
   apply Classical.byContradiction
   intro h
   have:=p8 h;rw [hc] at this;cases this
  simp -implicitDefEqProofs only [rX,↓rY,aA,↓reduceIte,Nat.reduceEqDiff,Nat.reduceAdd,aL,aM,wfV]
  exact Fm ⟨hfl.1,by omega,hfl.2.1,hfl.2.2,hp,by rw [if_neg h4];exact hc⟩
 ·have:=hO.hs;omega
end Go.Fx.P.K
namespace Go.Fx.P.K
open Go Go.Fx Go.Fx.E Go.Proofs
set_option maxRecDepth 20000
end Go.Fx.P.K
namespace Go.Fx.P.K
open Go Go.Fx Go.Fx.E Go.Proofs
set_option maxRecDepth 20000
def uJ (p D:List Int) (t:Nat):Nat→List Int
 | 0=>p
 | k+1=>(uJ p D t k).set k (p.getD k 0+min (D.getD k 0) (D.getD t 0))
theorem sZ {p D:List Int} {t:Nat}:∀ {k:Nat},(uJ p D t k).length=p.length
 | 0=>rfl
 | k+1=>by unfold uJ;rw [yax];exact sZ
theorem yV {p D:List Int} {t:Nat} (j:Nat):∀ {k:Nat},k≤p.length→(uJ p D t k).getD j 0=if j<k then p.getD j 0+min (D.getD j 0) (D.getD t 0) else p.getD j 0
 | 0,_=>by rw [if_neg (by omega)];rfl
 | k+1,hk=>by
  unfold uJ
  rw [gD (by rw [sZ];omega)]
  by_cases e:j=k
  ·subst e;rw [if_pos rfl,if_pos (by omega)]
  ·rw [if_neg e,yV j (by omega)]
   by_cases e2:j<k
   ·rw [if_pos e2,if_pos (by omega)]
   ·rw [if_neg e2,if_neg (by omega)]
section
variable {N:Nat} {arcs:List Arc} {f t:Nat} {am:Int}
def hpS (N:Nat) (arcs:List Arc) (x p:List Int):List Blk :=
 [.var [.i N,.ro 4 (arcs.map Arc.enc)],.var [.i 0,.i 0,.nil,.nil,.nil],.arr 1 (x.map encI),.dead,.arv 1 (iN arcs N),.arr 1 (p.map encI),wB N arcs.length arcs 2 4 5]
abbrev yY (N:Nat) (arcs:List Arc) (f t:Nat) (am:Int) (g:Int × List Int × List Int):St :=
 ⟨[(12,.i g.1),(11,.ptr 6 0 0),(8,.ptr 1 0 0),(3,.i am),(2,.i t),(1,.i f)],hpS N arcs g.2.1 g.2.2,0⟩
def Tight (arcs:List Arc) (f:Nat) (am:Int) (fr:Fr):Prop:=fr.sent<am→∀ v∈fr.cut,v≠f→∃ i,sF arcs fr.flow i∧(wdst arcs i:Int)=v∧(wsrc arcs i:Int)∈fr.cut
theorem Pc {N:Nat} {arcs:List Arc} {f:Nat} {am:Int} {x p:List Int} {sent c:Int} {hV:Val N arcs} {hf:f<N} {hn:NN arcs x (fun u=>p.getD u 0)} {D:List Int} (hD:Bn N (grD N arcs x (fun u=>p.getD u 0) f hV hf hn) D):Tight arcs f am ⟨sent,c,x,p,fH D N⟩:=by
 intro _ v hv hne
 obtain ⟨⟨h0,h1⟩,h2⟩:=pA.1 hv
 have hvt:((v.toNat:Nat):Int)=v:=yan h0
 rcases hD.lab.hw v.toNat (by show v.toNat<N;omega) with h3|⟨_,r,hr⟩
 ·exact absurd (show D.getD v.toNat 0=far from h3) (by omega)
 have hco:Lb.cs (grD N arcs x (fun u=>p.getD u 0) f hV hf hn) r=D.getD v.toNat 0:=hr.co
 cases r with
 | nil =>
  have:=hr.pr
  exact absurd (show v.toNat=f from this) (by omega)
 | cons i r =>
  obtain ⟨g1,g2,g3⟩:=hr.pr
  have g4:=hr.dm.2.head
  have g5:0≤dH arcs (fun u=>p.getD u 0) i:=hn i g1
  have g6:(grD N arcs x (fun u=>p.getD u 0) f hV hf hn).c i=dH arcs (fun u=>p.getD u 0) i:=rfl
  have g7:(grD N arcs x (fun u=>p.getD u 0) f hV hf hn).src i=wsrc arcs i:=rfl
  have g8:wdst arcs i=v.toNat:=g2
  simp only [Lb.cs,g6] at hco
  rw [g7] at g4
  have w:=xR hV g1.1
  refine ⟨i,g1,by omega,pA.2 ⟨⟨by omega,by have:=w.1;omega⟩,?_⟩⟩
  rw [yaa]
  have g9:D.getD (wsrc arcs i) 0≤Lb.cs (grD N arcs x (fun u=>p.getD u 0) f hV hf hn) r:=g4
  omega
def R13 (N:Nat) (arcs:List Arc) (f t:Nat) (am:Int) (r:V) (hs:List Blk):Prop:=∃ fr:Fr,((OkAc N arcs f t am fr∧Tight arcs f am fr)∧SI N arcs f t am fr.flow fr.price fr.sent)∧(∃ c tl,r=.tup [.agg [.i fr.sent,.i fr.cost,.sl 2 0 arcs.length,.sl 5 0 N,c],.i 0]∧hs=[.dead,.dead,.arr 1 (fr.flow.map encI),.dead,.dead,.arr 1 (fr.price.map encI)]++tl∧gvV (fun k=>decide (6≤k)) hs c=.ro 1 (fr.cut.map encI))∧wk (.tup [fr.enc,.i 0]) (gvV (fun _=>true) hs r)
theorem SI.init (hV:Val N arcs) (hf:f<N) (ht:t<N) (ham:0≤am):SI N arcs f t am (yab arcs.length 0) (yab N 0) 0:=by
 have hr:∀ (m k:Nat),(yab m (0:Int)).getD k 0=0:=by
  intro m k
  rw [yad,yaE]
  split<;>rfl
 refine ⟨⟨by simp,fun k hk=>?_⟩,fun w=>?_,fun i hi=>?_,by simp,hr _ _,fun j=>?_,?_,⟨yaf _,ham⟩⟩
 ·rw [hr]
  have:=hV.at hk
  omega
 ·rw [Ve,Ve]
  have:∀ k,valTo arcs w (yab arcs.length 0) k=0:=by
   intro k
   induction k with
   | zero=>rfl
   | succ k ih=>simp only [valTo,ih,hr];split<;>split<;>rfl
  rw [this];rfl
 ·obtain ⟨h1,h2⟩:=hi
  have:=hV.at h1
  unfold wrm at h2
  rw [hr] at h2
  unfold dH e9
  simp only [hr]
  split at h2
  ·rename_i h0
   rw [if_pos h0];omega
  ·omega
 ·simp only [hr];omega
 ·rw [hr]
  have:=hV.hn
  exact Int.mul_nonneg (by omega) (by omega)
theorem tZ {l:List Int} {n:Nat} (h:l.length=n):yah n (l.map encI)=l.map encI:=yaq (by simp [h])
theorem Dx {l:List Int}:yah l.length (l.map encI)=l.map encI:=tZ rfl
theorem afC (hV:Val N arcs) (hN:N≤64) (hf:f<N) (ht:t<N) (ham:0≤am∧am≤2199023255552) {x p:List Int} {sent:Int} (hlt:sent<am) (hS:SI N arcs f t am x p sent) (hR:Reach arcs x p f t) {X:Nat→St→Prop} {RR:St→Prop} {s:St}
  (hX:∀ (x':List Int) (s':Int),SI N arcs f t am x' p s'→sent<s'→∀ e b,leS [] ⟨e,hpS N arcs x' p,b⟩ (yY N arcs f t am (s',x',p))→X 4 ⟨e,hpS N arcs x' p,b⟩)
  (hs:leS [] s ⟨[(15,.i 1),(12,.i sent),(11,.ptr 6 0 0),(8,.ptr 1 0 0),(3,.i am),(2,.i t),(1,.i f)],hpS N arcs x p,0⟩) :
  Ac [] (fun NX=>aw (cxN Tryz.prog []) c66l2 NX X RR) s:=by
 refine aT (fun g:Int × Int × List Int=>(⟨[(15,.i g.1),(12,.i g.2.1),(11,.ptr 6 0 0),(8,.ptr 1 0 0),(3,.i am),(2,.i t),(1,.i f)],hpS N arcs g.2.2 p,0⟩:St))
  (fun g=>SI N arcs f t am g.2.2 p g.2.1∧0≤g.1∧((g.1=1∧g.2.1=sent∧Reach arcs g.2.2 p f t)∨sent<g.2.1)) (fun g=>2*(am-g.2.1).toNat+(if 0<g.1 then 1 else 0)) (1,sent,x) ⟨hS,by omega,.inl ⟨rfl,rfl,hR⟩⟩ hs ?_
 rintro ⟨more,s1,x1⟩ ⟨hS1,hm0,hcase⟩
 simp only at hS1 hm0 hcase ⊢
 have hxl:=hS1.xb.hl
 have hW:=hS1.wok hV hN
 have hs0:=hS1.s0
 unfold c66l2 hpS wB
 by_cases hgo:0<more∧s1<am
 ·have hd1:decide (0<more)=true:=decide_eq_true hgo.1
  have hd2:decide (s1<am)=true:=decide_eq_true hgo.2
  simp -implicitDefEqProofs only [rX,↓rY,aA,↓reduceIte,Nat.reduceEqDiff,Nat.reduceAdd,cxN,hd1,hd2]
  refine ⟨by simp only [lo,hi];omega,?_⟩
  have h30:=aiS hV hW ht x1 f (am-s1) hS1.xb hf ⟨by omega,by omega⟩
  refine fC (FQ arcs x1 (fun u=>p.getD u 0) t (yab N false) f (am-s1)) [6,2,4,5] [] [] [.ptr 0 0 0,.i f,.i t,.i (am-s1)] (fun g=>.i g.1) (wH N arcs x1 p) (fun g=>wH N arcs g.2.1 p) h30 (by simp) (by simp) (by simp [wH,wB,blk,bX,cI,ren,pos,cJ,hxl]) (by simp [aF,aG,aN,bD,wkL,wk,pos]) fun g hg=>⟨by simp [aD],?_⟩
  obtain ⟨n,x2,d2⟩:=g
  obtain ⟨q1,q2,q3⟩:=hS1.fill hf hg
  have hx2:x2.length=arcs.length:=q1.xb.hl
  have q4:=q1.s0
  simp -implicitDefEqProofs only [rX,↓rY,↓reduceIte,Nat.reduceEqDiff,Nat.reduceAdd,leE,leH,leB,leV,aZ,aD,aB,wfE,wfB,wfV,wfL,bO,bE,kill,bQ,St.kill,wH,wB,bM,bX,cI,ren,cJ,fW,back,hx2,Nat.reduceAdd]
  refine ⟨by simp only [lo,hi];omega,(n,s1+n,x2),⟨⟨q1,q2,?_⟩,?_⟩,?_⟩
  ·right
   simp only
   rcases hcase with ⟨c1,c2,c3⟩|c
   ·have:=q3 c3 hgo.2
    omega
   ·omega
  ·simp only
   rw [if_pos hgo.1]
   split<;>omega
  ·simp -implicitDefEqProofs only [rX,bY]
 ·have hs1:sent<s1:=by
   rcases hcase with ⟨c1,c2,c3⟩|c
   ·exact absurd ⟨by omega,by omega⟩ hgo
   ·exact c
  have hx:=hX x1 s1 hS1 hs1
  unfold yY hpS wB at hx
  by_cases h1:0<more
  ·have hd1:decide (0<more)=true:=decide_eq_true h1
   have hd2:decide (s1<am)=false:=decide_eq_false (fun h2=>hgo ⟨h1,h2⟩)
   simp -implicitDefEqProofs only [rX,↓rY,aA,↓reduceIte,Nat.reduceEqDiff,Nat.reduceAdd,cxN,hd1,hd2]
   refine hx _ _ ?_
   simp -implicitDefEqProofs only [rX,↓reduceIte,Nat.reduceEqDiff,leE,leH,leB,leV,aZ,aD,aB,wfE,wfB,wfV,wfL,bY]
  ·have hd1:decide (0<more)=false:=decide_eq_false h1
   simp -implicitDefEqProofs only [rX,↓rY,aA,↓reduceIte,Nat.reduceEqDiff,Nat.reduceAdd,cxN,hd1]
   refine hx _ _ ?_
   simp -implicitDefEqProofs only [rX,↓reduceIte,Nat.reduceEqDiff,leE,leH,leB,leV,aZ,aD,aB,wfE,wfB,wfV,wfL,bY]
theorem abT (hV:Val N arcs) (hN:N≤64) (hf:f<N) (ht:t<N) (hft:f≠t) (hal:arcs.length≤100) (ham:0≤am∧am≤2199023255552) {X:Nat→St→Prop}
  (hX:∀ g:Int × List Int × List Int,SI N arcs f t am g.2.1 g.2.2 g.1→g.1=am→∀ e b,get e 11=.ptr 6 0 0→get e 12=.i am→get e 8=.ptr 1 0 0→X 0 ⟨e,hpS N arcs g.2.1 g.2.2,b⟩)
  (g:Int × List Int × List Int) (hg:SI N arcs f t am g.2.1 g.2.2 g.1) :
  aw (cxN Tryz.prog []) c66l0 (fun s'=>∃ g':Int × List Int × List Int,(SI N arcs f t am g'.2.1 g'.2.2 g'.1∧(am-g'.1).toNat<(am-g.1).toNat)∧leS [] s' (yY N arcs f t am g')) X (eL [] 0 [.cell 8 (some 5),.tmp 9] (R13 N arcs f t am)) (yY N arcs f t am g):=by
 obtain ⟨sent,x,p⟩:=g
 simp only at hg
 have hxl:=hg.xb.hl
 have hW:=hg.wok hV hN
 have hWx:=hW x hg.xb
 have hs0:=hg.s0
 unfold c66l0 yY hpS wB
 rcases (by omega:sent<am∨am≤sent) with h|h
 ·have hd:decide (sent<am)=true:=decide_eq_true h
  simp -implicitDefEqProofs only [rX,↓rY,↓reduceIte,Nat.reduceEqDiff,Nat.reduceAdd,cxN,hd]
  have h28:=aiT (hs:=hf) hWx hg.nn (fun j=>hg.xb.bd hV j)
  refine fC (Bn N (grD N arcs x (fun u=>p.getD u 0) f hWx.hV hf hg.nn)) [6,2,4,5] [] [] [.ptr 0 0 0,.i f] (fun _=>.sl 7 0 N) (wH N arcs x p) (fun D:List Int=>wH N arcs x p++[Blk.dead,Blk.dead,Blk.dead,Blk.arr 1 (D.map encI)]) h28 (by simp) (by simp) (by simp [wH,wB,blk,bX,cI,ren,pos,cJ,hxl]) (by simp [aF,aG,aN,bD,wkL,wk,pos]) fun D hD=>⟨by simp [aD,aB,wH,wB,bM,bX,bE],?_⟩
  simp -implicitDefEqProofs only [rX,↓rY,aA,↓reduceIte,Nat.reduceEqDiff,cR,Nat.reduceAdd,bO,bE,kill,bQ,St.kill,yac,bW,yaa,wH,wB,bM,bX,cI,ren,cJ,fW,back,hxl,List.getElem?_nil,Nat.reduceSub,Nat.reduceAdd]
  have hDl:=hD.len
  have hDt:D.getD t 0=D[t]'(by omega):=bV (by omega)
  refine ⟨⟨by omega,by omega⟩,by omega,?_⟩
  simp only [br,beq_iff_eq,beq_eq_false_iff_ne]
  refine ⟨fun hfar=>?_,fun hfar=>?_⟩
  ·have h29:=adG hWx hg.xb sent D (by omega)
   rw [hDl] at h29
   have hok:=hg.cut hV hN hf ht hft h hD (by rw [hDt];exact hfar)
   generalize hT:dI arcs x arcs.length=tot at *
   refine cY [6,2,4,5] [.ptr 0 0 0,.i sent,.bro 1 (D.map encI)] (.agg [.i sent,.i tot,.sl 1 0 x.length,.sl 3 0 N,.sl 6 0 (fH D N).length]) (.agg [.i sent,.i tot,.sl 2 0 x.length,.sl 5 0 N,.sl 13 0 (fH D N).length]) (wH N arcs x p) (wH N arcs x p++[Blk.dead,Blk.dead,Blk.arr 1 ((fH D N).map encI)]) _ h29 (by simp) (by simp [wH,wB,blk,bX,cI,ren,pos,cJ,hxl]) (by simp [aF,aG,aN,bD,wkL,wk,wkR,wkB,blk,pos,hDl,tZ]) (by simp [wH]) rfl (by simp [ren,cI,back]) (by simp [aD]) ?_
   simp -implicitDefEqProofs only [rX,↓rY,aA,cells?,splice,↓reduceIte,Nat.reduceEqDiff,Nat.reduceAdd,isC,wH,wB,bM,bX,cI,ren,cJ,back,hxl,Nat.reduceAdd]
   rw [fO]
   simp -implicitDefEqProofs only [rX,↓rY,↓reduceIte,Nat.reduceEqDiff,Nat.reduceAdd,aL,aM,aD,aB,wfV,wfL]
   refine ⟨[.dead,.dead,.arr 1 (x.map encI),.dead,.dead,.arr 1 (p.map encI),.dead,.dead,.dead,.dead,.dead,.dead,.dead,.arr 1 ((fH D N).map encI)],⟨by simp [leH,leB],by simp [wfV,wfL,aB],by simp [wfB]⟩,_,⟨⟨hok,Pc hD⟩,hg⟩,⟨_,[.dead,.dead,.dead,.dead,.dead,.dead,.dead,.arr 1 ((fH D N).map encI)],rfl,rfl,by simp [gvV,blk,Dx]⟩,?_⟩
   have e1:yah arcs.length (x.map encI)=x.map encI:=tZ hxl
   have e2:yah N (p.map encI)=p.map encI:=tZ hg.pl
   have hpl:=hg.pl
   simp [gvV,gvL,wk,wkL,wkR,blk,Fr.enc,li,e1,e2,Dx,hxl,hpl]
  ·have hp13:=hg.price hV hf ht hD hN (by rw [hDt];exact hfar) (p':=uJ p D t N) (sZ.trans hg.pl) (fun k hk=>by rw [yV k (by rw [hg.pl];exact yas _),if_pos hk])
   have hpl:=hg.pl
   intro _
   refine aT (fun k:Nat=>(⟨[(55,.i k),(54,.i N),(13,.sl 10 0 N),(12,.i sent),(11,.ptr 6 0 0),(8,.ptr 1 0 0),(3,.i am),(2,.i t),(1,.i f)],hpS N arcs x (uJ p D t k)++[.dead,.dead,.dead,.arr 1 (D.map encI)],0⟩:St)) (fun k=>k≤N) (fun k=>N-k) 0 (yaw _) ?_ fun k hk=>?_
   ·unfold hpS wB
    simp -implicitDefEqProofs only [rX,↓reduceIte,Nat.reduceEqDiff,leE,leH,leB,leV,aZ,aD,aB,wfE,wfB,wfV,wfL,bY,yae,uJ]
   unfold c66l1 hpS wB
   rcases yau k N with hkN|hkN
   ·have hd2:decide ((k:Int)<N)=true:=decide_eq_true (by omega)
    simp -implicitDefEqProofs only [rX,↓rY,aA,cells?,splice,↓reduceIte,Nat.reduceEqDiff,cR,Nat.reduceAdd,leE,leH,leB,leV,aZ,aD,aB,wfE,wfB,wfV,wfL,isD,isC,yac,bW,yaa,fG,hd2]
    have hml:(uJ p D t k).length=N:=sZ.trans hpl
    have hmk:(uJ p D t k)[k]'(by omega)=p.getD k 0:=by
     rw [←bV (by omega),yV k (by omega),if_neg (Nat.lt_irrefl _)]
    have hDk:D.getD k 0=D[k]'(by omega):=bV (by omega)
    have hpb:=hWx.hb k
    have hKBv:KB=67711795200:=rfl
    have hbk:=Ag (hV:=hWx.hV) (hs:=hf) (hn:=hg.nn) hN (fun j=>hWx.hb j) hD.lab hkN
    have hbt:=Ag (hV:=hWx.hV) (hs:=hf) (hn:=hg.nn) hN (fun j=>hWx.hb j) hD.lab ht
    have hfv:far=4611686018427387904:=rfl
    have hm1:min D[k] D[t]≤67711795200:=by
     refine yaF (yay _ _) ?_
     rcases hbt.2 with e|e
     ·exact absurd (hDt.symm.trans e) hfar
     ·rw [hDt] at e;omega
    have hm2:0≤min D[k] D[t]:=by
     rw [hDk] at hbk
     rw [hDt] at hbt
     exact Int.le_min.2 ⟨hbk.1,hbt.1⟩
    have hms:uJ p D t (k+1)=(uJ p D t k).set k (p.getD k 0+min D[k] D[t]):=by rw [←hDk,←hDt];rfl
    simp only [hmk]
    refine ⟨⟨by omega,by omega⟩,by rw [hml];exact hkN,⟨by omega,by omega⟩,by omega,⟨by omega,by omega⟩,by omega,by simp only [lo,hi];omega,⟨by omega,by omega⟩,by rw [hml];exact hkN,by simp only [lo,hi];omega,k+1,⟨by omega,by omega⟩,by simp,?_,w9⟩
    rw [hms,←mS]
   ·have hd2:decide ((k:Int)<N)=false:=decide_eq_false (by omega)
    have:k=N:=by omega
    subst this
    simp -implicitDefEqProofs only [rX,↓rY,aA,↓reduceIte,Nat.reduceEqDiff,Nat.reduceAdd,hd2]
    obtain ⟨hS1,hR1⟩:=hp13
    generalize uJ p D t k=p1 at *
    refine afC hV hN hf ht ham h hS1 hR1 (fun x' s' h1 h2 e b h3=>?_) ?_
    ·simp only [if_pos]
     exact ⟨(s',x',p1),⟨h1,by simp only;have:=h1.s0;omega⟩,h3⟩
    ·unfold hpS wB
     simp -implicitDefEqProofs only [rX,↓reduceIte,Nat.reduceEqDiff,leE,leH,leB,leV,aZ,aD,aB,wfE,wfB,wfV,wfL,bY]
 ·have hd:decide (sent<am)=false:=decide_eq_false (by omega)
  simp -implicitDefEqProofs only [rX,↓rY,↓reduceIte,Nat.reduceEqDiff,Nat.reduceAdd,cxN,hd]
  have he:sent=am:=by omega
  subst he
  exact hX (sent,x,p) hg rfl _ _ rfl rfl rfl
theorem adC (hV:Val N arcs) (hN:N≤64) (hf:f<N) (ht:t<N) (hft:f≠t) (hal:arcs.length≤100) (ham:0≤am∧am≤2199023255552) (htask:Gc N f t am=true) :
  Ok 66 [net N arcs,.i f,.i t,.i am] (R13 N arcs f t am):=by
 refine ok_of lw66 (by simp) ?_
 unfold c66 net
 simp -implicitDefEqProofs only [rX,↓rY,aA,cells?,↓reduceIte,Nat.reduceEqDiff,Nat.reduceAdd,aC,cxN,aK]
 refine aE (aiW N arcs) (by simp [net,aF,aG,aN,bD,wkL,wk,wkR]) rfl trivial ?_
 simp -implicitDefEqProofs only [rX,↓rY,aA,cells?,splice,↓reduceIte,Nat.reduceEqDiff,Nat.reduceAdd,reduceCtorEq,bH,isC,hV.chk,bne_self_eq_false]
 refine aE (aiV N arcs f t am) (by simp [net,aF,aG,aN,bD,wkL,wk,wkR]) rfl trivial ?_
 simp -implicitDefEqProofs only [rX,↓rY,rdK,↓reduceIte,Nat.reduceEqDiff,Nat.reduceAdd,aC,yaa,htask]
 intro _
 refine ⟨⟨⟨by omega,by omega⟩,by omega,by omega⟩,?_⟩
 have hx0:(yab arcs.length (0:Int)).length=arcs.length:=by simp
 have h27:=aiU N arcs (yab arcs.length 0) hV
 rw [hx0] at h27
 have e0:yab arcs.length [V.i 0]=(yab arcs.length (0:Int)).map encI:=by simp [encI]
 refine cY [2] [net N arcs,.sl 0 0 arcs.length] (.ptr 4 0 0) (.ptr 6 0 0) [.arr 1 ((yab arcs.length (0:Int)).map encI)] [.arr 1 ((yab arcs.length (0:Int)).map encI),Blk.dead,.arv 1 (iN arcs N),.arr 1 (yab N (encI 0)),wB N arcs.length arcs 0 2 3] _ h27 (by simp) (by simp [blk,bX,cI,ren,pos,encI]) (by simp [net,aF,aG,aN,bD,wkL,wk,wkR,pos]) (by simp) rfl (by simp [ren,cI,back]) (by simp [aD]) ?_
 rw [Gm]
 simp -implicitDefEqProofs only [rX,aA,↓reduceIte,Nat.reduceAdd,wB,bM,bX,cI,ren,cJ,back,List.getElem?_nil,Nat.reduceSub,Nat.reduceAdd]
 refine aT (yY N arcs f t am) (fun g=>SI N arcs f t am g.2.1 g.2.2 g.1) (fun g=>(am-g.1).toNat) (0,yab arcs.length 0,yab N 0) (SI.init hV hf ht ham.1) ?_ (abT hV hN hf ht hft hal ham ?_)
 ·unfold yY hpS wB
  simp -implicitDefEqProofs only [rX,↓reduceIte,Nat.reduceEqDiff,reduceCtorEq,leE,leH,leB,leV,aZ,aD,aB,wfE,wfB,wfV,wfL,bY]
 ·rintro ⟨sent,x,p⟩ hS he e b g1 g2 g3
  simp only at hS he
  subst he
  have hWx:=hS.wok hV hN x hS.xb
  have hxl:=hS.xb.hl
  have hpl:=hS.pl
  have h29:=adG hWx hS.xb sent [] (yaw _)
  have hok:=hS.all hV hN hf ht hft rfl
  generalize hT:dI arcs x arcs.length=tot at *
  unfold hpS wB
  simp -implicitDefEqProofs only [rX,aA,↓reduceIte,Nat.reduceEqDiff,Nat.reduceAdd,g1,g2]
  refine cY [6,2,4,5] [.ptr 0 0 0,.i sent,.bro 1 []] (.agg [.i sent,.i tot,.sl 1 0 x.length,.sl 3 0 N,.sl 6 0 0]) (.agg [.i sent,.i tot,.sl 2 0 x.length,.sl 5 0 N,.sl 9 0 0]) (wH N arcs x p) (wH N arcs x p++[Blk.dead,Blk.dead,Blk.arr 1 []]) _ h29 (by simp) (by simp [wH,wB,blk,bX,cI,ren,pos,cJ,hxl]) (by simp [aF,aG,aN,bD,wkL,wk,wkR,wkB,blk,pos]) (by simp [wH]) rfl (by simp [ren,cI,back]) (by simp [aD]) ?_
  simp -implicitDefEqProofs only [rX,↓rY,aA,cells?,splice,↓reduceIte,Nat.reduceEqDiff,Nat.reduceAdd,isC,wH,wB,bM,bX,cI,ren,cJ,back,hxl,g3,Nat.reduceAdd]
  rw [fO]
  simp -implicitDefEqProofs only [rX,↓rY,↓reduceIte,Nat.reduceEqDiff,Nat.reduceAdd,aL,aM,aD,aB,wfV,wfL,g3]
  refine ⟨[.dead,.dead,.arr 1 (x.map encI),.dead,.dead,.arr 1 (p.map encI),.dead,.dead,.dead,.arr 1 []],⟨by simp [leH,leB],by simp [wfV,wfL,aB],by simp [wfB]⟩,_,⟨⟨hok,fun h=>absurd h (yaJ _)⟩,hS⟩,⟨_,[.dead,.dead,.dead,.arr 1 []],rfl,rfl,by simp [gvV,blk]⟩,?_⟩
  have e1:yah arcs.length (x.map encI)=x.map encI:=tZ hxl
  have e2:yah N (p.map encI)=p.map encI:=tZ hpl
  simp [gvV,gvL,wk,wkL,wkR,blk,Fr.enc,li,e1,e2,Dx,hxl,hpl]
theorem ajI (hV:Val N arcs) (hN:N≤64) (hf:f<N) (ht:t<N) (hft:f≠t) (hal:arcs.length≤100) (ham:0≤am∧am≤2199023255552) (htask:Gc N f t am=true) :
  Ok 66 [net N arcs,.i f,.i t,.i am] (IsQ (fun fr=>OkAc N arcs f t am fr∧Tight arcs f am fr) (fun fr=>.tup [fr.enc,.i 0]) (fun _=>[])):=by
 refine ⟨iX lw66,Un (R:=R13 N arcs f t am) ?_ fun r hs ⟨fr,h1,_,h2⟩=>⟨_,h2,fr,h1.1,rfl,rfl⟩⟩
 exact (adC hV hN hf ht hft hal ham htask).2
end
end Go.Fx.P.K
namespace Go.Fx.P
open Go Go.Fx Go.Fx.E Go.Proofs
set_option maxRecDepth 20000
theorem Ww {ps:List aH} {rs:List Road} (hc:fI ps rs=0) (h1:ps.length≤10) (h2:rs.length≤25):nN ps≤64∧(cK ps rs).length≤100:=by
 have:=xC (ps:=ps) (l:=rs)
 simp only [nN,cK];omega
theorem akC (ps:List aH) (rs:List Road) (h:agS ps rs):Ok 29 [bF ps rs] (IsQ (fun fr=>oC ps rs fr∧K.Tight (cK ps rs) 0 (dem ps) fr) (fun fr=>.tup [fr.enc,.i 0]) (fun _=>[])):=by
 obtain ⟨hc,hl,hr⟩:=h
 obtain ⟨⟨_,_⟩,hcap,hv⟩:=iJ hc
 have hV:=xB hc
 have hb:=Ww hc hl hr
 have hd:0≤dem ps∧dem ps≤10737418240:=by
  have h1:=xX hcap (ofN ps 1 ps.length)
  have h2:=fF (ps:=ps) (kind:=1) (n:=ps.length)
  unfold dem
  omega
 have ht:K.Gc (nN ps) (0:Nat) (1:Nat) (dem ps)=true:=by
  have e:((nN ps:Nat):Int)=2+2*ps.length:=by simp [nN]
  refine decide_eq_true ⟨⟨by omega,by omega⟩,⟨by omega,by omega⟩,by omega,hd.1,by omega⟩
 have e46:=K.ajI (f:=0) (t:=1) (am:=dem ps) hV hb.1 (by simp only [nN];omega) (by simp only [nN];omega) (by omega) hb.2 ⟨hd.1,by omega⟩ ht
 refine ok_of lw29 (by simp) ?_
 unfold c29 bF sps rds
 simp -implicitDefEqProofs only [rX,↓rY,aA,cells?,↓reduceIte,Nat.reduceEqDiff,Nat.reduceAdd,aC,cxN,aK]
 refine aE (adK ps rs) (by simp [bF,sps,rds,aF,aG,aN,bD,wkL,wk,wkR]) rfl trivial ?_
 simp -implicitDefEqProofs only [rX,↓rY,rdK,aA,cells?,splice,↓reduceIte,Nat.reduceEqDiff,Nat.reduceAdd,bH,isC,hc,bne_self_eq_false]
 refine aE (aaJ ps rs (by omega) (by omega) hv) (by simp [bF,sps,rds,aF,aG,aN,bD,wkL,wk,wkR]) rfl trivial ?_
 simp -implicitDefEqProofs only [rX,↓reduceIte,Nat.reduceEqDiff]
 refine aE (aaH ps rs (by omega) hcap) (by simp [bF,sps,rds,aF,aG,aN,bD,wkL,wk,wkR]) rfl trivial ?_
 simp -implicitDefEqProofs only [rX,aA,↓reduceIte,Nat.reduceEqDiff]
 rw [Hc]
 refine fC (fun fr=>K.OkAc (nN ps) (cK ps rs) 0 1 (dem ps) fr∧K.Tight (cK ps rs) 0 (dem ps) fr) [] [] [] [net (nN ps) (cK ps rs),.i 0,.i 1,.i (dem ps)] (fun fr=>.tup [fr.enc,.i 0]) [] (fun _=>[]) e46 ⟨by simp,by simp⟩ ⟨rfl,by simp⟩ rfl (by simp [net,aF,aG,aN,bD,wkL,wk,wkR]) fun fr hfr=>⟨trivial,?_⟩
 simp -implicitDefEqProofs only [rX,↓rY,cells?,splice,↓reduceIte,Nat.reduceEqDiff,Nat.reduceAdd,bO,bE,kill,bQ,St.kill,isC,Fr.enc,li,bM,ren,cI]
 refine dT (Q:=fun fr=>oC ps rs fr∧K.Tight (cK ps rs) 0 (dem ps) fr) fr ⟨⟨hc,⟨hl,hr⟩,hfr.1⟩,hfr.2⟩ ?_
 simp -implicitDefEqProofs only [rX,↓rY,↓reduceIte,Nat.reduceEqDiff,Nat.reduceAdd,aL,aM,leH,aD,wfB,wfV,wfL]
open Classical in
noncomputable def oK (ps:List aH) (rs:List Road) (fr:Fr):Int:=if fI ps rs≠0 then fI ps rs else K.accI (nN ps) (cK ps rs) 0 1 (dem ps) fr
theorem adP (ps:List aH) (rs:List Road) (fr:Fr):Ok 38 [bF ps rs,fr.enc] (Is (.i (oK ps rs fr))):=by
 refine ok_of lw38 (by simp) ?_
 unfold c38 bF sps rds Fr.enc li
 simp -implicitDefEqProofs only [rX,↓rY,aA,cells?,↓reduceIte,Nat.reduceEqDiff,Nat.reduceAdd,reduceCtorEq,aC,cxN,aK]
 refine aE (adK ps rs) (by simp [bF,sps,rds,aF,aG,aN,bD,wkL,wk,wkR]) rfl trivial ?_
 by_cases hc:fI ps rs=0
 ·obtain ⟨⟨hl,hr⟩,hcap,hv⟩:=iJ hc
  have hV:=xB hc
  have e:((nN ps:Nat):Int)=2+2*ps.length:=by simp [nN]
  simp -implicitDefEqProofs only [rX,↓rY,rdK,aA,↓reduceIte,Nat.reduceEqDiff,Nat.reduceAdd,aL,aM,wfV,hc,bne_self_eq_false]
  refine aE (aaJ ps rs hl hr hv) (by simp [bF,sps,rds,aF,aG,aN,bD,wkL,wk,wkR]) rfl trivial ?_
  simp -implicitDefEqProofs only [rX,↓reduceIte,Nat.reduceEqDiff]
  refine aE (aaH ps rs hl hcap) (by simp [bF,sps,rds,aF,aG,aN,bD,wkL,wk,wkR]) rfl trivial ?_
  simp -implicitDefEqProofs only [rX,aA,↓reduceIte,Nat.reduceEqDiff]
  rw [Hc]
  refine aE (K.ajF (nN ps) (cK ps rs) 0 1 (dem ps) fr hV (by omega) (by omega)) (by simp [net,Fr.enc,li,aF,aG,aN,bD,wkL,wk,wkR]) rfl trivial ?_
  simp -implicitDefEqProofs only [rX,↓reduceIte,aL,aM,wfV,oK,hc]
  simp
 ·have hb:(fI ps rs != 0)=true:=by simpa using hc
  simp -implicitDefEqProofs only [rX,↓rY,rdK,aA,↓reduceIte,Nat.reduceEqDiff,Nat.reduceAdd,aL,aM,wfV,hb]
  rw [oK,if_pos hc]
theorem oC.acc0 {ps:List aH} {rs:List Road} {fr:Fr} (h:oC ps rs fr):oK ps rs fr=0:=by
 rw [oK,if_neg (by simp [h.chk]),K.accI,if_pos h.acc]
end Go.Fx.P
namespace Go.Fx.E
open Go Go.Fx Go.Proofs
set_option maxRecDepth 20000
structure Rf where
 place:Int
 n:Int
 win:Int
 sent:Int
 cut:List Int
 lo:Int
 hi:Int
 serial:Int
 sg:Bs
def Rf.enc (r:Rf):List V:=.i r.place::.i r.n::.i r.win::.i r.sent::P.li r.cut::.i r.lo::.i r.hi::.i r.serial::us r.sg
def partsOf (r:Rf):List Bs:=[lB [r.place,r.n,r.win,r.sent,r.lo,r.hi,r.serial],lB r.cut]
structure Rf.Ok (r:Rf):Prop where
 n7:In64 [r.place,r.n,r.win,r.sent,r.lo,r.hi,r.serial]
 cut:In64 r.cut
 len:r.cut.length≤1000000
theorem tK {cx:Cx} {f:FuncId} {args:List V} {e:Env} {h:List Blk} {b:Nat} {K:V→St→Prop} {xs:List V} {n:Nat} {els:List (List V)} (hC:cx.C f xs [] [] (IsA (.sl 0 0 n) [.arr 1 els])) (h1:aF h (fun _=>none) args∧wkL xs (aN h (fun _=>none) args))
  (keep:aD cx.fx (h++[.arr 1 els])) (h3:K (.sl h.length 0 n) ⟨e,h++[.arr 1 els],b⟩):lS cx f args ⟨e,h,b⟩ K :=
 dE xs _ _ _ _ hC h1 rfl rfl keep h3
theorem tM {l:Bs} {n:Nat} (h:n=l.length):yah n (l.map by1)=l.map by1:=yaq (by rw [List.length_map,h];exact yas _)
set_option maxHeartbeats 2000000 in
theorem adN (r:Rf) (hr:r.Ok):Ok 41 [.agg r.enc] (Is (rS (partsOf r))):=by
 refine oU (ok_of lw41 (by simp) ?_)
 unfold c41 Rf.enc
 have o7:=adJ [r.place,r.n,r.win,r.sent,r.lo,r.hi,r.serial] hr.n7 (by simp)
 have oc:=adJ r.cut hr.cut (by have:=hr.len;omega)
 have t7:=tM (l:=lB [r.place,r.n,r.win,r.sent,r.lo,r.hi,r.serial]) rfl
 have tc:=tM (l:=lB r.cut) rfl
 simp -implicitDefEqProofs only [rX,↓rY,rdK,aA,cells?,↓reduceIte,Nat.reduceEqDiff,Nat.reduceAdd,aC,bZ,isD,Nat.reduceLT,aJ,aK]
 have fin:∀ (e:Env) (h:List Blk) (b:Nat),get e 2=.sl 2 0 2→h[2]?=some (.arr 1 [[V.v (Value.string (sb (lB [r.place,r.n,r.win,r.sent,r.lo,r.hi,r.serial])))],[V.v (Value.string (sb (lB r.cut)))]])→eL [] 0 [gY.tmp 2] (Gv (rS (partsOf r))) ⟨e,h,b⟩ :=
  fun e h b h1 h2=>Ee h1 h2 rfl
 repeat' first
  | exact fin _ _ _ rfl rfl
  | (exact Or.inr trivial)
  | refine And.intro ?_ ?_
  | (refine tK o7 ⟨⟨yas 7,trivial⟩,⟨rfl,rfl⟩,trivial⟩ trivial ?_
     simp -implicitDefEqProofs only [rX,↓rY,↓reduceIte,Nat.reduceEqDiff,Nat.reduceAdd,aJ,t7,f5,vD])
  | (refine tK oc ⟨⟨trivial,trivial⟩,⟨rfl,rfl⟩,trivial⟩ trivial ?_
     simp -implicitDefEqProofs only [rX,↓rY,cells?,↓reduceIte,Nat.reduceEqDiff,Nat.reduceAdd,aC,bZ,isD,Nat.reduceLT,aJ,t7,tc,f5,vD])
set_option maxHeartbeats 2000000 in
theorem ajP (r:Rf) (hr:r.Ok):Ok 49 [.agg r.enc] (Is (rS (partsOf r))):=by
 refine oU (ok_of lw49 (by simp) ?_)
 unfold c49 Rf.enc
 have o7:=adH [r.place,r.n,r.win,r.sent,r.lo,r.hi,r.serial] hr.n7 (by simp)
 have oc:=adH r.cut hr.cut (by have:=hr.len;omega)
 have t7:=tM (l:=lB [r.place,r.n,r.win,r.sent,r.lo,r.hi,r.serial]) rfl
 have tc:=tM (l:=lB r.cut) rfl
 simp -implicitDefEqProofs only [rX,↓rY,rdK,aA,cells?,↓reduceIte,Nat.reduceEqDiff,Nat.reduceAdd,aC,bZ,isD,Nat.reduceLT,aJ,aK]
 have fin:∀ (e:Env) (h:List Blk) (b:Nat),get e 2=.sl 2 0 2→h[2]?=some (.arr 1 [[V.v (Value.string (sb (lB [r.place,r.n,r.win,r.sent,r.lo,r.hi,r.serial])))],[V.v (Value.string (sb (lB r.cut)))]])→eL [] 0 [gY.tmp 2] (Gv (rS (partsOf r))) ⟨e,h,b⟩ :=
  fun e h b h1 h2=>Ee h1 h2 rfl
 repeat' first
  | exact fin _ _ _ rfl rfl
  | (exact Or.inr trivial)
  | refine And.intro ?_ ?_
  | (refine tK o7 ⟨⟨yas 7,trivial⟩,⟨rfl,rfl⟩,trivial⟩ trivial ?_
     simp -implicitDefEqProofs only [rX,↓rY,↓reduceIte,Nat.reduceEqDiff,Nat.reduceAdd,aJ,t7,f5,vD])
  | (refine tK oc ⟨⟨trivial,trivial⟩,⟨rfl,rfl⟩,trivial⟩ trivial ?_
     simp -implicitDefEqProofs only [rX,↓rY,cells?,↓reduceIte,Nat.reduceEqDiff,Nat.reduceAdd,aC,bZ,isD,Nat.reduceLT,aJ,t7,tc,f5,vD])
set_option maxRecDepth 20000
def KyP (k:Ky):Prop:=(1≤k.party∧k.party≤1073741824)∧(1≤k.serial∧k.serial≤1073741824)∧(1≤k.sec.length∧k.sec.length≤64)∧0≤k.fr∧k.fr<k.to∧k.to≤1099511627776
instance (k:Ky):Decidable (KyP k):=by unfold KyP;infer_instance
def kyB (k:Ky):Bool:=decide (KyP k)
theorem oV {p:Prop} [Decidable p] {t:Bool} (h:t=true↔p):t=decide p:=by rw [Bool.eq_iff_iff,h];simp
theorem ajZ (k:Ky):Ok 35 [.agg k.enc] (Is (.b (kyB k))):=by
 refine ok_of lw35 (by simp) ?_
 unfold c35 Ky.enc
 simp -implicitDefEqProofs only [rX,↓rY,aA,cells?,↓reduceIte,Nat.reduceEqDiff,aC,aL,aM,wfV,eW,aK]
 simp only [br,decide_eq_true_eq,decide_eq_false_iff_not,beq_iff_eq,beq_eq_false_iff_ne]
 have e:∀ t:Bool,(t=true↔KyP k)→t=kyB k:=fun t=>oV
 simp only [KyP] at e
 repeat' (first|(refine ⟨(0:_),?_⟩)|(refine ⟨by omega,?_⟩)|(refine And.intro ?_ ?_)|(refine (fun _=>?_)))
 all_goals (apply e;first|omega|(simp only [yak,false_iff,decide_eq_true_eq];omega))
theorem ajW (k:Ky):Ok 42 [.agg k.enc] (Is (.b (kyB k))):=by
 refine ok_of lw42 (by simp) ?_
 unfold c42 Ky.enc
 simp -implicitDefEqProofs only [rX,↓rY,aA,cells?,↓reduceIte,Nat.reduceEqDiff,aC,aL,aM,wfV,eW,aK]
 simp only [br,decide_eq_true_eq,decide_eq_false_iff_not,beq_iff_eq,beq_eq_false_iff_ne]
 have e:∀ t:Bool,(t=true↔KyP k)→t=kyB k:=fun t=>oV
 simp only [KyP] at e
 repeat' (first|(refine ⟨(0:_),?_⟩)|(refine ⟨by omega,?_⟩)|(refine And.intro ?_ ?_)|(refine (fun _=>?_)))
 all_goals (apply e;first|omega|(simp only [yak,false_iff,decide_eq_true_eq];omega))
def PeP (a b:Int):Prop:=0≤a∧a≤b∧b≤1099511627776
instance (a b:Int):Decidable (PeP a b):=by unfold PeP;infer_instance
def peB (a b:Int):Bool:=decide (PeP a b)
theorem ajY (a b:Int):Ok 36 [.agg [.i a,.i b]] (Is (.b (peB a b))):=by
 refine ok_of lw36 (by simp) ?_
 unfold c36
 simp -implicitDefEqProofs only [rX,↓rY,aA,cells?,↓reduceIte,Nat.reduceEqDiff,aC,aL,aM,wfV,aK]
 simp only [br,decide_eq_true_eq,decide_eq_false_iff_not,beq_iff_eq,beq_eq_false_iff_ne]
 have e:∀ t:Bool,(t=true↔PeP a b)→t=peB a b:=fun t=>oV
 simp only [PeP] at e
 repeat' (first|(refine ⟨(0:_),?_⟩)|(refine ⟨by omega,?_⟩)|(refine And.intro ?_ ?_)|(refine (fun _=>?_)))
 all_goals (apply e;first|omega|(simp only [yak,false_iff,decide_eq_true_eq];omega))
def pS (a:Int):Bool:=decide (0≤a∧a≤1099511627776)
theorem adI (a:Int):Ok 73 [.i a] (Is (.b (pS a))):=by
 refine ok_of lw73 (by simp) ?_
 unfold c73
 simp -implicitDefEqProofs only [rX,↓rY,aA,↓reduceIte,Nat.reduceEqDiff,reduceCtorEq,aL,aM,wfV,aK]
 simp only [br,decide_eq_true_eq,decide_eq_false_iff_not,beq_iff_eq,beq_eq_false_iff_ne]
 have e:∀ t:Bool,(t=true↔(0≤a∧a≤1099511627776))→t=pS a:=fun t=>oV
 repeat' (first|(refine ⟨(0:_),?_⟩)|(refine ⟨by omega,?_⟩)|(refine And.intro ?_ ?_)|(refine (fun _=>?_)))
 all_goals (apply e;first|omega|(simp only [yak,false_iff,decide_eq_true_eq];omega))
theorem ajV (a b:Int):Ok 43 [.agg [.i a,.i b]] (Is (.b (peB a b))):=by
 refine ok_of lw43 (by simp) ?_
 unfold c43
 simp -implicitDefEqProofs only [rX,↓rY,aA,cells?,↓reduceIte,Nat.reduceEqDiff,aC,aK]
 refine aE (adI a) ⟨⟨trivial,trivial⟩,rfl,trivial⟩ rfl trivial ?_
 have e:∀ t:Bool,(t=true↔PeP a b)→t=peB a b:=fun t=>oV
 simp only [PeP] at e
 cases h1:pS a with
 | false =>
  have h1':=of_decide_eq_false h1
  simp -implicitDefEqProofs only [rX,↓rY,aA,↓reduceIte,Nat.reduceEqDiff,aL,aM,wfV]
  apply e;simp only [yak,false_iff];omega
 | true =>
  have h1':=of_decide_eq_true h1
  simp -implicitDefEqProofs only [rX,↓rY,↓reduceIte,Nat.reduceEqDiff]
  refine aE (adI b) ⟨⟨trivial,trivial⟩,rfl,trivial⟩ rfl trivial ?_
  cases h2:pS b with
  | false =>
   have h2':=of_decide_eq_false h2
   simp -implicitDefEqProofs only [rX,↓rY,aA,↓reduceIte,Nat.reduceEqDiff,aL,aM,wfV]
   apply e;simp only [yak,false_iff];omega
  | true =>
   have h2':=of_decide_eq_true h2
   simp -implicitDefEqProofs only [rX,↓rY,↓reduceIte,Nat.reduceEqDiff,aL,aM,wfV]
   apply e;simp only [decide_eq_true_eq];omega
theorem adQ (a:Int):Ok 37 [.i a] (Is (.b (pS a))):=by
 refine ok_of lw37 (by simp) ?_
 unfold c37
 simp -implicitDefEqProofs only [rX,↓rY,aA,↓reduceIte,Nat.reduceEqDiff,reduceCtorEq,aL,aM,wfV,aK]
 simp only [br,decide_eq_true_eq,decide_eq_false_iff_not,beq_iff_eq,beq_eq_false_iff_ne]
 have e:∀ t:Bool,(t=true↔(0≤a∧a≤1099511627776))→t=pS a:=fun t=>oV
 repeat' (first|(refine ⟨(0:_),?_⟩)|(refine ⟨by omega,?_⟩)|(refine And.intro ?_ ?_)|(refine (fun _=>?_)))
 all_goals (apply e;first|omega|(simp only [yak,false_iff,decide_eq_true_eq];omega))
theorem ajT (a:Int):Ok 45 [.i a] (Is (.b (pS a))):=by
 refine ok_of lw45 (by simp) ?_
 unfold c45
 simp -implicitDefEqProofs only [rX,↓rY,aA,↓reduceIte,Nat.reduceEqDiff,reduceCtorEq,aL,aM,wfV,aK]
 simp only [br,decide_eq_true_eq,decide_eq_false_iff_not,beq_iff_eq,beq_eq_false_iff_ne]
 have e:∀ t:Bool,(t=true↔(0≤a∧a≤1099511627776))→t=pS a:=fun t=>oV
 repeat' (first|(refine ⟨(0:_),?_⟩)|(refine ⟨by omega,?_⟩)|(refine And.intro ?_ ?_)|(refine (fun _=>?_)))
 all_goals (apply e;first|omega|(simp only [yak,false_iff,decide_eq_true_eq];omega))
def Up (k:Ky) (a b:Int):Prop:=0≤a∧a≤b∧b≤1099511627776∧k.fr≤a∧b<k.to
instance (k:Ky) (a b:Int):Decidable (Up k a b):=by unfold Up;infer_instance
def Tv (k:Ky) (a b:Int):Bool:=decide (Up k a b)
theorem aiY (k:Ky) (a b:Int):Ok 80 [.agg k.enc,.agg [.i a,.i b]] (Is (.b (Tv k a b))):=by
 refine ok_of lw80 (by simp) ?_
 unfold c80 Ky.enc
 simp -implicitDefEqProofs only [rX,↓rY,aA,cells?,↓reduceIte,Nat.reduceEqDiff,Nat.reduceAdd,reduceCtorEq,aC,aL,aM,wfV,aK]
 simp only [br,decide_eq_true_eq,decide_eq_false_iff_not,beq_iff_eq,beq_eq_false_iff_ne]
 have e:∀ t:Bool,(t=true↔Up k a b)→t=Tv k a b:=fun t=>oV
 simp only [Up] at e
 repeat' (first|(refine ⟨(0:_),?_⟩)|(refine ⟨by omega,?_⟩)|(refine And.intro ?_ ?_)|(refine (fun _=>?_)))
 all_goals (apply e;first|omega|(simp only [yak,false_iff,decide_eq_true_eq];omega))
def Lf (a b:Ky):Prop:=a.party<b.party∨(a.party=b.party∧a.serial<b.serial)
instance (a b:Ky):Decidable (Lf a b):=by unfold Lf;infer_instance
set_option maxRecDepth 20000
def v8 (k:Ky) (p s:Int):Int:=if k.party=p then IntKind.i64.wrap (k.serial-s) else IntKind.i64.wrap (k.party-p)
theorem Yb (k:Ky) (p s:Int):OkN Tryz.prog 137 [.agg k.enc,.i p,.ptr 0 0 0] [.var [.i s]] [] (IsA (.i (v8 k p s)) [.var [.i s]]):=by
 refine eR pol [0] lw137 (by simp) ⟨trivial,trivial⟩ (by simp) ?_
 unfold c137 Ky.enc
 simp -implicitDefEqProofs only [rX,↓rY,aA,cells?,↓reduceIte,Nat.reduceEqDiff,Nat.reduceAdd,reduceCtorEq,aC,aL,aM,leH,leB,leV,aZ,aD,aB,wfB,wfV,wfL,aK,cA,v8]
 simp only [br,bne_iff_ne,bne_eq_false_iff_eq,ne_eq]
 refine ⟨fun h=>by rw [if_neg h],fun h=>by rw [if_pos h]⟩
structure Bi (l:List Ky):Prop where
 ok:∀ k∈l,KyP k
 ord:l.Pairwise Lf
def ltK (k:Ky) (p s:Int):Prop:=k.party<p∨(k.party=p∧k.serial<s)
theorem Ps {x:Int} (h:-18446744073709551616<x∧x<18446744073709551616):IntKind.i64.wrap x=0↔x=0:=by
 simp [IntKind.wrap,IntKind.bits,IntKind.signed];omega
def PS (p s:Int):Prop:=(0≤p∧p≤1099511627776)∧-9223372036854775808≤s∧s≤9223372036854775807
theorem Tw {k:Ky} {p s:Int} (hk:KyP k) (h:PS p s):v8 k p s=0↔(k.party=p∧k.serial=s):=by
 obtain ⟨h1,h2,_⟩:=hk
 obtain ⟨h3,h4⟩:=h
 unfold v8
 split
 ·rename_i e;rw [Ps (by omega)];omega
 ·rename_i e;rw [Ps (by omega)];omega
theorem Nd {k:Ky} {p s:Int} (hk:KyP k) (h:PS p s) (hs:1≤s):v8 k p s<0↔ltK k p s:=by
 obtain ⟨h1,h2,_⟩:=hk
 obtain ⟨h3,h4⟩:=h
 unfold v8 ltK
 split
 ·rename_i e;rw [dF .i64 _ (by simp only [lo,Fx.hi];omega)];omega
 ·rename_i e;rw [dF .i64 _ (by simp only [lo,Fx.hi];omega)];omega
theorem sh_r {k:IntKind} {a c:Int} {K:V→Prop}:bU .shr k a c K=(0≤c∧K (.v (.int k (a.fdiv (2 ^ (min c.toNat k.bits)))))):=rfl
structure Fnd (l:List Ky) (p s:Int) (g:Nat × Bool):Prop where
 le:g.1≤l.length
 y:g.2=true→∃ h:g.1<l.length,l[g.1].party=p∧l[g.1].serial=s
 n:g.2=false→∀ k∈l,¬(k.party=p∧k.serial=s)
theorem aeC (l:List Ky) (p s:Int) (hR:Bi l) (hl:l.length≤1000000) (hps:PS p s):OkN Tryz.prog 136 [.bro 5 (l.map Ky.enc),.i p,.clo 137 [.ptr 0 0 0]] [.var [.i s]] [] (IsQ (Fnd l p s) (fun g=>.tup [.i g.1,.b g.2]) (fun _=>[.var [.i s]])):=by
 refine eR pol [0] lw136 (by simp) ⟨trivial,trivial⟩ (by simp) ?_
 unfold c136
 simp -implicitDefEqProofs only [rX,↓rY,aA,↓reduceIte,Nat.reduceEqDiff,Nat.reduceAdd,reduceCtorEq,aJ,aK]
 intro hmx
 have hp:=ybd.1 hR.ord
 refine cD (fun g:Nat × Nat=>(⟨[(10,.i g.2),(9,.i g.1),(8,.i l.length),(2,.clo 137 [.ptr 0 0 0]),(1,.i p),(0,.bro 5 (l.map Ky.enc))],[.var [.i s]],1⟩:St)) (fun g=>(g.1≤g.2∧g.2≤l.length)∧(1≤s→∀ j (h:j<l.length),j<g.1→ltK l[j] p s)∧(1≤s→∀ j (h:j<l.length),g.2≤j→¬ltK l[j] p s)) (fun g=>g.2-g.1) (0,l.length) ⟨⟨by simp,by simp⟩,fun _ j _ h=>by simp at h,fun _ j h h2=>by simp at h2;omega⟩ ?_ ?_
 ·simp -implicitDefEqProofs only [rX,↓reduceIte,Nat.reduceEqDiff,reduceCtorEq,leE,leH,leB,leV,aZ,aD,aB,wfE,wfB,wfV,wfL,yae]
 rintro ⟨i,j⟩ ⟨⟨hij,hj⟩,h1,h2⟩ N hN
 simp only at hij hj h1 h2
 unfold c136l0
 rcases yau i j with c|c
 ·have hd:decide ((i:Int)<(j:Int))=true:=decide_eq_true (by omega)
  have hw:IntKind.wrap .u64 ((i:Int)+(j:Int))=((i+j:Nat):Int):=by rw [dF .u64 _ (by simp only [lo,Fx.hi];omega)];omega
  have hdv:((i+j:Nat):Int).fdiv (2 ^ (min (yai 1) IntKind.u64.bits))=(((i+j)/2:Nat):Int):=by
   rw [show min (yai 1) IntKind.u64.bits=1 from rfl]
   rw [yba _ (by decide)]
   omega
  have hw2:IntKind.wrap .i64 (((i+j)/2:Nat):Int)=(((i+j)/2:Nat):Int):=dF .i64 _ (by simp only [lo,Fx.hi];omega)
  have hk:(i+j)/2<l.length:=by omega
  have hkP:=hR.ok _ (yag hk)
  simp -implicitDefEqProofs only [rX,↓rY,aA,↓reduceIte,Nat.reduceEqDiff,reduceCtorEq,yac,yaa,hd,hw,hdv,hw2,↓sh_r,yap hk,Ah,s7]
  refine ⟨by simp only [lo,Fx.hi];omega,by omega,⟨by omega,by omega⟩,hk,?_⟩
  refine cY [0] [.agg l[(i+j)/2].enc,.i p,.ptr 0 0 0] (.i (v8 l[(i+j)/2] p s)) (.i (v8 l[(i+j)/2] p s)) [.var [.i s]] [.var [.i s]] _ (Yb l[(i+j)/2] p s) (by simp [aQ]) rfl (by simp [aF,aG,aN,bD,wkL,wk,wkR,pos,Ky.enc]) (by simp) rfl rfl ⟨trivial,trivial⟩ ?_
  cases h4:decide (v8 l[(i+j)/2] p s<0) with
  | true =>
   have h4':=of_decide_eq_true h4
   simp -implicitDefEqProofs only [rX,↓rY,aA,↓reduceIte,Nat.reduceEqDiff,h4,bM,bX,cI,ren]
   refine ⟨by simp only [lo,Fx.hi];omega,hN _ ((i+j)/2+1,j) ⟨⟨by simp only;omega,hj⟩,fun hs q hk2 hlt=>?_,h2⟩ (by simp only;omega) (by simp -implicitDefEqProofs only [rX,↓reduceIte,Nat.reduceEqDiff,reduceCtorEq,leE,leH,leB,leV,aZ,aD,aB,wfE,wfB,wfV,wfL];simp)⟩
   simp only at hlt
   have h3:=(Nd hkP hps hs).1 h4'
   by_cases e:q=(i+j)/2
   ·subst e;exact h3
   ·have:=hp q ((i+j)/2) hk2 hk (by omega)
    unfold Lf at this
    unfold ltK at h3 ⊢
    omega
  | false =>
   have h4':=of_decide_eq_false h4
   simp -implicitDefEqProofs only [rX,↓rY,aA,↓reduceIte,Nat.reduceEqDiff,h4,bM,bX,cI,ren]
   refine hN _ (i,(i+j)/2) ⟨⟨by simp only;omega,by simp only;omega⟩,h1,fun hs q hk2 hlt hlk=>?_⟩ (by simp only;omega) (by simp -implicitDefEqProofs only [rX,↓reduceIte,Nat.reduceEqDiff,reduceCtorEq,leE,leH,leB,leV,aZ,aD,aB,wfE,wfB,wfV,wfL])
   simp only at hlt
   have h3:¬ltK l[(i+j)/2] p s:=fun h=>h4' ((Nd hkP hps hs).2 h)
   by_cases e:q=(i+j)/2
   ·subst e;exact h3 hlk
   ·have:=hp ((i+j)/2) q hk hk2 (by omega)
    unfold Lf at this
    unfold ltK at h3 hlk
    omega
 ·have hd:decide ((i:Int)<(j:Int))=false:=decide_eq_false (by omega)
  have he:i=j:=by omega
  subst he
  have none:∀ q (hq:q<l.length),q≠i→¬(l[q].party=p∧l[q].serial=s):=by
   intro q hq hqi hm
   have hqP:=hR.ok _ (yag hq)
   have hs:1≤s:=by have:=hqP.2.1;omega
   rcases yau q i with d|d
   ·have:=h1 hs q hq d
    unfold ltK at this
    omega
   ·have hi:i<l.length:=by omega
    have h5:=h2 hs i hi (yas _)
    have:=hp i q hi hq (by omega)
    unfold Lf at this
    unfold ltK at h5
    omega
  rcases yau i l.length with c2|c2
  ·have hd2:decide ((i:Int)<(l.length:Int))=true:=decide_eq_true (by omega)
   have hiP:=hR.ok _ (yag c2)
   simp -implicitDefEqProofs only [rX,↓rY,↓reduceIte,Nat.reduceEqDiff,reduceCtorEq,yac,yaa,hd,hd2,yap c2,Ah,s7]
   refine ⟨⟨by omega,by omega⟩,c2,?_⟩
   refine cY [0] [.agg l[i].enc,.i p,.ptr 0 0 0] (.i (v8 l[i] p s)) (.i (v8 l[i] p s)) [.var [.i s]] [.var [.i s]] _ (Yb l[i] p s) (by simp [aQ]) rfl (by simp [aF,aG,aN,bD,wkL,wk,wkR,pos,Ky.enc]) (by simp) rfl rfl ⟨trivial,trivial⟩ ?_
   simp -implicitDefEqProofs only [rX,↓rY,aA,↓reduceIte,Nat.reduceEqDiff,bM,bX,cI,ren]
   refine dT (Q:=Fnd l p s) (i,v8 l[i] p s==0) ⟨by omega,fun h=>⟨c2,(Tw hiP hps).1 (by simpa using h)⟩,fun h k hk hm=>?_⟩ ?_
   ·obtain ⟨q,hq,rfl⟩:=yao hk
    by_cases e:q=i
    ·subst e
     have:=(Tw hiP hps).2 hm
     simp [this] at h
    ·exact none q hq e hm
   ·simp -implicitDefEqProofs only [rX,↓reduceIte,Nat.reduceEqDiff,aL,aM,leH,leB,leV,aZ,aD,aB,wfB,wfV,wfL]
  ·have hd2:decide ((i:Int)<(l.length:Int))=false:=decide_eq_false (by omega)
   simp -implicitDefEqProofs only [rX,↓rY,aA,↓reduceIte,Nat.reduceEqDiff,hd,hd2]
   refine dT (Q:=Fnd l p s) (i,false) ⟨by omega,(fun h=>by cases h),fun h k hk hm=>?_⟩ ?_
   ·obtain ⟨q,hq,rfl⟩:=yao hk
    exact none q hq (by omega) hm
   ·simp -implicitDefEqProofs only [rX,↓reduceIte,Nat.reduceEqDiff,aL,aM,leH,leB,leV,aZ,aD,aB,wfB,wfV,wfL]
set_option maxRecDepth 20000
def bK (l:List Ky):V:=.bro 5 (l.map Ky.enc)
theorem aeN (l:List Ky) (p s:Int) (hR:Bi l) (hl:l.length≤1000000) (hps:PS p s):Ok 109 [bK l,.i p,.i s] (IsQ (Fnd l p s) (fun g=>.tup [.i g.1,.b g.2]) (fun _=>[.var [.i s]])):=by
 refine ok_of lw109 (by simp) ?_
 unfold c109 bK
 simp -implicitDefEqProofs only [rX,↓rY,aA,cells?,↓reduceIte,Nat.reduceEqDiff,Nat.reduceAdd,reduceCtorEq,aC,aK]
 refine fC (Fnd l p s) [0] [] [] [.bro 5 (l.map Ky.enc),.i p,.clo 137 [.ptr 0 0 0]] (fun g=>.tup [.i g.1,.b g.2]) [.var [.i s]] (fun _=>[.var [.i s]]) (aeC l p s hR hl hps) ⟨by simp,by simp [aQ]⟩ ⟨rfl,by simp⟩ rfl (by simp [aF,aG,aN,bD,wkL,wk,wkR,wkB,pos]) ?_
 intro g hg
 simp -implicitDefEqProofs only [rX,↓rY,↓reduceIte,Nat.reduceEqDiff,bO,bE,kill,bQ,St.kill,aJ,Yn,bM,bX,cI,ren]
 refine dT (Q:=Fnd l p s) g hg ?_
 simp -implicitDefEqProofs only [rX,↓reduceIte,Nat.reduceEqDiff,aL,aM,leH,leB,leV,aZ,aD,wfB,wfV,wfL,Nat.reduceLeDiff]
def pZ (l:List Ky) (p s:Int):Option Ky:=l.find? fun k=>decide (k.party=p∧k.serial=s)
def zKy:Ky:=⟨0,0,[],0,0⟩
theorem Ki {l:List Ky} {p s:Int} (hR:Bi l) {i:Nat} (hi:i<l.length) (h:l[i].party=p∧l[i].serial=s):pZ l p s=some l[i]:=by
 unfold pZ
 rw [List.find?_eq_some_iff_getElem]
 refine ⟨by simpa using h,i,hi,rfl,fun j hj=>?_⟩
 have:=ybd.1 hR.ord j i (by omega) hi hj
 unfold Lf at this
 have hn:¬(l[j].party=p∧l[j].serial=s):=by omega
 simp only [decide_eq_false hn,Bool.not_false]
theorem Kj {l:List Ky} {p s:Int} (h:∀ k∈l,¬(k.party=p∧k.serial=s)):pZ l p s=none:=by
 unfold pZ
 rw [List.find?_eq_none]
 intro k hk
 have:=h k hk
 simpa using this
theorem afE {q:List Blk} {k:Ky}:wfL q k.enc:=⟨trivial,trivial,trivial,trivial,trivial,trivial⟩
theorem aiZ (l:List Ky) (p s:Int) (hR:Bi l) (hl:l.length≤1000000) (hps:PS p s):Ok 79 [bK l,.i p,.i s] (Is (.tup [.agg ((pZ l p s).getD zKy).enc,.i (if (pZ l p s).isSome then 0 else 5)])):=by
 refine ok_of lw79 (by simp) ?_
 unfold c79
 simp -implicitDefEqProofs only [rX,↓rY,aA,cells?,↓reduceIte,Nat.reduceEqDiff,Nat.reduceAdd,reduceCtorEq,aC,aK]
 refine fC (Fnd l p s) [] [] [] [bK l,.i p,.i s] (fun g=>.tup [.i g.1,.b g.2]) [] (fun _=>[.var [.i s]]) (aeN l p s hR hl hps) ⟨by simp,by simp⟩ ⟨rfl,by simp⟩ rfl (by simp [aF,aG,aN,bD,wkL,wk,wkR,wkB,bK]) ?_
 rintro ⟨i,t⟩ hg
 simp -implicitDefEqProofs only [rX,↓rY,aA,cells?,splice,↓reduceIte,Nat.reduceEqDiff,Nat.reduceAdd,reduceCtorEq,bH,aL,aM,wfV,wfL,bO,bE,kill,bQ,St.kill,isC,aQ,aJ,Yn,bM,bX,cI,ren]
 have hle:=hg.le
 simp only at hle
 cases t with
 | true =>
  obtain ⟨h1,h2⟩:=hg.y rfl
  simp only at h1 h2
  simp -implicitDefEqProofs only [rX,↓rY,kill,St.kill,yac,yaa,bK,yap h1,Ah,s7,afF]
  rw [Ki hR h1 h2]
  exact ⟨⟨by omega,by omega⟩,h1,afE,rfl⟩
 | false =>
  have h2:=hg.n rfl
  simp -implicitDefEqProofs only [↓rY]
  rw [Kj h2]
  rfl
end Go.Fx.E
