import Derived.Test.YtpnikndmidcedaaDoorTO4
import Derived.Test.YtpnikndmidcedaaDoorKLow1
set_option linter.unusedVariables false
set_option linter.unusedSimpArgs false
set_option linter.unusedSectionVars false
open List renaming range' → yaa, replicate → yab, append_nil → yac, mem_range'_1 → yad, getD_eq_getElem?_getD → yae, map → yaf, length_append → yag, map_cons → yah, length_replicate → yai, getElem?_append_right → yaj, length_map → yak, map_append → yal, map_nil → yan, append_assoc → yaq, length_range' → yar, mem_singleton → yat, getElem_map → yau, map_replicate → yav, mem_append → yaw, take → yay, cons_append → yaz, length_cons → yaA, nil_append → yaB, set_append_right → yaC, length_nil → yaD, take_of_length_le → yaF, getElem?_append_left → yaH, getElem?_eq_getElem → yaI, replicate_succ → yaK, mem_replicate → yaL, filter → yaM, getElem?_cons_succ → yaN, set_cons_succ → yaO, nodup_range' → yaP, ext_getElem → yaR, getElem_range' → yaS, length_set → yaU, mem_or_eq_of_mem_set → yaV, getElem_mem → yaW, getElem?_range' → yaZ, getElem?_eq_none → yba, filterMap_cons → ybb, getElem?_replicate → ybc, length_eq_zero_iff → ybd, perm_singleton → ybe
open Nat renaming le_refl → yam, zero_le → yap, sub_self → yax, zero_add → yaE, add_sub_cancel_left → yaG, add_zero → yaJ, add_assoc → yaT
open Int renaming le_refl → yao, toNat_natCast → yas, tdiv_eq_ediv_of_nonneg → yaY, tmod_eq_emod_of_nonneg → ybf
open Option.some renaming injEq → yaQ
open BitVec renaming ofNat → yaX
namespace Go.Fx.K
open Go Go.Fx Go.Proofs
set_option maxRecDepth 20000
abbrev B15:LCode:=To (pt 0 (rt 2 c15ol0))
theorem Oh:c15ol0=.seq (pt 0 c15ol0) (.seq (pt 1 c15ol0) (.seq (.block 2 (.seq (pt 0 B15) (.seq (pt 0 (rt 1 B15)) (.seq (pt 0 (rt 2 B15)) (rt 3 B15))))) (rt 3 c15ol0))):=by rfl
theorem Og:c15ol1=.seq (pt 0 c15ol1) (.seq (pt 1 c15ol1) (.seq (.block 4 (To (pt 0 (rt 2 c15ol1)))) (rt 3 c15ol1))):=by rfl
section
variable {N R:St→Prop} {Xx:Nat→St→Prop} {bb:Nat}
theorem mS {S:MS} {L:Lg} {X:List Blk}:aC (dkX S (op3 (dkT S.D).length L++X)) ((dkT S.D).length+4):=Dx (j:=1) ⟨_,rfl,by simp⟩
theorem aaE {L0 L:Lg} {k f nn:Nat} {e:Env} {X:List Blk} (hs:Sc L0 L f) (hc:L0.Cln) (hk:k<L0.gens.length) (hf:L0.found.length+f+16≤20000) (g73:get e 73=.i 0) (g6:get e 6=.i k) (g5:get e 5=.ptr ((dkT L0.S.D).length+4) 0 0) (g29:get e 29=.i nn) (g30:get e 30=.i k) (g0:get e 0=.ptr 0 0 0) (g4:get e 4=.i nn)
  (hN:∀ e b',get e 5=.ptr ((dkT L0.S.D).length+4) 0 0→get e 29=.i nn→get e 30=.i k→get e 0=.ptr 0 0 0→get e 4=.i nn→N ⟨e,dkX L0.S (op3 (dkT L0.S.D).length (L.slos k 16)),b'⟩) :
  aw (cxN Tryd.prog [0,1,2]) (.block 3 (.loop c15ol1)) N Xx R ⟨e,dkX L0.S (op3 (dkT L0.S.D).length L++X),bb⟩:=by
 simp -implicitDefEqProofs only [rX,cxN]
 refine aZ (fun j:Nat=>afD L0.S k (L.slos k j) nn j) (fun j=>j≤16) (fun j=>16-j) 0 (yap _) ?_ ?_
 ·refine Ik ⟨g73,g6,g5,g29,g30,g0,g4,trivial⟩ ?_ ⟨trivial,trivial,?_,trivial,trivial,trivial,trivial,trivial⟩ ?_
  ·show leH (L0.S.bs 0++(op3 _ L++X)) (L0.S.bs 0++op3 _ L)
   rw [←yaq]
   exact cX
  ·have:=mS (S:=L0.S) (L:=L) (X:=[])
   rw [yac] at this
   exact this
  ·have:=vJ (S:=L0.S) (L:=L) (X:=[]) trivial
   rw [yac] at this
   exact this
 intro j hj
 rw [Og,zb]
 conv=>arg 2;whnf
 simp -implicitDefEqProofs only [rX,↓rY,aA,↓reduceIte]
 conv=>arg 2;whnf
 simp -implicitDefEqProofs only [rX,↓reduceIte]
 cases hd:decide ((j:Int)<16) with
 | true =>
  have hj2:j<16:=by have:=of_decide_eq_true hd;omega
  rw [wd]
  have hsj:=hs.slos (k:=k) (j:=j)
  refine aaF (nn:=nn) rfl rfl rfl rfl rfl rfl rfl hsj hc hk hj2 (by omega) fun e b' g73 g6 g5 g29 g30 g0 g4 X=>?_
  conv=>arg 2;whnf
  simp -implicitDefEqProofs only [rX,↓rY,aA,↓reduceIte,Nat.reduceEqDiff,reduceCtorEq,leE,aJ,aC,wfE,wfV,g73]
  refine ⟨⟨by simp only [lo];omega,by simp only [hi];omega⟩,j+1,⟨by omega,by omega⟩,?_⟩
  have hkp:=iU (S:=L0.S) (X:=op3 (dkT L0.S.D).length (L.slos k (j+1)))
  have hlv:=mS (S:=L0.S) (L:=L.slos k (j+1)) (X:=[])
  have hw:=vJ (S:=L0.S) (L:=L.slos k (j+1)) (X:=[]) trivial
  rw [yac] at hlv hw
  refine ⟨⟨by rw [Int.natCast_add];rfl,g6,g5,g29,g30,g0,g4⟩,?_,⟨hkp.1,hkp.2.1,hkp.2.2.1⟩,⟨hlv,hkp.1⟩,Lc hw⟩
  show leH (L0.S.bs 0++(op3 _ _++X)) (L0.S.bs 0++op3 _ _)
  rw [←yaq]
  exact cX
 | false =>
  have hj2:j=16:=by have:=of_decide_eq_false hd;omega
  subst hj2
  rw [we]
  try simp -implicitDefEqProofs only [rX,↓rY,qg,qi,qk,ql,qm,qp,qq,qt,qw,qx,qy,qz,qA,qC,qD,qE,qF,qG,qH,qI,qO,rdK,zF,zI,zR,zV,zW,zX,zY,zZ,kf,kg,kh,kj,kp,kq,kv,kw,kD,kL,kM,kX,aA,cells?,splice,↓reduceIte,Nat.reduceEqDiff,eB,Nat.reduceAdd,reduceCtorEq,aG,bY,cP,dI,a8,bF,leE,leH,leB,leV,eP,aJ,aC,wfE,wfB,wfV,wfL,aB,aD,kill,bK,St.kill,isD,isC,Nat.reduceLT,Nat.reduceLeDiff,wX,wY,jb,jc,jg,jh,jl,jm,jq,jr,jx,jy,jC,jD,jH,jI,jS,jT,jU,jV,jW,jX,jY,jZ,qaa,qab,qac,qad,qae,qaf,qag,qah,qai,qaj,qak,qal,qam,qan,qao,qap,↓qas,↓qaL,↓qaM,↓qaQ,↓qaR,↓qaV,↓qbc,↓qbd,↓qbj,↓qbk,↓qbm,↓qbn,↓qbo,↓qbr,↓qbs,↓qbv,↓qbx,↓qbz,↓qbA,↓qbB,↓qbF,↓qbG,↓qbI,↓qbJ,↓qbK,↓qbL,↓qbO,↓qbP,↓qbQ,↓qbU,↓qbW,↓qbZ,↓qca,↓qcb,↓qcc,↓qcd,↓qce,↓qcf,↓qcg,↓qch,↓qci,↓qcj,↓qck,↓qcl,yau,yas,cxN,acH,Tl,Jl,Nat.mul_one,e7,pA,Vl,Sv,Pp,adB,adA,acZ,acY,Pr,Pq,Sw,adC,Ps,Po,xE,r8,acS,eF,less]
  exact hN _ _ rfl rfl rfl rfl rfl
abbrev Mf (S:MS) (nn:Nat) (L:Lg) (k:Nat):St:=⟨[(30,.i k),(29,.i nn),(5,.ptr ((dkT S.D).length+4) 0 0),(0,.ptr 0 0 0),(4,.i nn)],dkX S (op3 (dkT S.D).length L),0⟩
theorem aaD {L0:Lg} (hc:L0.Cln) (h0:L0.found=[]) (k:Nat) (hk:k≤L0.gens.length)
  (hN:k=L0.gens.length→∀ e b',get e 5=.ptr ((dkT L0.S.D).length+4) 0 0→get e 0=.ptr 0 0 0→Xx 1 ⟨e,dkX L0.S (op3 (dkT L0.S.D).length (L0.scan L0.gens.length)),b'⟩) :
  aw (cxN Tryd.prog [0,1,2]) c15ol0 (fun s'=>∃ g':Nat,(g'≤L0.gens.length∧L0.gens.length-g'<L0.gens.length-k)∧leS [0,1,2] s' (Mf L0.S L0.gens.length (L0.scan g') g')) Xx R (Mf L0.S L0.gens.length (L0.scan k) k):=by
 have hs:=Sc.scan (L0:=L0) (k:=k)
 have hcc:=hc.c
 have hcn:=hc.n
 rw [Oh,zb]
 conv=>arg 2;whnf
 simp -implicitDefEqProofs only [rX,↓rY,↓reduceIte,Nat.reduceEqDiff,cxN]
 conv=>arg 2;whnf
 simp -implicitDefEqProofs only [rX,↓reduceIte]
 cases hd:decide ((k:Int)<(L0.gens.length:Int)) with
 | false =>
  have hk2:k=L0.gens.length:=by have:=of_decide_eq_false hd;omega
  rw [we]
  have:=hN hk2
  rw [←hk2] at this
  first|exact this _ _ rfl rfl
 | true =>
  have hk2:k<L0.gens.length:=by have:=of_decide_eq_true hd;omega
  have hf0:L0.found.length=0:=by rw [h0];rfl
  rw [wd]
  conv=>arg 2;whnf
  simp -implicitDefEqProofs only [rX,↓reduceIte,Nat.reduceEqDiff]
  refine aaG (nn:=L0.gens.length) rfl rfl rfl rfl rfl rfl hs hc hk2 fun e b' g6 g5 g29 g30 g0 g4 X=>?_
  rw [zb]
  conv=>arg 2;whnf
  simp -implicitDefEqProofs only [rX,aA]
  have hs2:=hs.hd (k:=k)
  refine aaE (nn:=L0.gens.length) (X:=X) hs2 hc hk2 (by omega) rfl g6 g5 g29 g30 g0 g4 fun e b' g5 g29 g30 g0 g4=>?_
  conv=>arg 2;whnf
  simp -implicitDefEqProofs only [rX,↓rY,aA,↓reduceIte,Nat.reduceEqDiff,reduceCtorEq,leE,aJ,aC,wfE,wfV,g30]
  have hkp:=iU (S:=L0.S) (X:=op3 (dkT L0.S.D).length (L0.scan (k+1)))
  have hlv:=mS (S:=L0.S) (L:=L0.scan (k+1)) (X:=[])
  have hw:=vJ (S:=L0.S) (L:=L0.scan (k+1)) (X:=[]) trivial
  rw [yac] at hlv hw
  refine ⟨⟨by simp only [lo];omega,by simp only [hi];omega⟩,k+1,⟨by omega,by omega⟩,⟨by rw [Int.natCast_add];rfl,g29,g5,g0,g4⟩,aF _,⟨hkp.1,hkp.2.1,hkp.2.2.1⟩,⟨hlv,hkp.1⟩,Lc hw⟩
end
set_option maxRecDepth 20000
def Lg.blank (L:Lg):Lg:=⟨yab (L.cells.length/129) 0,0,0,[],-1,0,L.cells,L.steps,L.c⟩
def opB (L:Lg) (p:Nat):List Blk:=L.S.bs p++[.arr 1 (L.gens.map encI),.var [.ptr p 0 0,.sl (p+L.cells.length+3) 0 L.gens.length,.i L.top,.i L.seq,.sl (p+L.cells.length+5) 0 L.found.length,.i L.seg,.i L.next],.arr 4 (L.found.map Ck.enc)]
def Lg.opn (L:Lg) (fd:List Ck):Lg:={ L.blank.scan (L.cells.length/129) with found:=fd }
def R15 (L:Lg):V→List Blk→Prop:=fun r h =>
 (L.cells.length<129∧r=.tup [.v (.pointer none),.i 1]∧h=L.S.bs 0) ∨
 (129≤L.cells.length∧∃ fd,tS (L.blank.scan (L.cells.length/129)).found fd∧r=.tup [.ptr (L.cells.length+4) 0 0,.i 0]∧h=opB (L.opn fd) 0)
theorem c15_parts:c15o=.seq (pt 0 c15o) (.seq (pt 1 c15o) (.seq (pt 2 c15o) (.seq (pt 3 c15o) (.seq (.seq (pt 0 (pt 4 c15o)) (.block 1 (.loop c15ol0))) (.seq (pt 5 c15o) (rt 6 c15o)))))):=by rfl
section
variable {N R:St→Prop} {Xx:Nat→St→Prop} {bb n:Nat} {e:Env} {L:Lg}
abbrev adX (n:Nat) (R:V→List Blk→Prop):St→Prop:=cE [0,1,2] (3+n) [.tmp 2,.tmp 3] R
theorem aaL (g0:get e 0=.ptr 0 0 0) (hl:L.cells.length≤70000) (hN:∀ e b',get e 0=.ptr 0 0 0→get e 4=.i ((L.cells.length/129:Nat):Int)→N ⟨e,dkX L.S [],b'⟩) :
  aw (cxN Tryd.prog [0,1,2]) (pt 1 c15o) N Xx R ⟨e,dkX L.S [],bb⟩:=by
 have d0:=vP L.S
 have k0:get (aB (yaa 3 L.S.n) e) 0=.ptr 0 0 0:=by rw [aE,g0];simp only [kill,d0,if_false]
 conv=>arg 2;whnf
 simp -implicitDefEqProofs only [rX,↓reduceIte,cxN,g0]
 refine p9 [] L.S [] [] _ (nX (agQ L.S)) ⟨trivial,trivial⟩ rfl rfl rfl ?_
 rintro v S'-⟨rfl,rfl⟩
 refine ⟨fun g=>rfl,?_⟩
 simp -implicitDefEqProofs only [rX,↓rY,aA,↓reduceIte,aB,kill,St.kill]
 have e1:((L.S.n:Nat):Int).tdiv 129=((L.cells.length/129:Nat):Int):=by
  rw [yaY (by omega)]
  have:L.S.n=L.cells.length:=rfl
  omega
 rw [e1]
 exact ⟨by decide,⟨by simp only [lo];omega,by simp only [hi];omega⟩,hN _ _ (by exact k0) rfl⟩
theorem aaK {Rr:V→List Blk→Prop} (g0:get e 0=.ptr 0 0 0) (g4:get e 4=.i ((L.cells.length/129:Nat):Int)) (hR:L.cells.length<129→Rr (.tup [.v (.pointer none),.i 1]) (L.S.bs 0)) (hn:L.cells.length=n)
  (hN:129≤L.cells.length→∀ e b',get e 0=.ptr 0 0 0→get e 4=.i ((L.cells.length/129:Nat):Int)→N ⟨e,dkX L.S [],b'⟩) :
  aw (cxN Tryd.prog [0,1,2]) (pt 2 c15o) N Xx (adX n Rr) ⟨e,dkX L.S [],bb⟩:=by
 have d0:=vP L.S
 have k0:get (aB (yaa 3 L.S.n) e) 0=.ptr 0 0 0:=by rw [aE,g0];simp only [kill,d0,if_false]
 have k4:get (aB (yaa 3 L.S.n) e) 4=.i ((L.cells.length/129:Nat):Int):=by rw [aE,g4];rfl
 conv=>arg 2;whnf
 simp -implicitDefEqProofs only [rX,↓rY,aA,↓reduceIte,reduceCtorEq,cxN,g0,g4]
 cases hd:(((L.cells.length/129:Nat):Int)==0) with
 | true =>
  have h0:((L.cells.length/129:Nat):Int)=0:=by simpa using hd
  rw [wd]
  unfold adX
  rw [dW]
  simp only [a8,bF,List.reverse_cons,List.reverse_nil,yaB,yaz]
  refine ⟨L.S.bs 0,⟨?_,⟨trivial,trivial,trivial,trivial⟩,by rw [L.S.len];show 3+n≤3+L.cells.length;omega,⟨trivial,trivial,trivial⟩,?_⟩,hR (by omega)⟩
  ·rw [oS,yac];exact aF _
  ·have:=Lc (S:=L.S) (X:=[]) trivial
   rw [oS,yac] at this
   exact this
 | false =>
  have h0:¬((L.cells.length/129:Nat):Int)=0:=by simpa using hd
  rw [we]
  refine p9 [] L.S [] [] _ (nX (agP L.S)) ⟨trivial,trivial⟩ rfl rfl rfl ?_
  rintro v S'-⟨rfl,rfl⟩
  refine ⟨fun g=>rfl,?_⟩
  simp -implicitDefEqProofs only [rX,aA,↓reduceIte,aB,kill,St.kill]
  rw [show L.S.D.dead=false from rfl,we]
  exact hN (by omega) _ _ (by exact k0) (by exact k4)
theorem aaJ (g0:get e 0=.ptr 0 0 0) (g4:get e 4=.i ((L.cells.length/129:Nat):Int)) (hl:L.cells.length≤70000)
  (hN:∀ e b',get e 0=.ptr 0 0 0→get e 4=.i ((L.cells.length/129:Nat):Int)→get e 5=.ptr ((dkT L.S.D).length+4) 0 0→N ⟨e,dkX L.S [.arr 1 (L.blank.gens.map encI),.var [.ptr 0 0 0,.sl ((dkT L.S.D).length+3) 0 L.blank.gens.length,.i 0,.i 0,.nil,.i (-1),.i 0]],b'⟩) :
  aw (cxN Tryd.prog [0,1,2]) (pt 3 c15o) N Xx R ⟨e,dkX L.S [],bb⟩:=by
 conv=>arg 2;whnf
 unfold dkX
 simp -implicitDefEqProofs only [rX,↓rY,aA,cells?,splice,↓reduceIte,Nat.reduceEqDiff,Nat.reduceAdd,aG,cP,Nat.reduceLeDiff,yas,cxN,dP,fI,mZ,oG,dkV,dkC,n61,g0,g4]
 have hg:yaf encI L.blank.gens=yab (L.cells.length/129) [V.v (Value.int IntKind.i64 0)]:=by
  unfold Lg.blank
  rw [yav];rfl
 have hgl:L.blank.gens.length=L.cells.length/129:=by unfold Lg.blank;exact yai ..
 rw [hg,hgl] at hN
 refine ⟨⟨⟨by omega,by omega⟩,by omega,by omega⟩,hN _ _ (by exact g0) (by exact g4) rfl⟩
theorem Bv {S:MS} {X Y:List Blk}:dkX S X++Y=dkX S (X++Y):=by
 unfold dkX
 simp only [yaz,yaq]
theorem Sy {S:MS} {X:List Blk} {j:Nat}:(dkX S X)[(dkT S.D).length+(j+3)]?=X[j]?:=by
 show (_::_::_::(dkT S.D++X))[(dkT S.D).length+j+1+1+1]?=_
 rw [yaN,yaN,yaN,yaj (by omega),yaG]
theorem Jf {S:MS} {X:List Blk} {j:Nat} {B:Blk}:(dkX S X).set ((dkT S.D).length+(j+3)) B=dkX S (X.set j B):=by
 show (_::_::_::(dkT S.D++X)).set ((dkT S.D).length+j+1+1+1) B=_
 rw [yaO,yaO,yaO,yaC _ _ (by omega),yaG]
 rfl
theorem agV {a b c d e f:V} {k:Nat}:Bg [a,b,c,d,.nil,e,f] [a,b,c,d,.sl k 0 0,e,f]:=⟨rfl,fun i x y h1 h2=>by
 rcases i with _|_|_|_|_|_|_|i
 all_goals simp at h1 h2
 all_goals first|exact .inl (h2.symm.trans h1)|exact .inr ⟨h1.symm,k,h2.symm⟩⟩
theorem aaI (g0:get e 0=.ptr 0 0 0) (g4:get e 4=.i ((L.cells.length/129:Nat):Int)) (g5:get e 5=.ptr ((dkT L.S.D).length+4) 0 0) (hl:L.cells.length≤70000) (hb:∀ c∈L.cells,c.bad=false)
  (hN:∀ e b',get e 5=.ptr ((dkT L.S.D).length+4) 0 0→get e 0=.ptr 0 0 0→N ⟨e,dkX L.S (op3 (dkT L.S.D).length (L.blank.scan (L.cells.length/129))),b'⟩) :
  aw (cxN Tryd.prog [0,1,2]) (.seq (pt 0 (pt 4 c15o)) (.block 1 (.loop c15ol0))) N Xx R ⟨e,dkX L.S [.arr 1 (L.blank.gens.map encI),.var [.ptr 0 0 0,.sl ((dkT L.S.D).length+3) 0 L.blank.gens.length,.i 0,.i 0,.nil,.i (-1),.i 0]],bb⟩:=by
 have hgl:L.blank.gens.length=L.cells.length/129:=by unfold Lg.blank;exact yai ..
 have hc:L.blank.Cln:=⟨by rw [hgl];show _≤L.cells.length;omega,hl,hb⟩
 rw [zb]
 conv=>arg 2;whnf
 simp -implicitDefEqProofs only [rX,aA,cxN,g4]
 refine iO (.virt 1 4 (by decide) (.nilB ((dkT L.S.D).length+4) [.ptr 0 0 0,.sl ((dkT L.S.D).length+3) 0 L.blank.gens.length,.i 0,.i 0,.nil,.i (-1),.i 0] [.ptr 0 0 0,.sl ((dkT L.S.D).length+3) 0 L.blank.gens.length,.i 0,.i 0,.sl ((dkT L.S.D).length+5) 0 0,.i (-1),.i 0] ?_ agV (.refl _))) (fun k:Nat=>Mf L.S L.blank.gens.length (L.blank.scan k) k) (fun k=>k≤L.blank.gens.length) (fun k=>L.blank.gens.length-k) 0 (yap _) ?_ ?_
 ·show (dkX L.S _++_)[(dkT L.S.D).length+(1+3)]?=_
  rw [Bv,Sy]
  rfl
 ·have hw:=vJ (S:=L.S) (L:=L.blank) (X:=[]) trivial
  have hlv:=mS (S:=L.S) (L:=L.blank) (X:=[])
  rw [yac] at hlv hw
  refine Ik ⟨rfl,?_,g5,g0,?_,trivial⟩ ?_ ⟨trivial,trivial,hlv,trivial,trivial,trivial⟩ hw
  ·rw [hgl];rfl
  ·rw [hgl];exact g4
  ·show leH ((dkX L.S _++_).set ((dkT L.S.D).length+(1+3)) _) _
   rw [Bv,Jf]
   exact aF _
 ·intro k hk
  refine aaD (L0:=L.blank) hc rfl k hk fun hk2 e b' g5 g0=>?_
  rw [if_pos rfl]
  have:=hN e b' g5 g0
  rw [←hgl] at this
  exact this
theorem aaH {L1:Lg} (hl:L1.found.length≤100000) (g5:get e 5=.ptr ((dkT L.S.D).length+4) 0 0)
  (hN:∀ fd e b',tS L1.found fd→get e 5=.ptr ((dkT L.S.D).length+4) 0 0→N ⟨e,dkX L.S (op3 (dkT L.S.D).length { L1 with found:=fd }),b'⟩) :
  aw (cxN Tryd.prog [0,1,2]) (pt 5 c15o) N Xx R ⟨e,dkX L.S (op3 (dkT L.S.D).length L1),bb⟩:=by
 conv=>arg 2;whnf
 unfold dkX op3
 simp -implicitDefEqProofs only [rX,↓rY,↓reduceIte,Nat.reduceAdd,cxN,mZ,dkV,dkC,g5]
 simp only [fX]
 have hb:blk (dkX L.S [Blk.arr 1 (L1.gens.map encI),.var [.ptr 0 0 0,.sl ((dkT L.S.D).length+3) 0 L1.gens.length,.i L1.top,.i L1.seq,.sl ((dkT L.S.D).length+5) 0 L1.found.length,.i L1.seg,.i L1.next],.arr 4 (L1.found.map Ck.enc)]) ((dkT L.S.D).length+5)=.arr 4 (L1.found.map Ck.enc):=adS (j:=2) rfl
 have hlen:(dkT L.S.D).length+5<(dkX L.S [Blk.arr 1 (L1.gens.map encI),.var [.ptr 0 0 0,.sl ((dkT L.S.D).length+3) 0 L1.gens.length,.i L1.top,.i L1.seq,.sl ((dkT L.S.D).length+5) 0 L1.found.length,.i L1.seg,.i L1.next],.arr 4 (L1.found.map Ck.enc)]).length:=by
  unfold dkX
  simp only [yaA,yag,yaD]
  omega
 refine Pz (tS L1.found) [(dkT L.S.D).length+5] [] [] [.sl 0 0 L1.found.length,.clo 27 []] (fun _=>.tup []) [.arr 4 (L1.found.map Ck.enc)] (fun d=>[.arr 4 (d.map Ck.enc)]) (agO L1.found (by omega)) ⟨by simp,fun k hk=>⟨by rw [yat] at hk;subst hk;exact hlen,by simp⟩⟩ ⟨rfl,by simp⟩ ?_ ?_ fun fd hfd=>?_
 ·simp only [yah,yan,hb]
  rfl
 ·refine ⟨⟨?_,?_,trivial⟩,?_,?_,trivial⟩
  ·simp [aY,pos]
  ·simp [aY,aN]
  ·simp [cG,pos,wk]
  ·simp [cG,aX,wk,wkL]
 ·have hfl:fd.length=L1.found.length:=hfd.p.length_eq
  have hH:aS [(dkT L.S.D).length+5] (yaf (bB (back [(dkT L.S.D).length+5] (dkX L.S [Blk.arr 1 (L1.gens.map encI),.var [.ptr 0 0 0,.sl ((dkT L.S.D).length+3) 0 L1.gens.length,.i L1.top,.i L1.seq,.sl ((dkT L.S.D).length+5) 0 L1.found.length,.i L1.seg,.i L1.next],.arr 4 (L1.found.map Ck.enc)]).length)) [Blk.arr 4 (yaf Ck.enc fd)]) (yaf (aD []) (dkX L.S [Blk.arr 1 (L1.gens.map encI),.var [.ptr 0 0 0,.sl ((dkT L.S.D).length+3) 0 L1.gens.length,.i L1.top,.i L1.seq,.sl ((dkT L.S.D).length+5) 0 L1.found.length,.i L1.seg,.i L1.next],.arr 4 (L1.found.map Ck.enc)]))=dkX L.S (op3 (dkT L.S.D).length { L1 with found:=fd }):=by
   rw [nM]
   simp only [yah,yan,bB,aS,yac]
   rw [show (dkT L.S.D).length+5=(dkT L.S.D).length+(2+3) from rfl,Jf]
   unfold op3
   simp only [hfl]
   rfl
  rw [hH]
  refine ⟨iU,?_⟩
  rw [gY]
  simp -implicitDefEqProofs only [rX]
  exact hN fd _ _ hfd (by exact g5)
end
theorem Vk {L:Lg} {fd:List Ck}:(L.opn fd).S=L.S:=by
 have hs:=Sc.scan (L0:=L.blank) (k:=L.cells.length/129)
 have h1:(L.opn fd).cells=L.cells:=hs.cells
 have h2:(L.opn fd).steps=L.steps:=hs.steps
 have h3:(L.opn fd).c=L.c:=hs.c
 have hD:(L.opn fd).D=L.D:=by unfold Lg.D;rw [h1,h2]
 show (⟨(L.opn fd).D,[],(L.opn fd).c,_⟩:MS)=⟨L.D,[],L.c,_⟩
 congr 1
theorem ok9 (L:Lg) (hl:L.cells.length≤70000) (hb:∀ c∈L.cells,c.bad=false):OkN Tryd.prog 9 [.ptr 0 0 0] (L.S.bs 0) (yaa 3 L.S.n) (R15 L):=by
 have e0:dkX L.S []=L.S.bs 0:=by rw [oS,yac]
 have hT:=L.S.T_len
 refine fJ pol [0,1,2] lw15o (by simp) ⟨trivial,trivial,trivial,trivial⟩ (fun k hk hm=>?_) ?_
 ·rw [L.S.len] at hk
  have:¬(3≤k∧k<3+L.S.n):=fun h2=>hm (yad.2 h2)
  have h3:k=0∨k=1∨k=2:=by omega
  rcases h3 with rfl|rfl|rfl<;>simp
 rw [L.S.len,←e0,c15_parts,zb]
 conv=>arg 2;whnf
 simp -implicitDefEqProofs only [rX,aA,cxN,aV]
 refine aaL rfl hl fun e b' g0 g4=>?_
 rw [zb]
 refine aaK (n:=L.S.n) g0 g4 (fun h=>.inl ⟨h,rfl,rfl⟩) rfl fun h129 e b' g0 g4=>?_
 rw [zb]
 refine aaJ g0 g4 hl fun e b' g0 g4 g5=>?_
 rw [zb]
 refine aaI g0 g4 g5 hl hb fun e b' g5 g0=>?_
 have hs:=Sc.scan (L0:=L.blank) (k:=L.cells.length/129)
 have hfl:=hs.fl
 have hf0:L.blank.found.length=0:=rfl
 rw [zb]
 refine aaH (L1:=L.blank.scan (L.cells.length/129)) (by omega) g5 fun fd e b' hfd g5=>?_
 conv=>arg 2;whnf
 simp -implicitDefEqProofs only [rX,aA,↓reduceIte,g5]
 have hH:dkX L.S (op3 (dkT L.S.D).length (L.opn fd))=opB (L.opn fd) 0:=by
  rw [oS]
  unfold opB
  rw [Vk,hT]
  have h1:(L.opn fd).cells=L.cells:=hs.cells
  rw [h1]
  unfold op3
  simp only [yaE]
  rfl
 have hw:=vJ (S:=L.S) (L:=L.opn fd) (X:=[]) trivial
 rw [yac] at hw
 have hlv:=mS (S:=L.S) (L:=L.opn fd) (X:=[])
 rw [yac] at hlv
 have hw2:=Lc hw
 rw [dW]
 simp only [a8,bF,List.reverse_cons,List.reverse_nil,yaB,yaz]
 refine ⟨dkX L.S (op3 (dkT L.S.D).length (L.opn fd)),⟨aF _,iU,?_,⟨hlv,trivial,trivial⟩,hw2⟩,.inr ⟨h129,fd,hfd,?_,hH⟩⟩
 ·rw [oS,yag,L.S.len];omega
 ·rw [hT];rfl
set_option maxRecDepth 20000
theorem pK:∀ {l r:List Nat} {k:Nat},pos (l++r) k=match pos l k with
  | some j=>some j
  | none=>(pos r k).map (·+l.length)
 | [],r,k=>by
  simp only [yaB,pos,yaD]
  cases pos r k<;>rfl
 | x::l,r,k=>by
  simp only [yaz,pos]
  by_cases h:k=x
  ·simp [h]
  ·simp only [if_neg h]
   rw [pK (l:=l)]
   cases pos l k with
   | some j=>rfl
   | none =>
    simp only
    cases pos r k with
    | some j=>simp;omega
    | none=>rfl
theorem lO:∀ {l r:List Nat} {X Y:List Blk} {h:List Blk},l.length=X.length→aS (l++r) (X++Y) h=aS r Y (aS l X h)
 | [],r,[],Y,h,_=>by simp [aS]
 | x::l,r,b::X,Y,h,hl=>by
  simp only [yaz,aS]
  exact lO (l:=l) (by simpa using hl)
def oI (p n:Nat):List Nat:=[p+n+4,p+n+3]++(yaa p (3+n)++[p+n+5])
theorem agT {p n:Nat}:pos (oI p n) (p+n+4)=some 0:=by simp [oI,pos]
theorem agS {p n:Nat}:pos (oI p n) (p+n+3)=some 1:=by simp [oI,pos]
theorem abX {p n j:Nat} (h:j<3+n):pos (oI p n) (p+j)=some (2+j):=by
 unfold oI
 rw [pK]
 have e:pos [p+n+4,p+n+3] (p+j)=none:=by
  simp only [pos]
  rw [if_neg (by omega),if_neg (by omega)];rfl
 rw [e]
 simp only
 rw [pK,c9,if_pos (by omega)]
 simp
 omega
theorem agR {p n:Nat}:pos (oI p n) (p+n+5)=some (n+5):=by
 unfold oI
 rw [pK]
 have e:pos [p+n+4,p+n+3] (p+n+5)=none:=by
  simp only [pos]
  rw [if_neg (by omega),if_neg (by omega)];rfl
 rw [e]
 simp only
 rw [pK,c9,if_neg (by omega)]
 simp [pos]
 omega
theorem Wg {p n:Nat}:(oI p n).Nodup:=by
 unfold oI
 rw [List.nodup_append]
 refine ⟨by simp,?_,?_⟩
 ·rw [List.nodup_append]
  refine ⟨yaP,by simp,?_⟩
  intro a ha b hb
  rw [yad] at ha
  simp at hb
  omega
 ·intro a ha b hb
  simp at ha
  rw [yaw,yad] at hb
  simp at hb
  omega
theorem Wh {p n k:Nat} (h:k∈oI p n):p≤k∧k<p+n+6:=by
 unfold oI at h
 simp only [yaw,List.mem_cons,List.not_mem_nil,or_false,yad] at h
 omega
theorem Bf {p n j:Nat}:(oI p n)[j]?=if j=0 then some (p+n+4) else if j=1 then some (p+n+3) else if j<5+n then some (p+(j-2)) else if j=5+n then some (p+n+5) else none:=by
 unfold oI
 rcases j with _|_|j
 ·rfl
 ·rfl
 ·show (yaa p (3+n)++[p+n+5])[j]?=_
  rw [if_neg (by omega),if_neg (by omega)]
  by_cases h:j<3+n
  ·rw [yaH (by rw [yar];exact h),yaZ h,if_pos (by omega)]
   congr 1;omega
  ·rw [yaj (by rw [yar];omega),yar,if_neg (by omega)]
   by_cases h2:j=3+n
   ·subst h2
    rw [yax,if_pos (by omega)];rfl
   ·rw [if_neg (by omega),yba (by simp;omega)]
theorem t7 {p n N j:Nat} (h:j<5+(n+1)):back (oI p n) N j=if j=0 then some (p+n+4) else if j=1 then some (p+n+3) else if j<5+n then some (p+(j-2)) else some (p+n+5):=by
 unfold back
 rw [Bf]
 by_cases h0:j=0
 ·simp [h0]
 by_cases h1:j=1
 ·simp [h1]
 by_cases h2:j<5+n
 ·simp [h0,h1,h2]
 ·have h3:j=5+n:=by omega
  have h4:¬5+n=1:=by omega
  simp [h3,h4]
theorem abW {p n:Nat}:(yaa 5 (n+1)).filterMap ((oI p n)[·]?)=yaa (p+3) n++[p+n+5]:=by
 have h:∀ (m a:Nat),2≤a→a+m≤5+n→(yaa a m).filterMap ((oI p n)[·]?)=yaa (p+(a-2)) m:=by
  intro m
  induction m with
  | zero=>intro a _ _;rfl
  | succ m ih =>
   intro a h2 ha
   rw [List.range'_succ,ybb,Bf,if_neg (by omega),if_neg (by omega),if_pos (by omega)]
   simp only
   rw [ih (a+1) (by omega) (by omega),List.range'_succ]
   congr 2
   omega
 rw [List.range'_concat,List.filterMap_append,h n 5 (by omega) (by omega)]
 congr 1
 simp only [ybb,List.filterMap_nil,Nat.one_mul]
 rw [Bf,if_neg (by omega),if_neg (by omega),if_neg (by omega),if_pos rfl]
def o3 (L:Lg) (p:Nat):List Blk:=[.arr 1 (L.gens.map encI),.var [.ptr p 0 0,.sl (p+L.cells.length+3) 0 L.gens.length,.i L.top,.i L.seq,.sl (p+L.cells.length+5) 0 L.found.length,.i L.seg,.i L.next],.arr 4 (L.found.map Ck.enc)]
theorem iH {L:Lg} {p:Nat}:opB L p=L.S.bs p++o3 L p:=rfl
theorem Be {L:Lg} {p:Nat}:(opB L p).length=L.n+6:=by
 rw [iH,yag,L.S.len]
 show 3+L.n+3=_
 omega
theorem Nm {A D X:List Blk} {B:Blk} {p n j:Nat} (hp:A.length=p) (hD:D.length=3+n):(A++(D++X)).set (p+n+(3+j)) B=A++(D++X.set j B):=by
 rw [yaC _ _ (by omega),yaC _ _ (by omega)]
 congr 3
 omega
theorem No {A D X:List Blk} {p n j:Nat} (hp:A.length=p) (hD:D.length=3+n):blk (A++(D++X)) (p+n+(3+j))=blk X j:=by
 rw [blk,blk,yae,yae,yaj (by omega),yaj (by omega)]
 congr 2
 omega
theorem Ju {A D X D':List Blk} {g l f:Blk} {p n:Nat} (hp:A.length=p) (hD:D.length=3+n) (hD':D'.length=3+n) {g0 l0 f0:Blk}:aS (oI p n) (l::g::(D'++[f])) (A++(D++(g0::l0::f0::X)))=A++(D'++(g::l::f::X)):=by
 have e1:(A++(D++(g0::l0::f0::X))).set (p+n+4) l=A++(D++(g0::l::f0::X)):=by
  rw [show p+n+4=p+n+(3+1) by omega,Nm hp hD];rfl
 have e2:(A++(D++(g0::l::f0::X))).set (p+n+3) g=A++(D++(g::l::f0::X)):=by
  rw [show p+n+3=p+n+(3+0) by omega,Nm hp hD];rfl
 have e3:aS (oI p n) (l::g::(D'++[f])) (A++(D++(g0::l0::f0::X)))=aS (yaa p (3+n)++[p+n+5]) (D'++[f]) (((A++(D++(g0::l0::f0::X))).set (p+n+4) l).set (p+n+3) g):=rfl
 rw [e3,e1,e2,lO (by rw [yar,hD'])]
 have e4:aS (yaa p (3+n)) D' (A++(D++(g::l::f0::X)))=A++(D'++(g::l::f0::X)):=by
  have:=eZ (X:=D) (Y:=D') (B:=g::l::f0::X) (A:=A) (by rw [hD,hD'])
  rw [hp,hD] at this
  exact this
 rw [e4]
 show ((A++(D'++(g::l::f0::X))).set (p+n+5) f)++[]=_
 rw [yac,show p+n+5=p+n+(3+2) by omega,Nm hp hD'];rfl
section
variable {cx:Cx} {f:FuncId} {e:Env} {b:Nat} {K:V→St→Prop}
theorem Th (A B:List Blk) (L:Lg) (args xs:List V) (Q:V→Lg→Prop) (hC:cx.C f (.ptr 0 0 0::xs) (L.bs 0) (yaa 5 (L.n+1)) (QF Lg.bs (5+(L.n+1)) Q))
  (ha:aN (A++(opB L A.length++B)) (pos (oI A.length L.n)) args∧wkL xs (aX (A++(opB L A.length++B)) (pos (oI A.length L.n)) args))
  (hbn:∀ k∈cx.bn,k<A.length∨A.length+(L.n+6)≤k) (hfx:∀ k∈cx.fx,k<A.length+3∨k=A.length+L.n+3∨k=A.length+L.n+4∨A.length+L.n+6≤k)
  (hA:A.map (aD (yaa (A.length+3) L.n++[A.length+L.n+5]))=A) (hB:B.map (aD (yaa (A.length+3) L.n++[A.length+L.n+5]))=B)
  (h3:∀ (r:V) (L':Lg),L'.n=L.n→Q r L'→(∀ f,ren f r=r)∧aJ cx.fx (A++(opB L' A.length++B))∧K r ⟨aB (yaa (A.length+3) L.n++[A.length+L.n+5]) e,A++(opB L' A.length++B),b⟩):cB cx f (.ptr (A.length+L.n+4) 0 0::args) ⟨e,A++(opB L A.length++B),b⟩ K:=by
 have hl:=Be (L:=L) (p:=A.length)
 have hSl:(L.S.bs A.length).length=3+L.n:=L.S.len
 have hH:∀ L':Lg,A++(opB L' A.length++B)=A++(L'.S.bs A.length++(o3 L' A.length++B)):=fun L'=>by rw [iH,yaq]
 refine ⟨oI A.length L.n,.ptr 0 0 0::xs,yaa 5 (L.n+1),QF Lg.bs (5+(L.n+1)) Q,⟨⟨Wg,fun k hk=>?_⟩,fun j hj k hk hkf=>?_⟩,?_,?_,?_,?_⟩
 ·have:=Wh hk
  refine ⟨by simp only [yag,hl];omega,fun hb=>?_⟩
  have:=hbn k hb
  omega
 ·rw [yad] at hj
  have:=hfx k hkf
  rw [Bf,if_neg (by omega),if_neg (by omega)] at hk
  split at hk
  ·simp only [yaQ] at hk;omega
  ·split at hk
   ·simp only [yaQ] at hk;omega
   ·cases hk
 ·refine ⟨?_,ha.1⟩
  simp only [aY]
 ·refine ⟨?_,ha.2⟩
  simp only [cG,agT]
  exact rfl
 ·have e1:(oI A.length L.n).map (fun k=>bB (pos (oI A.length L.n)) (blk (A++(opB L A.length++B)) k))=L.bs 0:=by
   rw [hH]
   have b4:blk (A++(L.S.bs A.length++(o3 L A.length++B))) (A.length+L.n+4)=.var [.ptr A.length 0 0,.sl (A.length+L.cells.length+3) 0 L.gens.length,.i L.top,.i L.seq,.sl (A.length+L.cells.length+5) 0 L.found.length,.i L.seg,.i L.next]:=by
    rw [show A.length+L.n+4=A.length+L.n+(3+1) by omega,No rfl hSl];rfl
   have b3:blk (A++(L.S.bs A.length++(o3 L A.length++B))) (A.length+L.n+3)=.arr 1 (L.gens.map encI):=by
    rw [show A.length+L.n+3=A.length+L.n+(3+0) by omega,No rfl hSl];rfl
   have b5:blk (A++(L.S.bs A.length++(o3 L A.length++B))) (A.length+L.n+5)=.arr 4 (L.found.map Ck.enc):=by
    rw [show A.length+L.n+5=A.length+L.n+(3+2) by omega,No rfl hSl];rfl
   have hd:(yaa A.length (3+L.n)).map (fun k=>bB (pos (oI A.length L.n)) (blk (A++(L.S.bs A.length++(o3 L A.length++B))) k))=L.S.bs 2:=by
    have h1:(L.S.bs A.length).map (bB (pos (oI A.length L.n)))=L.S.bs 2:=eQ L.S.ok fun j hj=>by
     have hj2:j<3+L.n:=hj
     exact abX hj2
    rw [←h1]
    apply yaR
    ·rw [yak,yak,yar,hSl]
    ·intro j h2 h3
     have hj:j<(L.S.bs A.length).length:=by rw [yak] at h3;exact h3
     simp only [yau,yaS,blk]
     congr 1
     rw [yae,yaj (by omega),show A.length+1*j-A.length=j by omega,yaH hj,yaI hj];rfl
   unfold oI
   rw [yal,yal]
   show [bB (pos (oI A.length L.n)) (blk _ (A.length+L.n+4)),bB (pos (oI A.length L.n)) (blk _ (A.length+L.n+3))]++((yaa A.length (3+L.n)).map (fun k=>bB (pos (oI A.length L.n)) (blk (A++(L.S.bs A.length++(o3 L A.length++B))) k))++[bB (pos (oI A.length L.n)) (blk _ (A.length+L.n+5))])=L.bs 0
   rw [hd,b4,b3,b5]
   have p0:pos (oI A.length L.n) A.length=some 2:=abX (j:=0) (by omega)
   have p3:pos (oI A.length L.n) (A.length+L.cells.length+3)=some 1:=agS
   have p5:pos (oI A.length L.n) (A.length+L.cells.length+5)=some (L.cells.length+5):=agR
   simp only [bB,dN,ren,p0,p3,p5]
   rw [Lg.bs]
   simp only [lgV,lgG,lgF,yaE]
   rfl
  rw [e1];exact hC
 ·rintro r h' ⟨L',⟨hn,hq⟩,rfl⟩ _
  have hn':L'.n=L.n:=by have:=hn 0;rw [L'.len] at this;omega
  obtain ⟨q1,q2,q3⟩:=h3 r L' hn' hq
  have hSl':(L'.S.bs A.length).length=3+L.n:=by rw [L'.S.len];show 3+L'.n=_;rw [hn']
  have e2:(L'.bs 0).map (bB (back (oI A.length L.n) (A++(opB L A.length++B)).length))=.var [.ptr A.length 0 0,.sl (A.length+L'.cells.length+3) 0 L'.gens.length,.i L'.top,.i L'.seq,.sl (A.length+L'.cells.length+5) 0 L'.found.length,.i L'.seg,.i L'.next]::.arr 1 (L'.gens.map encI)::(L'.S.bs A.length++[.arr 4 (L'.found.map Ck.enc)]):=by
   generalize (A++(opB L A.length++B)).length=NN
   have h1:(L'.S.bs 2).map (bB (back (oI A.length L.n) NN))=L'.S.bs A.length:=eQ L'.S.ok fun j hj=>by
    have hj2:j<3+L.n:=by rw [←hn'];exact hj
    rw [t7 (by omega),if_neg (by omega),if_neg (by omega),if_pos (by omega)]
    congr 1;omega
   have hc:L'.cells.length=L.n:=hn'
   have p2:back (oI A.length L.n) NN 2=some A.length:=by rw [t7 (by omega),if_neg (by omega),if_neg (by omega),if_pos (by omega)];rfl
   have p1:back (oI A.length L.n) NN 1=some (A.length+L.n+3):=by rw [t7 (by omega),if_neg (by omega),if_pos rfl]
   have p5:back (oI A.length L.n) NN (L.n+5)=some (A.length+L.n+5):=by rw [t7 (by omega),if_neg (by omega),if_neg (by omega),if_neg (by omega)]
   rw [Lg.bs,yah,yah,yal,h1]
   simp only [lgV,lgG,lgF,yaE,hc,bB,dN,ren,p2,p1,p5,yah,yan]
  rw [abW,e2,hH L,yal,yal,yal,hA,hB,q1]
  have e3:=Ju (A:=A) (D:=(L.S.bs A.length).map (aD (yaa (A.length+3) L.n++[A.length+L.n+5]))) (X:=B) (D':=L'.S.bs A.length) (g:=.arr 1 (L'.gens.map encI)) (l:=.var [.ptr A.length 0 0,.sl (A.length+L'.cells.length+3) 0 L'.gens.length,.i L'.top,.i L'.seq,.sl (A.length+L'.cells.length+5) 0 L'.found.length,.i L'.seg,.i L'.next]) (f:=.arr 4 (L'.found.map Ck.enc)) (p:=A.length) (n:=L.n) rfl (by rw [yak,hSl]) hSl' (g0:=aD (yaa (A.length+3) L.n++[A.length+L.n+5]) (.arr 1 (L.gens.map encI))) (l0:=aD (yaa (A.length+3) L.n++[A.length+L.n+5]) (.var [.ptr A.length 0 0,.sl (A.length+L.cells.length+3) 0 L.gens.length,.i L.top,.i L.seq,.sl (A.length+L.cells.length+5) 0 L.found.length,.i L.seg,.i L.next])) (f0:=aD (yaa (A.length+3) L.n++[A.length+L.n+5]) (.arr 4 (L.found.map Ck.enc)))
  have e4:A++((L.S.bs A.length).map (aD (yaa (A.length+3) L.n++[A.length+L.n+5]))++((o3 L A.length).map (aD (yaa (A.length+3) L.n++[A.length+L.n+5]))++B))=A++((L.S.bs A.length).map (aD (yaa (A.length+3) L.n++[A.length+L.n+5]))++(aD (yaa (A.length+3) L.n++[A.length+L.n+5]) (.arr 1 (L.gens.map encI))::aD (yaa (A.length+3) L.n++[A.length+L.n+5]) (.var [.ptr A.length 0 0,.sl (A.length+L.cells.length+3) 0 L.gens.length,.i L.top,.i L.seq,.sl (A.length+L.cells.length+5) 0 L.found.length,.i L.seg,.i L.next])::aD (yaa (A.length+3) L.n++[A.length+L.n+5]) (.arr 4 (L.found.map Ck.enc))::B)):=rfl
  rw [e4,e3]
  have e5:A++(L'.S.bs A.length++(Blk.arr 1 (L'.gens.map encI)::.var [.ptr A.length 0 0,.sl (A.length+L'.cells.length+3) 0 L'.gens.length,.i L'.top,.i L'.seq,.sl (A.length+L'.cells.length+5) 0 L'.found.length,.i L'.seg,.i L'.next]::.arr 4 (L'.found.map Ck.enc)::B))=A++(opB L' A.length++B):=by rw [hH];rfl
  rw [e5]
  exact ⟨q2,q3⟩
end
set_option maxRecDepth 20000
def Lf (n:Nat):Lg:=⟨[],0,0,[],-1,0,yab n zC,0,0⟩
theorem aiP {n:Nat}:(Lf n).S=Rx n:=by
 have hD:(Lf n).D=Kk n:=by
  unfold Lg.D Lf Kk
  simp
 show (⟨(Lf n).D,[],(Lf n).c,_⟩:MS)=⟨Kk n,[],0,_⟩
 congr 1
theorem Nr {n:Nat}:leG [] ⟨[(0,.ptr 2 0 0)],[.arr 65 (yab n zC.enc),.map [] 0,.var [.sl 0 0 n,.mp 1,.i 0,.i (-1),.b false]],0⟩ ⟨[(0,.ptr 2 0 0)],.dead::.dead::(Rx n).bs 2,0⟩:=by
 refine ⟨_,.virt (2+n) 1 (by decide) (.le (p:=⟨[(0,.ptr 2 0 0)],.arr 65 (yab n zC.enc)::.map [] 0::.var [.sl 0 0 n,.mp 1,.i 0,.i (-1),.b false]::.dead::.dead::yab n .dead,0⟩) ?_
  (.mv 3 0 (.arr 65 (yab n zC.enc)) (by decide) rfl rfl (by simp) (.mv 4 1 (.map [] 0) (by decide) rfl rfl (by simp) (.refl _)))),?_⟩
 ·refine ⟨⟨rfl,trivial⟩,?_,trivial,⟨trivial,trivial⟩,?_⟩
  ·show leH (_::_::_::yab (2+n) _) (_::_::_::yab (n+2) .dead)
   rw [show 2+n=n+2 by omega]
   exact ⟨aO _,aO _,aO _,pP⟩
  ·refine ⟨trivial,⟨trivial,trivial,trivial,trivial,trivial,trivial⟩,?_⟩
   exact uP
 ·rw [Rw]
  refine ⟨⟨rfl,trivial⟩,?_,trivial,⟨trivial,trivial⟩,?_⟩
  ·refine ⟨trivial,trivial,aO _,aO _,aO _,?_⟩
   show leH (((yab n Blk.dead).map (mvB 3 0)).map (mvB 4 1)) _
   rw [Mw,Mw]
   exact aF _
  ·refine ⟨⟨trivial,trivial,trivial,trivial,trivial,trivial⟩,trivial,?_⟩
   exact uP
theorem agH (n:Nat) (h:1≤n∧n≤65536):Ok 4 [.i n] (IsA (.ptr 2 0 0) (.dead::.dead::(Lf n).S.bs 2)):=by
 refine yP (agI n) ?_
 intro r hs h0
 unfold Nc at h0
 rw [if_neg (by omega)] at h0
 obtain ⟨rfl,rfl⟩:=h0
 rw [yas,aiP]
 exact ⟨_,_,⟨rfl,rfl⟩,Nr⟩
section
variable {cx:Cx} {f:FuncId} {e:Env} {b:Nat} {K:V→St→Prop}
theorem xK (H:List Blk) (n:Nat) (hn:1≤n∧n≤65536) (hcx:cx.C=C0 Tryd.prog) (hk:aJ cx.fx (H++(.dead::.dead::(Lf n).S.bs (H.length+2)))) (h3:K (.ptr (H.length+2) 0 0) ⟨e,H++(.dead::.dead::(Lf n).S.bs (H.length+2)),b⟩):cB cx 4 [.i n] ⟨e,H,b⟩ K:=by
 refine ⟨[],[.i n],[],IsA (.ptr 2 0 0) (.dead::.dead::(Lf n).S.bs 2),⟨⟨List.nodup_nil,by simp⟩,by simp⟩,⟨trivial,trivial⟩,⟨rfl,trivial⟩,?_,?_⟩
 ·rw [hcx];exact agH n hn
 ·rintro r h' ⟨rfl,rfl⟩ _
  have e1:(Blk.dead::Blk.dead::(Lf n).S.bs 2).map (bB (back [] H.length))=.dead::.dead::(Lf n).S.bs (H.length+2):=by
   have:((Lf n).S.bs 2).map (bB (back [] H.length))=(Lf n).S.bs (H.length+2):=eQ (Lf n).S.ok fun j hj=>by
    unfold back
    simp
    omega
   rw [yah,yah,this];rfl
  simp only [List.filterMap_nil,nM,gY,aS,e1]
  exact ⟨hk,h3⟩
theorem nR (A:List Blk) (L:Lg) (hl:L.cells.length≤70000) (hbad:∀ c∈L.cells,c.bad=false) (hcx:cx.C=C0 Tryd.prog)
  (hbn:cx.bn=[]) (hfx:∀ k∈cx.fx,k<A.length+3) (hA:A.map (aD (yaa (A.length+3) L.n))=A)
  (h1:L.cells.length<129→aJ cx.fx (A++L.S.bs A.length)∧K (.tup [.v (.pointer none),.i 1]) ⟨aB (yaa (A.length+3) L.n) e,A++L.S.bs A.length,b⟩)
  (h2:129≤L.cells.length→∀ fd,tS (L.blank.scan (L.cells.length/129)).found fd→aJ cx.fx (A++opB (L.opn fd) A.length)∧K (.tup [.ptr (A.length+L.n+4) 0 0,.i 0]) ⟨aB (yaa (A.length+3) L.n) e,A++opB (L.opn fd) A.length,b⟩):cB cx 9 [.ptr A.length 0 0] ⟨e,A++L.S.bs A.length,b⟩ K:=by
 have hS:=L.S.len (p:=A.length)
 refine ⟨yaa A.length (3+L.n),[.ptr 0 0 0],yaa 3 L.n,R15 L,⟨⟨yaP,fun k hk=>?_⟩,fun j hj k hk hkf=>?_⟩,⟨trivial,trivial⟩,⟨?_,trivial⟩,?_,?_⟩
 ·rw [yad] at hk
  refine ⟨by simp only [yag,hS];show k<A.length+(3+L.n);omega,by rw [hbn];simp⟩
 ·rw [yad] at hj
  rw [yaZ (by omega)] at hk
  have:=hfx k hkf
  simp only [yaQ] at hk
  omega
 ·simp only [cG,c9]
  rw [if_pos (by omega),yax]
  exact rfl
 ·have e1:(yaa A.length (3+L.n)).map (fun k=>bB (pos (yaa A.length (3+L.n))) (blk (A++L.S.bs A.length) k))=L.S.bs 0:=by
   have h1:(L.S.bs A.length).map (bB (pos (yaa A.length (3+L.n))))=L.S.bs 0:=eQ L.S.ok fun j hj=>by
    have hj2:j<3+L.n:=hj
    rw [c9,if_pos (by omega)];simp
   rw [←h1]
   apply yaR
   ·simp only [yak,yar,hS];rfl
   ·intro j h2 h3
    simp only [yau,yaS,blk]
    congr 1
    have hj:j<(L.S.bs A.length).length:=by simpa using h3
    rw [yae,yaj (by omega),show A.length+1*j-A.length=j by omega,yaI hj];rfl
  rw [e1,hcx];exact ok9 L hl hbad
 ·have hM:(yaa 3 L.n).filterMap ((yaa A.length (3+L.n))[·]?)=yaa (A.length+3) L.n:=vO
  have hNN:(A++L.S.bs A.length).length=A.length+(3+L.n):=by rw [yag,hS];rfl
  have hset:∀ D':List Blk,D'.length=3+L.n→∀ X,aS (yaa A.length (3+L.n)) (D'++X) ((A++L.S.bs A.length).map (aD (yaa (A.length+3) L.n)))=A++(D'++X):=by
   intro D' hD X
   rw [yal,hA]
   have e0:aS (yaa A.length (3+L.n)++[]) (D'++X) (A++(L.S.bs A.length).map (aD (yaa (A.length+3) L.n)))=aS [] X (aS (yaa A.length (3+L.n)) D' (A++(L.S.bs A.length).map (aD (yaa (A.length+3) L.n)))):=lO (by rw [yar,hD])
   rw [yac] at e0
   rw [e0]
   have:=eZ (X:=(L.S.bs A.length).map (aD (yaa (A.length+3) L.n))) (Y:=D') (B:=[]) (A:=A) (by rw [yak,hS];exact hD)
   rw [yak,hS,yac,yac] at this
   rw [show (3+L.S.n)=3+L.n from rfl] at this
   rw [this]
   simp only [aS,yaq]
  have hback:∀ j,back (yaa A.length (3+L.n)) (A.length+(3+L.n)) j=some (A.length+j):=by
   intro j
   rw [mA]
   split
   ·rfl
   ·congr 1;omega
  have hSr:∀ {L':Lg},L'.n=L.n→(L'.S.bs 0).map (bB (back (yaa A.length (3+L.n)) (A.length+(3+L.n))))=L'.S.bs A.length:=fun {L'} hn=>eQ L'.S.ok fun j hj=>by
   rw [hback];simp
  rintro r h' (⟨q1,rfl,rfl⟩|⟨q1,fd,q2,rfl,rfl⟩) _
  ·obtain ⟨k1,k2⟩:=h1 q1
   rw [hM,hNN,hSr rfl]
   have:=hset (L.S.bs A.length) hS []
   rw [yac] at this
   rw [this]
   exact ⟨k1,k2⟩
  ·obtain ⟨k1,k2⟩:=h2 q1 fd q2
   have hs:=Sc.scan (L0:=L.blank) (k:=L.cells.length/129)
   have hc:(L.opn fd).cells=L.cells:=hs.cells
   have hn:(L.opn fd).n=L.n:=by show (L.opn fd).cells.length=_;rw [hc]
   have e2:(opB (L.opn fd) 0).map (bB (back (yaa A.length (3+L.n)) (A.length+(3+L.n))))=opB (L.opn fd) A.length:=by
    unfold opB
    rw [yal,hSr hn]
    simp only [yah,yan,bB,dN,ren,hback,yaE,yaJ,yaT]
   rw [hM,hNN,e2,iH,hset _ (by rw [(L.opn fd).S.len];show 3+(L.opn fd).n=_;rw [hn]),←iH]
   have e3:ren (back (yaa A.length (3+L.n)) (A.length+(3+L.n))) (.tup [.ptr (L.cells.length+4) 0 0,.i 0])=.tup [.ptr (A.length+L.n+4) 0 0,.i 0]:=by
    simp only [ren,dN,hback]
    rw [show A.length+(L.cells.length+4)=A.length+L.n+4 by show _=A.length+L.cells.length+4;omega]
   rw [e3]
   exact ⟨k1,k2⟩
end
set_option maxRecDepth 20000
theorem Mm:mO zS=yab 64 0:=by
 unfold mO zS
 rw [yav];rfl
theorem Up:∀ {k:Nat},flB (yab k zS)=yab (64*k) 0
 | 0=>rfl
 | k+1=>by
  have:=Up (k:=k)
  unfold flB at this ⊢
  rw [yaK,List.flatMap_cons,this,Mm,List.replicate_append_replicate]
  congr 1;omega
theorem Sh {L:Lg} {k:Nat} (h:(L.cells.getD (k*129) zC).s=zS):L.hd k=L:=by
 have hg:L.hg k=0:=by
  unfold Lg.hg
  rw [h,Mm,List.drop_replicate,List.take_replicate,rV]
 have hok:L.hok k=false:=by
  unfold Lg.hok
  rw [hg]
  rfl
 unfold Lg.hd
 rw [hok];rfl
theorem Cv {L:Lg} {k j:Nat} (h:∀ i,i<8→(L.cells.getD (bZ k j+i) zC).s=zS):L.slo k j=L:=by
 have hs:L.secs k j=yab 8 zS:=by
  unfold Lg.secs
  rw [List.eq_replicate_iff]
  refine ⟨by simp,fun b hb=>?_⟩
  obtain ⟨i,hi,rfl⟩:=List.mem_map.1 hb
  exact h i (by simpa using hi)
 unfold Lg.slo Lg.bts
 rw [hs,Up,Pu]
theorem yF {L:Lg} {k:Nat}:∀ {j:Nat},(∀ i,i<j→∀ m,m<8→(L.cells.getD (bZ k i+m) zC).s=zS)→L.slos k j=L
 | 0,_=>rfl
 | j+1,h=>by
  have h1:=yF (L:=L) (k:=k) (j:=j) fun i hi=>h i (by omega)
  show (L.slos k j).slo k j=L
  rw [h1]
  exact Cv (h j (by omega))
theorem Cy {L:Lg} {k:Nat} (h0:(L.cells.getD (k*129) zC).s=zS) (h:∀ i:Nat,i<16→∀ m,m<8→(L.cells.getD (bZ k i+m) zC).s=zS):(L.hd k).slos k 16=L:=by
 rw [Sh h0,yF h]
theorem xW {n i:Nat}:((Lf n).cells.getD i zC)=zC:=by
 show (yab n zC).getD i zC=zC
 rw [yae,ybc]
 split<;>rfl
theorem uY {n:Nat}:∀ {k:Nat},(Lf n).blank.scan k=(Lf n).blank
 | 0=>rfl
 | k+1=>by
  show (((Lf n).blank.scan k).hd k).slos k 16=_
  rw [uY (k:=k)]
  refine Cy ?_ fun i _ m _=>?_
  ·show ((Lf n).cells.getD _ zC).s=zS
   rw [xW];rfl
  ·show ((Lf n).cells.getD _ zC).s=zS
   rw [xW];rfl
theorem Qh {fd:List Ck} (h:tS [] fd):fd=[]:=by
 have:=h.p.length_eq
 exact ybd.1 this
theorem Ro {n:Nat}:(Lf n).opn []=(Lf n).blank:=by
 unfold Lg.opn
 rw [uY];rfl
theorem Kj {n:Nat} {fd:List Ck} (h:tS ((Lf n).blank.scan ((Lf n).cells.length/129)).found fd):(Lf n).opn fd=(Lf n).blank:=by
 rw [uY] at h
 rw [Qh h,Ro]
theorem Inv.newN {n s:Nat} (hs:1≤s∧s≤500) (hn:129*s≤n∧n<129*(s+1)):Inv ⟨[],s,-1,0⟩ (Lf n).blank 1:=by
 have hg:(Lf n).blank.gens=yab s 0:=by
  show yab ((yab n zC).length/129) (0:Int)=_
  rw [yai]
  congr 1;omega
 have hgl:(Lf n).blank.gens.length=s:=by rw [hg,yai]
 have hcl:(Lf n).blank.cells.length=n:=yai ..
 refine ⟨rfl,rfl,fun h=>absurd h (by show ¬(0:Int)≤-1;decide),⟨yao _,by show (-1:Int)<_;omega⟩,⟨yao _,by show (0:Int)≤16;decide⟩,by omega,by rw [hgl],by rw [hcl,hgl];omega,fun c hc=>?_,fun x hx=>?_,⟨yao _,by show (0:Int)≤_;decide⟩,⟨yao _,by show (0:Int)≤_;decide⟩,yap _,yap _,fun x hx=>by simp at hx,List.Pairwise.nil,fun x hx=>by simp at hx,fun _=>yap _,fun h=>absurd h (by show ¬(0:Int)≤-1;decide),fun h=>absurd h (by show ¬(0:Int)≤-1;decide)⟩
 ·have:c∈yab n zC:=hc
  rw [(yaL.1 this).2];rfl
 ·rw [hg] at hx
  rw [(yaL.1 hx).2]
  exact ⟨yao _,by decide⟩
theorem Inv.new {s:Nat} (hs:1≤s∧s≤500):Inv ⟨[],s,-1,0⟩ (Lf (129*s)).blank 1:=Inv.newN hs (by omega)
theorem pL {A:List Blk} {L:Lg} {p:Nat} (hp:A.length=p) {j:Nat} (hj:j=p∨j=p+L.cells.length+3∨j=p+L.cells.length+4∨j=p+L.cells.length+5):aC (A++opB L p) j:=by
 have hS:(L.S.bs p).length=3+L.cells.length:=L.S.len
 rcases hj with h|h|h|h
 ·rw [h]
  refine mW (B:=dkV p L.S.D) (by simp [dkV]) ?_
  rw [yaj (by omega),hp,yax]
  rfl
 ·rw [h]
  refine mW (B:=.arr 1 (L.gens.map encI)) (by simp) ?_
  rw [yaj (by omega),iH,yaj (by omega),show p+L.cells.length+3-A.length-(L.S.bs p).length=0 by omega];rfl
 ·rw [h]
  refine mW (B:=.var [.ptr p 0 0,.sl (p+L.cells.length+3) 0 L.gens.length,.i L.top,.i L.seq,.sl (p+L.cells.length+5) 0 L.found.length,.i L.seg,.i L.next]) (by simp) ?_
  rw [yaj (by omega),iH,yaj (by omega),show p+L.cells.length+4-A.length-(L.S.bs p).length=1 by omega];rfl
 ·rw [h]
  refine mW (B:=.arr 4 (L.found.map Ck.enc)) (by simp) ?_
  rw [yaj (by omega),iH,yaj (by omega),show p+L.cells.length+5-A.length-(L.S.bs p).length=2 by omega];rfl
theorem aaX {A:List Blk} {L:Lg} {p:Nat} (hp:A.length=p):wfB (A++opB L p) (opB L p):=by
 rw [iH]
 refine L.S.wf A (o3 L p) hp.symm (C:=o3 L p) ?_
 rw [←iH]
 exact ⟨⟨pL hp (.inl rfl),pL hp (.inr (.inl rfl)),trivial,trivial,pL hp (.inr (.inr (.inr rfl))),trivial,trivial,trivial⟩,trivial⟩
set_option maxRecDepth 20000
theorem aaZ:OkN Tryd.prog 54 [.nil] [] [] (IsA (.tup []) []):=by
 refine ⟨cal Tryd.func54 (by kernel_rfl) (by kernel_rfl),?_⟩
 intro ρ X w vals hr ha
 match vals,ha with
 | [val],⟨hv,_⟩ =>
  obtain rfl:val=.slice none 0 0:=hv
  refine (Tryd.slices_Sort_int_none none 0 w).mono ?_
  rintro e w' ⟨rfl,rfl⟩
  exact ⟨_,.tup [],[],ρ,rfl,⟨⟨rfl,rfl⟩,yam _⟩,Fr.refl _ _,hr,⟨#[],rfl,trivial⟩,fun _ _ _=>rfl⟩
theorem abF (L:Lg):OkD 40 [.ptr 0 0 0] L.S (fun r S'=>S'=L.S∧r=.nil):=by
 refine lQ lw40 (by simp) ?_
 have hS:L.S.L=[]:=rfl
 unfold c40
 show aw _ _ _ _ _ ⟨_,dkV 0 L.S.D::dkC L.S.D::.map [] L.S.c::dkT L.S.D,_⟩
 unfold dkV dkC
 simp -implicitDefEqProofs only [rX,↓rY,zX,aA,↓reduceIte,reduceCtorEq,aG,cxN,dP,fI,aV]
 refine aZ (fun k:Nat=>(⟨[(9,.ptr ((dkT L.S.D).length+3) 0 0),(3,.nil)],dkX L.S [.it (.mp 2) L.S.c [] L.S.c],(dkT L.S.D).length+4⟩:St)) (fun k=>True) (fun k=>0) 0 trivial ?_ ?_
 ·refine Ik ⟨rfl,rfl,trivial⟩ (aF _) ⟨?_,trivial,trivial⟩ ⟨trivial,trivial⟩
  exact Dx ⟨_,rfl,by simp⟩
 ·intro k _
  unfold c40l0 dkX
  simp -implicitDefEqProofs only [rX,↓rY,zY,zZ,cells?,↓reduceIte,Nat.reduceEqDiff,reduceCtorEq,aG,dI,leE,leH,leB,leV,eP,aJ,aC,wfE,wfB,wfV,wfL,Nat.reduceLT,↓qbo,↓qbr,↓qck,↓qcl,dP,fI,mZ,oG,rW,Ba,dkV,dkC,iQ,hS,bP]
  refine ⟨⟨rfl,yam _⟩,fun _=>?_,by simp⟩
  refine lZ [.nil] (IsA (.tup []) []) ⟨⟨trivial,trivial⟩,⟨rfl,trivial⟩⟩ aaZ ?_
  rintro r h' ⟨rfl,rfl⟩
  refine ⟨⟨trivial,trivial,trivial,trivial⟩,?_⟩
  simp -implicitDefEqProofs only [rX,↓reduceIte,Nat.reduceEqDiff]
  refine tK L.S ?_ rfl ⟨trivial,rfl,rfl⟩
  exact cX (h:=L.S.bs 0)
def Lg.fresh (L:Lg):Lg:={ L with steps:=0,c:=0 }
theorem abT (L:Lg) (h:1≤L.n∧L.n≤65536):OkN Tryd.prog 16 [.ptr 0 0 0,.nil] (L.S.bs 0) (yaa 3 L.n) (IsA (.ptr (L.n+5) 0 0) (L.S.bs 0++(.dead::.dead::L.fresh.S.bs (L.n+5)))):=by
 refine fJ pol [0,1,2] lw16 (by simp) ⟨trivial,trivial,trivial,trivial⟩ (fun k hk hm=>?_) ?_
 ·rw [L.S.len] at hk
  have:¬(3≤k∧k<3+L.n):=fun h2=>hm (yad.2 h2)
  have h3:k=0∨k=1∨k=2:=by
   have:k<3+L.n:=hk
   omega
  simp;omega
 rw [L.S.len]
 show aw _ _ _ _ _ ⟨_,dkV 0 L.S.D::dkC L.S.D::.map [] L.S.c::dkT L.S.D,_⟩
 unfold c16
 unfold dkV dkC
 simp -implicitDefEqProofs only [rX,↓rY,aA,↓reduceIte,reduceCtorEq,cxN,aV]
 intro hm
 have hT:(dkT L.S.D).length=L.n:=L.S.T_len
 have hL0:(dkX L.S []).length=(dkT L.S.D).length+3:=by
  unfold dkX
  simp only [yaA,yac]
 show cB _ _ _ ⟨_,_::_::_::dkT L.S.D,_⟩ _
 rw [←yac (dkT L.S.D)]
 refine xK (dkX L.S []) L.n h rfl (by exact ⟨trivial,trivial,trivial,trivial⟩) ?_
 rw [Bv,yaB,hL0]
 have e1:(Lf L.n).S.bs ((dkT L.S.D).length+3+2)=.var [.sl ((dkT L.S.D).length+6) 0 L.n,.mp ((dkT L.S.D).length+7),.i 0,.i (-1),.b false]::.arr 65 ((yab L.n zC).map Cl.enc)::.map [] 0::dkT (Lf L.n).D:=by
  show dkV _ (Lf L.n).D::_=_
  unfold dkV
  rw [show (Lf L.n).D.n=L.n from yai ..]
  rfl
 rw [e1]
 unfold dkX
 simp -implicitDefEqProofs only [rX,↓rY,↓reduceIte,Nat.reduceEqDiff,reduceCtorEq,rW,w4,Fk,dkV,dkC]
 have hDn:L.S.D.n=L.n:=rfl
 have hcl:(yaf Cl.enc L.S.D.cells).length=L.n:=yak ..
 have e2:yay L.n (yay L.S.D.n (yaf Cl.enc L.S.D.cells))++List.drop (min (yay L.S.D.n (yaf Cl.enc L.S.D.cells)).length L.n) (yaf Cl.enc (yab L.n zC))=yaf Cl.enc L.cells:=by
  rw [hDn,show yay L.n (yaf Cl.enc L.S.D.cells)=yaf Cl.enc L.S.D.cells from yaF (by rw [hcl];exact yam _),show yay L.n (yaf Cl.enc L.S.D.cells)=yaf Cl.enc L.S.D.cells from yaF (by rw [hcl];exact yam _),hcl,Nat.min_self,List.drop_of_length_le (by simp),yac]
  rfl
 rw [e2]
 have e3:(Blk.var [V.sl ((dkT L.S.D).length+6) 0 L.n,V.mp ((dkT L.S.D).length+7),V.i 0,V.i (-1),V.b false]::Blk.arr 65 (yaf Cl.enc L.cells)::Blk.map [] 0::dkT (Lf L.n).D)=L.fresh.S.bs ((dkT L.S.D).length+3+2):=by
  have:dkT (Lf L.n).D=dkT L.fresh.D:=by
   unfold dkT Lf Lg.D Lg.fresh
   simp
  rw [this];rfl
 rw [e3]
 simp only [fX]
 have hfk:L.fresh.n=L.n:=rfl
 have d5:(((dkT L.S.D).length+3+2)∈yaa 3 L.S.n)=False:=eq_false fun hm=>by
  have:=yad.1 hm
  have:L.S.n=L.n:=rfl
  omega
 have d0:=vP L.S
 have hB:∀ M:List Nat,(∀ j∈M,j<(dkT L.S.D).length+3)→yaf (aD M) (.dead::.dead::L.fresh.S.bs ((dkT L.S.D).length+3+2))=.dead::.dead::L.fresh.S.bs ((dkT L.S.D).length+3+2):=by
  intro M hM
  show .dead::.dead::(aD M (dkV _ L.fresh.D)::aD M (dkC L.fresh.D)::aD M (.map [] 0)::yaf (aD M) (dkT L.fresh.D))=_
  rw [xH]
  have h1:(((dkT L.S.D).length+3+2+1)∈M)=False:=eq_false fun h=>by have:=hM _ h;omega
  have h2:(((dkT L.S.D).length+3+2+2)∈M)=False:=eq_false fun h=>by have:=hM _ h;omega
  simp only [dkV,dkC,aD,bK,kill,h1,h2,if_false]
  rfl
 refine ⟨.inr trivial,?_⟩
 refine p9 _ L.S [] [] _ (nX (abF L)) ⟨trivial,trivial⟩ rfl rfl (hB _ fun j hj=>by
  have:=yad.1 hj
  have:L.S.n=L.n:=rfl
  omega) ?_
 rintro v S'-⟨rfl,rfl⟩
 refine ⟨fun g=>rfl,?_⟩
 simp -implicitDefEqProofs only [rX,aA,↓reduceIte,aB,kill,St.kill,↓qaR,d5,d0]
 have hwf:wfB (dkX L.S (.dead::.dead::L.fresh.S.bs ((dkT L.S.D).length+3+2))) (.dead::.dead::L.fresh.S.bs ((dkT L.S.D).length+3+2)):=by
  have:=L.fresh.S.wf (p:=(dkT L.S.D).length+3+2) (L.S.bs 0++[.dead,.dead]) [] (by rw [yag,L.S.len,hT];show L.n+3+2=3+L.n+2;omega) (C:=[]) trivial
  rw [yac,yaq] at this
  exact this
 have hlive:aC (dkX L.S (.dead::.dead::L.fresh.S.bs ((dkT L.S.D).length+3+2))) ((dkT L.S.D).length+3+2):=Dx (j:=2) ⟨_,rfl,by unfold dkV;simp⟩
 refine aZ (fun k:Nat=>(⟨[(27,.i 0),(26,.i 0),(5,.ptr ((dkT L.S.D).length+3+2) 0 0)],dkX L.S (.dead::.dead::L.fresh.S.bs ((dkT L.S.D).length+3+2)),0⟩:St)) (fun k=>True) (fun k=>0) 0 trivial ?_ ?_
 ·refine Ik ⟨rfl,rfl,rfl,trivial⟩ (aF _) ⟨trivial,trivial,?_,trivial⟩ ?_
  ·exact hlive
  ·exact hwf
 ·intro k _
  unfold c16l0
  simp -implicitDefEqProofs only [rX,↓rY,rdK,zV,kX,aA,↓reduceIte,Nat.reduceEqDiff,reduceCtorEq,Nat.reduceLT]
  rw [show decide ((0:Int)<0)=false from rfl,we,dW]
  refine ⟨dkX L.S (.dead::.dead::L.fresh.S.bs ((dkT L.S.D).length+3+2)),⟨aF _,iU,?_,hlive,Lc hwf⟩,?_⟩
  ·unfold dkX
   simp only [yaA,yag,hT]
   show 3+L.n≤_
   omega
  ·refine ⟨?_,?_⟩
   ·show V.ptr ((dkT L.S.D).length+3+2) 0 0=_
    rw [hT]
   ·rw [oS,hT]
set_option maxRecDepth 20000
structure cH (cs:List Cl) (k:Nat) (g:Int) (x:Option bW):Prop where
 gg:0≤g∧g≤1000
 n:k*129+129≤cs.length
 hd:(cs.getD (k*129) zC).s=if g=0 then zS else hdS k g
 z:∀ i,8≤i→i<128→(cs.getD (k*129+1+i) zC).s=zS
 sl:∀ i,i<8→(cs.getD (k*129+1+i) zC).s=match x with
  | some s=>cutS (dJ k 0 s) i
  | none=>zS
structure bW.Fine (s:bW):Prop where
 g:0<s.gen∧s.gen≤1152921504606846976
 q:0<s.seq∧s.seq≤1152921504606846976
 k:s.key.length≤100
 d:s.data.length≤360
theorem uS {k j:Nat}:bZ (k:Int) (j:Int)=k*129+1+j*8:=by unfold bZ;omega
theorem yG {L:Lg} {k:Nat}:∀ {j:Nat},(∀ i:Nat,1≤i→i<1+j→∀ L':Lg,L'.cells=L.cells→L'.slo k i=L')→L.slos k (1+j)=L.slo k 0
 | 0,_=>rfl
 | j+1,h=>by
  have h1:=yG (L:=L) (k:=k) (j:=j) fun i a b=>h i a (by omega)
  show (L.slos k (1+j)).slo k (1+j)=_
  rw [h1]
  have hs:=(Sc.refl (L:=L)).slo (k:=k) (j:=0)
  exact h (1+j) (by omega) (by omega) _ hs.cells
theorem cH.zero {L:Lg} {k:Nat} (h:cH L.cells k 0 none):(L.hd k).slos k 16=L:=by
 refine Cy (by have:=h.hd;rw [if_pos rfl] at this;exact this) fun i hi m hm=>?_
 rw [uS,yaT (k*129+1)]
 by_cases h8:i*8+m<8
 ·exact h.sl _ h8
 ·exact h.z _ (by omega) (by omega)
theorem Si {k:Nat} {g:Int} (h:0≤g∧g≤1000):cJ (((mO (hdS k g)).drop 4).take 8)=g:=by
 unfold hdS
 rw [Bb]
 unfold sX
 rw [show List.drop 4 ([87,83,69,71]++(wrN 8 g++(fL 140 [lB [(k:Int),g]]++yab 36 0)):Bs)=wrN 8 g++(fL 140 [lB [(k:Int),g]]++yab 36 0) from rfl]
 rw [List.take_append_of_le_length (by rw [cC];exact yam _),yaF (by rw [cC];exact yam _)]
 have hp:(256:Int) ^ 8=18446744073709551616:=by decide
 exact mX h.1 (by omega) (by omega)
theorem cH.full {L:Lg} {k:Nat} {g:Int} {s:bW} (h:cH L.cells k g (some s)) (hg:0<g) (hs:s.Fine) (hk:k<L.gens.length):(L.hd k).slos k 16 =
  { L with gens:=L.gens.set k g,top:=max (max L.top g) s.gen,seq:=max L.seq s.seq,found:=if s.gen=g then L.found++[⟨k,0,s.seq,s.key⟩] else L.found }:=by
 have hgg:=h.gg
 have h1:(L.cells.getD (k*129) zC).s=hdS k g:=by have:=h.hd;rw [if_neg (by omega)] at this;exact this
 have h2:L.hg k=g:=by unfold Lg.hg;rw [h1,Si hgg]
 have h3:L.hd k={ L with gens:=L.gens.set k g,top:=max L.top g }:=by
  unfold Lg.hd Lg.hok
  rw [h2,h1,decide_eq_true hg,decide_eq_true (by omega:g≤1152921504606846976),decide_eq_true rfl]
  rfl
 rw [h3]
 have h4:=yG (L:={ L with gens:=L.gens.set k g,top:=max L.top g }) (k:=k) (j:=15) fun i a b L' hc=>Cv fun m hm=>by
  rw [uS,yaT (k*129+1),hc]
  exact h.z _ (by omega) (by omega)
 rw [show (1+15)=16 from rfl] at h4
 rw [h4]
 have hb:({ L with gens:=L.gens.set k g,top:=max L.top g }:Lg).bts (k:Int) ((0:Nat):Int)=dJ k 0 s:=by
  have hsec:({ L with gens:=L.gens.set k g,top:=max L.top g }:Lg).secs (k:Int) ((0:Nat):Int)=d9 (dJ k 0 s) 8:=by
   unfold Lg.secs d9
   refine List.map_congr_left fun j hj=>?_
   rw [uS,Nat.zero_mul,yaJ]
   exact h.sl j (by simpa using hj)
  unfold Lg.bts
  rw [hsec,Bz eH (yam 8)]
  exact yaF (by rw [eH];exact yam _)
 unfold Lg.slo
 rw [hb,show ((0:Nat):Int)=0 from rfl,Jh hs.g hs.q hs.k hs.d]
 have hgd:(L.gens.set k g).getD k 0=g:=by rw [yae,List.getElem?_set_self hk];rfl
 simp only [hgd]
set_option maxRecDepth 20000
theorem cH.far {cs cs':List Cl} {k:Nat} {g:Int} {x:Option bW} (h:cH cs k g x) (hl:cs'.length=cs.length) (hf:∀ i,k*129≤i→i<k*129+129→cs'[i]?=cs[i]?):cH cs' k g x:=by
 have e:∀ i,k*129≤i→i<k*129+129→cs'.getD i zC=cs.getD i zC:=fun i a b=>by
  rw [yae,yae,hf i a b]
 refine ⟨h.gg,by rw [hl];exact h.n,by rw [e _ (by omega) (by omega)];exact h.hd,fun i a b=>by rw [e _ (by omega) (by omega)];exact h.z i a b,fun i a=>by rw [e _ (by omega) (by omega)];exact h.sl i a⟩
theorem cH.new {n k:Nat} (h:k*129+129≤n):cH (Lf n).cells k 0 none:=by
 refine ⟨by decide,by show _≤(yab n zC).length;rw [yai];exact h,by rw [xW];rfl,fun i _ _=>by rw [xW];rfl,fun i _=>by rw [xW];rfl⟩
open Classical in
theorem Fu {L:Lg} {s c c' i:Nat} (hi:s*129≤i∧i<s*129+129) (hn:i<L.cells.length) :
  ((L.ren s c c').cells.getD i zC).s=if i=s*129 then hdS s (L.top+1) else if L.gens.getD s 0=0∧∃ j,j<16∧i=s*129+1+j*8 then zS else (L.cells.getD i zC).s:=by
 have hw:∀ cs:List Cl,i<cs.length→((i7 cs (s*129) [hdS s (L.top+1)]).getD i zC).s=if i=s*129 then hdS s (L.top+1) else (cs.getD i zC).s:=by
  intro cs hcs
  rw [yae,i6 hcs]
  by_cases h1:i=s*129
  ·rw [if_pos (by simp only [yaA,yaD];omega),if_pos h1,h1,yax];rfl
  ·rw [if_neg (by simp only [yaA,yaD];omega),if_neg h1,yae]
 unfold Lg.ren
 by_cases h0:L.gens.getD s 0=0
 ·rw [if_pos h0]
  show ((i7 (tL L.cells (erO s 16)) (s*129) [hdS s (L.top+1)]).getD i zC).s=_
  rw [hw _ (by rw [iG];exact hn)]
  by_cases h1:i=s*129
  ·rw [if_pos h1,if_pos h1]
  ·rw [if_neg h1,if_neg h1,yae,Dn hn]
   unfold erO
   by_cases h2:∃ j,j<16∧i=s*129+1+j*8
   ·rw [if_pos h2,if_pos ⟨h0,h2⟩];rfl
   ·rw [if_neg h2,if_neg (fun h=>h2 h.2)]
    simp only [yae]
 ·rw [if_neg h0]
  show ((i7 L.cells (s*129) [hdS s (L.top+1)]).getD i zC).s=_
  rw [hw _ hn]
  by_cases h1:i=s*129
  ·rw [if_pos h1,if_pos h1]
  ·rw [if_neg h1,if_neg h1,if_neg (fun h=>h0 h.1)]
theorem cH.rnw {L:Lg} {s c c':Nat} {g:Int} {x:Option bW} (h:cH L.cells s g x) (hx:L.gens.getD s 0=0→x=none) (ht:0≤L.top∧L.top<1000):cH (L.ren s c c').cells s (L.top+1) x:=by
 have hl:=(i3 (L:=L) (s:=s) (c:=c) (c':=c')).len
 have hn:=h.n
 refine ⟨by omega,by rw [hl];exact hn,?_,fun i a b=>?_,fun i a=>?_⟩
 ·rw [Fu (by omega) (by omega),if_pos rfl,if_neg (by omega)]
 ·rw [Fu (by omega) (by omega),if_neg (by omega)]
  split
  ·rfl
  ·exact h.z i a b
 ·rw [Fu (by omega) (by omega),if_neg (by omega)]
  split
  ·rename_i h3
   rw [hx h3.1]
  ·exact h.sl i a
theorem cH.rnwO {L:Lg} {s c c' k:Nat} {g:Int} {x:Option bW} (h:cH L.cells k g x) (hk:k≠s):cH (L.ren s c c').cells k g x:=by
 have hr:=(i3 (L:=L) (s:=s) (c:=c) (c':=c'))
 exact h.far hr.len fun i a b=>hr.far i (by omega)
theorem Ch {L:Lg} {s c i:Nat} {key data:Bs} (hs:L.seg=s) (hn:L.next=0) (hi:i<L.cells.length):(L.app key data c).cells[i]?=if s*129+1≤i∧i<s*129+9 then some ⟨cutS (dJ s 0 (L.slot key data)) (i-(s*129+1)),false⟩ else L.cells[i]?:=by
 have hat:L.at=s*129+1:=by unfold Lg.at;rw [hs,hn];omega
 show (i7 L.cells L.at (d9 (dJ L.seg L.next (L.slot key data)) 8))[i]?=_
 rw [i6 hi,hat,eJ,hs,hn]
 by_cases h:s*129+1≤i∧i<s*129+9
 ·rw [if_pos (by omega),if_pos h,Eo (by omega)]
 ·rw [if_neg (by omega),if_neg h]
theorem cH.put {L:Lg} {s c:Nat} {g:Int} {key data:Bs} (h:cH L.cells s g none) (hs:L.seg=s) (hn:L.next=0):cH (L.app key data c).cells s g (some (L.slot key data)):=by
 have hl:(L.app key data c).cells.length=L.cells.length:=cF
 have hnn:=h.n
 refine ⟨h.gg,by rw [hl];exact hnn,?_,fun i a b=>?_,fun i a=>?_⟩
 ·rw [yae,Ch hs hn (by omega),if_neg (by omega),←yae]
  exact h.hd
 ·rw [yae,Ch hs hn (by omega),if_neg (by omega),←yae]
  exact h.z i a b
 ·rw [yae,Ch hs hn (by omega),if_pos (by omega)]
  simp only [Option.getD_some]
  congr 1
  omega
theorem cH.putO {L:Lg} {s c k:Nat} {g:Int} {x:Option bW} {key data:Bs} (h:cH L.cells k g x) (hs:L.seg=s) (hn:L.next=0) (hk:k≠s):cH (L.app key data c).cells k g x:=by
 have hl:(L.app key data c).cells.length=L.cells.length:=cF
 have hnn:=h.n
 refine h.far hl fun i a b=>?_
 rw [Ch hs hn (by omega),if_neg (by omega)]
theorem Inv.re {m:Md} {L:Lg} {B st c:Nat} (h:Inv m L B) (hst:st≤100*B):Inv { m with seg:=-1 } { L with seg:=-1,next:=0,steps:=st,c:=c } B :=
 ⟨h.fnd,rfl,fun h0=>absurd h0 (by show ¬(0:Int)≤-1;decide),⟨yao _,by show (-1:Int)<L.gens.length;omega⟩,⟨yao _,by show (0:Int)≤16;decide⟩,h.gl,h.sgs,h.cl,h.bad,h.gp,h.tp,h.sq,hst,h.fl,fun x hx=>by have:=h.its x hx;exact ⟨this.sg,this.sl,this.sq,this.gn,this.key,this.dat,this.cl⟩,h.asc,fun x hx he=>by have:=(h.its x hx).sg;have he2:x.c.seg=-1:=he;omega,h.cnt,fun h0=>absurd h0 (by show ¬(0:Int)≤-1;decide),fun h0=>absurd h0 (by show ¬(0:Int)≤-1;decide)⟩
set_option maxRecDepth 20000
theorem Jp {m:Md} {L:Lg} {B s:Nat} {key data:Bs} (h:Inv m L B) (hB:B≤1000) (hm:m.seg=-1) (hs:s<L.gens.length) (hf:m.fr s=true) (hfl:∀ i:Nat,i<s→m.fr i=false) (hk:key.length≤100) (hd:data.length≤360) :
  OkL 15 [.ptr 0 0 0,sv key,sv data] L (fun r L'=>r=.tup [.agg [.i s,.i 0,.i (L.seq+1)],.i 0]∧∃ c c' c'',L'=(L.took s c c').app key data c''):=by
 have hsq:=h.sq
 have hsg:=h.sg
 have hse:=h.seg
 have hfl2:=h.fl
 refine fB (Nk L key data (h.Sm (by omega)) ⟨by omega,by omega⟩ (by rw [h.fnd,yak];omega) (by omega) (by omega) h.nx (fun x hx=>by have:=h.gp x hx;omega)) ?_
 rintro r hh ⟨L',⟨h1,h2⟩,rfl⟩
 refine ⟨L',⟨h1,?_⟩,rfl⟩
 rcases h2 with ⟨q1,rfl,rfl⟩|⟨q1,q2,q3,rfl,rfl⟩|⟨q1,L1,c,q2,rfl,rfl⟩
 ·omega
 ·have:=q3 s hs
  rw [h.free,hf] at this
  cases this
 ·rcases q2 with ⟨a1,rfl⟩|⟨a1,s',c1,c2,a2,a3,a4,rfl⟩
  ·omega
  ·have e:s'=s:=by
    rcases Nat.lt_trichotomy s' s with h5|h5|h5
    ·have:=hfl s' h5
     rw [←h.free,a3] at this
     cases this
    ·exact h5
    ·have:=a4 s h5
     rw [h.free,hf] at this
     cases this
   subst e
   have hr:=i3 (L:=L) (s:=s') (c:=c1) (c':=c2)
   have hq1:(L.took s' c1 c2).seq=L.seq:=hr.seq
   rw [hq1]
   exact ⟨rfl,c1,c2,c,rfl⟩
structure Ph (m:Md) (L:Lg) (g0 g1:Int) (x0 x1:Option bW) (t q:Int) (B:Nat):Prop where
 inv:Inv m L B
 n:L.cells.length=300
 g:L.gens=[g0,g1]
 t:L.top=t
 q:L.seq=q
 s0:cH L.cells 0 g0 x0
 s1:cH L.cells 1 g1 x1
def ik:Bs:=[107]
def il:Bs:=[108]
def rS:Bs:=[97,98,99]
def it1:It:=⟨⟨0,0,1,ik⟩,rS⟩
def it2:It:=⟨⟨1,0,2,il⟩,[]⟩
def sl1:bW:=⟨1,1,ik,rS⟩
def sl2:bW:=⟨2,2,il,[]⟩
theorem phA:Ph ⟨[],2,-1,0⟩ (Lf 300).blank 0 0 none none 0 0 1:=by
 refine ⟨Inv.newN (n:=300) (s:=2) (by omega) (by omega),yai ..,?_,rfl,rfl,cH.new (by omega),cH.new (by omega)⟩
 show yab ((yab 300 zC).length/129) (0:Int)=_
 rw [yai];rfl
theorem phB {L:Lg} {c c' c'':Nat} (h:Ph ⟨[],2,-1,0⟩ L 0 0 none none 0 0 1):Ph ⟨[it1],2,0,1⟩ ((L.took 0 c c').app ik rS c'') 1 0 (some sl1) none 1 1 3:=by
 have hr:=i3 (L:=L) (s:=0) (c:=c) (c':=c')
 have hq:(L.took 0 c c').seq=0:=hr.seq.trans h.q
 have ht:(L.ren 0 c c').top=1:=by rw [hr.top,h.t];rfl
 have hg:(L.ren 0 c c').gens=[1,0]:=by rw [hr.gens,h.g,h.t];rfl
 have i1:=((h.inv.took (s:=0) (c:=c) (c':=c') (by rw [h.g];decide) (by rw [h.inv.free];decide)).app (c:=c'') (key:=ik) (data:=rS) (by decide) (by show (0:Int)<16;decide) (by decide) (by decide))
 rw [hq] at i1
 refine ⟨i1,?_,hg,ht,?_,?_,?_⟩
 ·show (i7 (L.ren 0 c c').cells _ _).length=_
  rw [cF,hr.len,h.n]
 ·show (L.took 0 c c').seq+1=1
  rw [hq];rfl
 ·have h1:=(h.s0.rnw (c:=c) (c':=c') (fun _=>rfl) (by rw [h.t];decide))
  have h2:=cH.put (L:=L.took 0 c c') (c:=c'') (key:=ik) (data:=rS) h1 rfl rfl
  have h3:(L.took 0 c c').slot ik rS=sl1:=by
   unfold Lg.slot
   rw [hq,show (L.took 0 c c').gens=(L.ren 0 c c').gens from rfl,hg];rfl
  rw [h3,h.t] at h2
  exact h2
 ·have h1:=h.s1.rnwO (s:=0) (c:=c) (c':=c') (by decide)
  exact cH.putO (L:=L.took 0 c c') (c:=c'') (key:=ik) (data:=rS) h1 rfl rfl (by decide)
theorem Ud:sl1.Fine:=⟨by decide,by decide,by decide,by decide⟩
theorem Yh:sl2.Fine:=⟨by decide,by decide,by decide,by decide⟩
theorem adT {L:Lg} (h:L.cells.length=300):L.fresh.blank.gens=[0,0]:=by
 show yab (L.cells.length/129) (0:Int)=_
 rw [h];rfl
theorem scB {L:Lg} (h:Ph ⟨[it1],2,0,1⟩ L 1 0 (some sl1) none 1 1 3):L.fresh.blank.scan 2={ L with seg:=-1,next:=0,steps:=0,c:=0 }:=by
 have hg:=adT h.n
 have e1:L.fresh.blank.scan 1={ L.fresh.blank with gens:=L.fresh.blank.gens.set 0 1,top:=1,seq:=1,found:=[⟨0,0,1,ik⟩] }:=by
  show (L.fresh.blank.hd 0).slos 0 16=_
  rw [cH.full (L:=L.fresh.blank) (k:=0) (g:=1) (s:=sl1) h.s0 (by decide) Ud (by rw [hg];decide)]
  rfl
 show ((L.fresh.blank.scan 1).hd 1).slos 1 16=_
 have hc:(L.fresh.blank.scan 1).cells=L.cells:=by rw [e1];rfl
 rw [cH.zero (L:=L.fresh.blank.scan 1) (k:=1) (by rw [hc];exact h.s1),e1,hg]
 have h1:=h.g
 have h2:=h.t
 have h3:=h.q
 have h4:=h.inv.fnd
 cases L
 simp only at h1 h2 h3 h4
 subst h1 h2 h3 h4
 rfl
theorem phC {L:Lg} (h:Ph ⟨[it1],2,0,1⟩ L 1 0 (some sl1) none 1 1 3):Ph ⟨[it1],2,-1,1⟩ { L with seg:=-1,next:=0,steps:=0,c:=0 } 1 0 (some sl1) none 1 1 3 :=
 ⟨h.inv.re (by omega),h.n,h.g,h.t,h.q,h.s0,h.s1⟩
theorem phD {L:Lg} {c c' c'':Nat} (h:Ph ⟨[it1],2,-1,1⟩ L 1 0 (some sl1) none 1 1 3):Ph ⟨[it1,it2],2,1,1⟩ ((L.took 1 c c').app il [] c'') 1 2 (some sl1) (some sl2) 2 2 5:=by
 have hr:=i3 (L:=L) (s:=1) (c:=c) (c':=c')
 have hq:(L.took 1 c c').seq=1:=hr.seq.trans h.q
 have ht:(L.ren 1 c c').top=2:=by rw [hr.top,h.t];rfl
 have hg:(L.ren 1 c c').gens=[1,2]:=by rw [hr.gens,h.g,h.t];rfl
 have i1:=((h.inv.took (s:=1) (c:=c) (c':=c') (by rw [h.g];decide) (by rw [h.inv.free];decide)).app (c:=c'') (key:=il) (data:=[]) (by decide) (by show (0:Int)<16;decide) (by decide) (by decide))
 rw [hq] at i1
 refine ⟨i1,?_,hg,ht,?_,?_,?_⟩
 ·show (i7 (L.ren 1 c c').cells _ _).length=_
  rw [cF,hr.len,h.n]
 ·show (L.took 1 c c').seq+1=2
  rw [hq];rfl
 ·have h1:=h.s0.rnwO (s:=1) (c:=c) (c':=c') (by decide)
  exact cH.putO (L:=L.took 1 c c') (c:=c'') (key:=il) (data:=[]) h1 rfl rfl (by decide)
 ·have h1:=(h.s1.rnw (c:=c) (c':=c') (fun _=>rfl) (by rw [h.t];decide))
  have h2:=cH.put (L:=L.took 1 c c') (c:=c'') (key:=il) (data:=[]) h1 rfl rfl
  have h3:(L.took 1 c c').slot il []=sl2:=by
   unfold Lg.slot
   rw [hq,show (L.took 1 c c').gens=(L.ren 1 c c').gens from rfl,hg];rfl
  rw [h3,h.t] at h2
  exact h2
theorem scE {L:Lg} {c c':Nat} (h:Ph ⟨[it1,it2],2,1,1⟩ L 1 2 (some sl1) (some sl2) 2 2 5):((L.drop 0 c c').fresh.blank.scan 2).found=[⟨1,0,2,il⟩]:=by
 have hr:=i3 (L:=L) (s:=0) (c:=c) (c':=c')
 have hn:(L.drop 0 c c').cells.length=300:=hr.len.trans h.n
 have s0:cH (L.drop 0 c c').cells 0 3 (some sl1):=by
  have:=h.s0.rnw (c:=c) (c':=c') (fun hx=>by rw [h.g] at hx;exact absurd hx (by decide)) (by rw [h.t];decide)
  rw [h.t] at this
  exact this
 have s1:cH (L.drop 0 c c').cells 1 2 (some sl2):=h.s1.rnwO (s:=0) (c:=c) (c':=c') (by decide)
 generalize (L.drop 0 c c')=L' at hn s0 s1
 have hg:=adT hn
 have e1:L'.fresh.blank.scan 1={ L'.fresh.blank with gens:=L'.fresh.blank.gens.set 0 3,top:=3,seq:=1,found:=[] }:=by
  show (L'.fresh.blank.hd 0).slos 0 16=_
  rw [cH.full (L:=L'.fresh.blank) (k:=0) (g:=3) (s:=sl1) s0 (by decide) Ud (by rw [hg];decide)]
  rfl
 show (((L'.fresh.blank.scan 1).hd 1).slos 1 16).found=_
 have hc:(L'.fresh.blank.scan 1).cells=L'.cells:=by rw [e1];rfl
 have hgl:(L'.fresh.blank.scan 1).gens.length=2:=by rw [e1];show (List.set _ _ _).length=2;rw [yaU,hg];rfl
 rw [cH.full (L:=L'.fresh.blank.scan 1) (k:=1) (g:=2) (s:=sl2) (by rw [hc];exact s1) (by decide) Yh (by omega)]
 rw [e1]
 rfl
set_option maxRecDepth 20000
def Clo (A:List Blk):Prop:=∀ M:List Nat,(∀ j∈M,A.length≤j)→A.map (aD M)=A
theorem Clo.app {A B:List Blk} (hA:Clo A) (hB:∀ M:List Nat,(∀ j∈M,A.length+B.length≤j)→B.map (aD M)=B):Clo (A++B):=by
 intro M hM
 rw [yag] at hM
 rw [yal,hA M fun j hj=>by have:=hM j hj;omega,hB M hM]
theorem oN {M:List Nat} {l:List Int}:aD M (.arr 1 (l.map encI))=.arr 1 (l.map encI):=by
 simp only [aD,List.map_map]
theorem oM {M:List Nat} {l:List Ck}:aD M (.arr 4 (l.map Ck.enc))=.arr 4 (l.map Ck.enc):=by
 simp only [aD,List.map_map]
theorem Sx {L:Lg} {p:Nat} {M:List Nat} (hM:∀ j∈M,p+L.n+3≤j):(L.S.bs p).map (aD M)=L.S.bs p:=by
 have h1:(p+1∈M)=False:=eq_false fun h=>by have:=hM _ h;omega
 have h2:(p+2∈M)=False:=eq_false fun h=>by have:=hM _ h;omega
 show aD M (dkV p L.D)::aD M (dkC L.D)::aD M (.map [] L.c)::(dkT L.D).map (aD M)=_
 rw [xH]
 simp only [dkV,dkC,aD,bK,kill,h1,h2,if_false]
 rfl
theorem Rs {L:Lg} {p:Nat} {M:List Nat} (hM:∀ j∈M,p+L.n+6≤j):(opB L p).map (aD M)=opB L p:=by
 have h1:(p∈M)=False:=eq_false fun h=>by have:=hM _ h;omega
 have h2:(p+L.cells.length+3∈M)=False:=eq_false fun h=>by have:=hM _ h;have:L.n=L.cells.length:=rfl;omega
 have h3:(p+L.cells.length+5∈M)=False:=eq_false fun h=>by have:=hM _ h;have:L.n=L.cells.length:=rfl;omega
 rw [iH,yal,Sx fun j hj=>by have:=hM j hj;omega]
 unfold o3
 simp only [yah,yan,oN,oM]
 simp only [aD,bK,kill,h1,h2,h3,if_false]
def oA (A:List Blk) (L:Lg):List Blk:=A++opB L A.length
theorem gD {A:List Blk} {L:Lg}:(oA A L).length=A.length+(L.n+6):=by unfold oA;rw [yag,Be]
theorem Fz {A B:List Blk} {L:Lg}:oA A L++B=A++(opB L A.length++B):=by unfold oA;rw [yaq]
theorem Clo.oA {A:List Blk} (L:Lg) (h:Clo A):Clo (oA A L):=h.app fun M hM=>Rs fun j hj=>by
 have:=hM j hj
 rw [Be] at this
 omega
section
variable {cx:Cx} {f:FuncId} {e:Env} {b:Nat} {K:V→St→Prop}
theorem uK (A B:List Blk) (L:Lg) (args xs:List V) (Q:V→Lg→Prop) (hC:cx.C f (.ptr 0 0 0::xs) (L.bs 0) (yaa 5 (L.n+1)) (QF Lg.bs (5+(L.n+1)) Q))
  (ha:∀ (H:List Blk) (g:Nat→Option Nat),aN H g args∧wkL xs (aX H g args))
  (hbn:∀ k∈cx.bn,A.length+(L.n+6)≤k) (hfx:cx.fx=[]) (hA:Clo A)
  (hB:∀ M:List Nat,(∀ j∈M,j<A.length+(L.n+6))→B.map (aD M)=B)
  (h3:∀ (r:V) (L':Lg),L'.n=L.n→Q r L'→(∀ f,ren f r=r)∧K r ⟨aB (yaa (A.length+3) L.n++[A.length+L.n+5]) e,oA A L'++B,b⟩):cB cx f (.ptr (A.length+L.n+4) 0 0::args) ⟨e,oA A L++B,b⟩ K:=by
 rw [Fz]
 refine Th A B L args xs Q hC (ha _ _) (fun k hk=>.inr (hbn k hk)) (by rw [hfx];intro k hk;cases hk) (hA _ ?_) (hB _ ?_) fun r L' hn hq=>?_
 ·intro j hj
  simp only [yaw,yad,yat] at hj
  omega
 ·intro j hj
  simp only [yaw,yad,yat] at hj
  omega
 ·obtain ⟨q1,q2⟩:=h3 r L' hn hq
  refine ⟨q1,by rw [hfx];trivial,?_⟩
  rw [Fz] at q2
  exact q2
theorem Gu (A B:List Blk) (L:Lg) (h:1≤L.n∧L.n≤65536) (hcx:cx.C=C0 Tryd.prog) (hbn:∀ k∈cx.bn,A.length+(L.n+3)≤k) (hfx:cx.fx=[]) (hA:Clo A)
  (hB:∀ M:List Nat,(∀ j∈M,A.length+3≤j∧j<A.length+(L.n+3))→B.map (aD M)=B)
  (h3:K (.ptr ((A++(L.S.bs A.length++B)).length+2) 0 0) ⟨aB (yaa (A.length+3) L.n) e,(A++(L.S.bs A.length++B))++(.dead::.dead::L.fresh.S.bs ((A++(L.S.bs A.length++B)).length+2)),b⟩):cB cx 16 [.ptr A.length 0 0,.nil] ⟨e,A++(L.S.bs A.length++B),b⟩ K:=by
 have hSl:(L.S.bs A.length).length=3+L.n:=L.S.len
 refine ⟨yaa A.length (3+L.n),[.ptr 0 0 0,.nil],yaa 3 L.n,IsA (.ptr (L.n+5) 0 0) (L.S.bs 0++(.dead::.dead::L.fresh.S.bs (L.n+5))),⟨⟨yaP,fun k hk=>?_⟩,fun j hj k hk hkf=>?_⟩,⟨trivial,trivial,trivial⟩,⟨?_,rfl,trivial⟩,?_,?_⟩
 ·rw [yad] at hk
  refine ⟨by simp only [yag,hSl];omega,fun hb=>?_⟩
  have:=hbn k hb
  omega
 ·rw [hfx] at hkf;cases hkf
 ·simp only [cG,c9]
  rw [if_pos (by omega),yax]
  exact rfl
 ·have e1:(yaa A.length (3+L.n)).map (fun k=>bB (pos (yaa A.length (3+L.n))) (blk (A++(L.S.bs A.length++B)) k))=L.S.bs 0:=by
   have h1:(L.S.bs A.length).map (bB (pos (yaa A.length (3+L.n))))=L.S.bs 0:=eQ L.S.ok fun j hj=>by
    have hj2:j<3+L.n:=hj
    rw [c9,if_pos (by omega)];simp
   rw [←h1]
   apply yaR
   ·simp only [yak,yar,hSl]
   ·intro j h2 h3
    simp only [yau,yaS,blk]
    congr 1
    have hj:j<(L.S.bs A.length).length:=by rw [yak] at h3;exact h3
    rw [yae,yaj (by omega),show A.length+1*j-A.length=j by omega,yaH hj,yaI hj];rfl
  rw [e1,hcx];exact abT L h
 ·rintro r h' ⟨rfl,rfl⟩ _
  have hM:(yaa 3 L.n).filterMap ((yaa A.length (3+L.n))[·]?)=yaa (A.length+3) L.n:=vO
  have hNN:(A++(L.S.bs A.length++B)).length=A.length+(3+L.n+B.length):=by simp only [yag,hSl]
  have hback:∀ j,back (yaa A.length (3+L.n)) (A++(L.S.bs A.length++B)).length j=if j<3+L.n then some (A.length+j) else some ((A++(L.S.bs A.length++B)).length+(j-(3+L.n))):=fun j=>mA
  generalize hN:(A++(L.S.bs A.length++B)).length=NN at *
  have e1:(L.S.bs 0).map (bB (back (yaa A.length (3+L.n)) NN))=L.S.bs A.length:=eQ L.S.ok fun j hj=>by
   have hj2:j<3+L.n:=hj
   rw [hback,if_pos (by omega),yaE]
  have e2:(L.fresh.S.bs (L.n+5)).map (bB (back (yaa A.length (3+L.n)) NN))=L.fresh.S.bs (NN+2):=eQ L.fresh.S.ok fun j hj=>by
   rw [hback,if_neg (by omega)]
   congr 1;omega
  rw [hM,yal,yah,yah,e1,e2]
  have e3:ren (back (yaa A.length (3+L.n)) NN) (.ptr (L.n+5) 0 0)=.ptr (NN+2) 0 0:=by
   simp only [ren,hback]
   rw [if_neg (by omega)]
   simp only
   rw [show NN+(L.n+5-(3+L.n))=NN+2 by omega]
  rw [e3,hfx]
  refine ⟨trivial,?_⟩
  have e4:(A++(L.S.bs A.length++B)).map (aD (yaa (A.length+3) L.n))=A++((L.S.bs A.length).map (aD (yaa (A.length+3) L.n))++B):=by
   rw [yal,yal,hA _ fun j hj=>by have:=yad.1 hj;omega,hB _ fun j hj=>by have:=yad.1 hj;omega]
  rw [e4]
  have e5:∀ X,aS (yaa A.length (3+L.n)) (L.S.bs A.length++X) (A++((L.S.bs A.length).map (aD (yaa (A.length+3) L.n))++B))=(A++(L.S.bs A.length++B))++X:=by
   intro X
   have e0:aS (yaa A.length (3+L.n)++[]) (L.S.bs A.length++X) (A++((L.S.bs A.length).map (aD (yaa (A.length+3) L.n))++B))=aS [] X (aS (yaa A.length (3+L.n)) (L.S.bs A.length) (A++((L.S.bs A.length).map (aD (yaa (A.length+3) L.n))++B))):=lO (by rw [yar,hSl])
   rw [yac] at e0
   rw [e0]
   have:=eZ (X:=(L.S.bs A.length).map (aD (yaa (A.length+3) L.n))) (Y:=L.S.bs A.length) (B:=B) (A:=A) (by rw [yak])
   rw [yak,hSl] at this
   rw [this];rfl
  rw [e5]
  exact h3
end
set_option maxRecDepth 20000
theorem c5_parts:c5=.seq (pt 0 c5) (.seq (pt 1 c5) (.seq (pt 2 c5) (.seq (pt 3 c5) (.seq (pt 4 c5) (.seq (pt 5 c5) (.seq (pt 6 c5) (.seq (pt 7 c5) (.seq (pt 8 c5) (.seq (pt 9 c5) (.seq (pt 10 c5) (.seq (pt 11 c5) (.seq (pt 12 c5) (.seq (pt 13 c5) (.seq (pt 14 c5) (rt 15 c5))))))))))))))):=by rfl
theorem gN {A:List Blk} {n j:Nat} (h:j<A.length+3∨j=A.length+n+3∨j=A.length+n+4∨A.length+n+6≤j):(j∈yaa (A.length+3) n++[A.length+n+5])=False:=eq_false fun hm=>by
 simp only [yaw,yad,yat] at hm
 omega
theorem Nv {A:List Blk} {n j:Nat} (h:j<A.length+3∨A.length+n+3≤j):(j∈yaa (A.length+3) n)=False:=eq_false fun hm=>by
 rw [yad] at hm
 omega
section
variable {N R:St→Prop} {Xx:Nat→St→Prop} {bb:Nat} {e:Env}
theorem afO (hN:∀ e b',get e 1=.ptr 2 0 0→N ⟨e,[.dead,.dead]++(Lf 300).S.bs 2,b'⟩):aw (cxN Tryd.prog []) (pt 1 c5) N Xx R ⟨e,[],0⟩:=by
 conv=>arg 2;whnf
 simp -implicitDefEqProofs only [rX,aA,cxN]
 refine xK [] 300 (by omega) rfl trivial ?_
 simp -implicitDefEqProofs only [rX,↓reduceIte]
 exact hN _ _ rfl
theorem afN {H:List Blk} {k:Nat} (g1:get e 1=.ptr k 0 0) (hN:∀ e b',get e 1=.ptr k 0 0→N ⟨e,H,b'⟩):aw (cxN Tryd.prog []) (pt 2 c5) N Xx R ⟨e,H,bb⟩:=by
 conv=>arg 2;whnf
 simp -implicitDefEqProofs only [rX,↓rY,kh,aA,↓reduceIte,↓qbA,cxN,g1]
 exact hN _ _ g1
theorem kE (M:List Nat) {e:Env} {t k:Nat} (h:(k∈M)=False) (g:get e t=.ptr k 0 0):get (aB M e) t=.ptr k 0 0:=by
 rw [aE,g]
 simp only [kill,h,if_false]
theorem afM {A:List Blk} {L:Lg} (hn:L.cells.length=300) (hb:∀ c∈L.cells,c.bad=false) (hA:Clo A) (g1:get e 1=.ptr A.length 0 0)
  (hN:∀ fd e b',tS (L.blank.scan 2).found fd→get e 1=.ptr A.length 0 0→get e 2=.ptr (A.length+300+4) 0 0→get e 3=.i 0→N ⟨e,oA A (L.opn fd),b'⟩) :
  aw (cxN Tryd.prog []) (pt 3 c5) N Xx R ⟨e,A++L.S.bs A.length,bb⟩:=by
 conv=>arg 2;whnf
 have hn2:L.n=300:=hn
 simp -implicitDefEqProofs only [rX,↓reduceIte,cxN,g1]
 refine nR A L (by omega) hb rfl rfl (by intro k hk;cases hk) (hA _ fun j hj=>by rw [yad] at hj;omega) (fun h=>by omega) fun _ fd hfd=>⟨trivial,?_⟩
 rw [hn] at hfd
 rw [hn2]
 have m0:=Nv (A:=A) (n:=300) (j:=A.length) (by omega)
 simp -implicitDefEqProofs only [rX,↓rY,↓reduceIte,Nat.reduceEqDiff,aB,kill,St.kill,m0]
 exact hN fd _ _ hfd (kE _ m0 g1) rfl rfl
section
variable {cx:Cx} {f:FuncId} {b:Nat} {K:V→St→Prop}
theorem nS (A:List Blk) (L:Lg) (args xs:List V) (Q:V→Lg→Prop) (hC:cx.C f (.ptr 0 0 0::xs) (L.bs 0) (yaa 5 (L.n+1)) (QF Lg.bs (5+(L.n+1)) Q)) (hn:L.n=300)
  (ha:∀ (H:List Blk) (g:Nat→Option Nat),aN H g args∧wkL xs (aX H g args))
  (hbn:∀ k∈cx.bn,A.length+306≤k) (hfx:cx.fx=[]) (hA:Clo A)
  (h3:∀ (r:V) (L':Lg),L'.n=L.n→Q r L'→(∀ f,ren f r=r)∧K r ⟨aB (yaa (A.length+3) 300++[A.length+300+5]) e,oA A L',b⟩):cB cx f (.ptr (A.length+300+4) 0 0::args) ⟨e,oA A L,b⟩ K:=by
 have:=uK (cx:=cx) (f:=f) (b:=b) (K:=K) (e:=e) A [] L args xs Q hC ha (fun k hk=>by have:=hbn k hk;omega) hfx hA (fun _ _=>rfl) fun r L' h1 h2=>by
  obtain ⟨q1,q2⟩:=h3 r L' h1 h2
  rw [yac,hn]
  exact ⟨q1,q2⟩
 rw [yac,hn] at this
 exact this
theorem lY (A B:List Blk) (L:Lg) (args xs:List V) (Q:V→Lg→Prop) (hC:cx.C f (.ptr 0 0 0::xs) (L.bs 0) (yaa 5 (L.n+1)) (QF Lg.bs (5+(L.n+1)) Q)) (hn:L.n=300)
  (ha:∀ (H:List Blk) (g:Nat→Option Nat),aN H g args∧wkL xs (aX H g args))
  (hbn:∀ k∈cx.bn,A.length+306≤k) (hfx:cx.fx=[]) (hA:Clo A) (d:Nat) (hb:b=(oA A L).length+d)
  (hB:∀ M:List Nat,(∀ j∈M,j<A.length+306)→B.map (aD M)=B)
  (h3:∀ (r:V) (L':Lg),L'.n=L.n→Q r L'→(∀ f,ren f r=r)∧K r ⟨aB (yaa (A.length+3) 300++[A.length+300+5]) e,oA A L'++B,(oA A L').length+d⟩):cB cx f (.ptr (A.length+300+4) 0 0::args) ⟨e,oA A L++B,b⟩ K:=by
 have:=uK (cx:=cx) (f:=f) (b:=b) (K:=K) (e:=e) A B L args xs Q hC ha (fun k hk=>by have:=hbn k hk;omega) hfx hA (fun M hM=>hB M fun j hj=>by have:=hM j hj;omega) fun r L' h1 h2=>by
  obtain ⟨q1,q2⟩:=h3 r L' h1 h2
  rw [hn]
  refine ⟨q1,?_⟩
  have hl:b=(oA A L').length+d:=by rw [hb,gD,gD,h1]
  rw [hl]
  exact q2
 rw [hn] at this
 exact this
end
theorem afL {A:List Blk} {L:Lg} (hA:Clo A) (h:Ph ⟨[],2,-1,0⟩ L 0 0 none none 0 0 1) (g1:get e 1=.ptr A.length 0 0) (g2:get e 2=.ptr (A.length+300+4) 0 0) (g3:get e 3=.i 0)
  (hN:∀ e b',get e 1=.ptr A.length 0 0→get e 2=.ptr (A.length+300+4) 0 0→N ⟨e,oA A L,b'⟩) :
  aw (cxN Tryd.prog []) (pt 4 c5) N Xx R ⟨e,oA A L,bb⟩:=by
 have hn:L.n=300:=h.n
 have hf0:L.found=[]:=h.inv.fnd
 have hgl:L.gens.length=2:=by rw [h.g];rfl
 have m1:=gN (A:=A) (n:=300) (j:=A.length) (by omega)
 have m2:=gN (A:=A) (n:=300) (j:=A.length+300+4) (by omega)
 have kk:∀ {e:Env} {t:Nat},get e t=.ptr A.length 0 0→get (aB (yaa (A.length+3) 300++[A.length+300+5]) e) t=.ptr A.length 0 0:=fun g=>kE _ m1 g
 have kk2:∀ {e:Env} {t:Nat},get e t=.ptr (A.length+300+4) 0 0→get (aB (yaa (A.length+3) 300++[A.length+300+5]) e) t=.ptr (A.length+300+4) 0 0:=fun g=>kE _ m2 g
 conv=>arg 2;whnf
 simp -implicitDefEqProofs only [rX,↓rY,kh,aA,↓reduceIte,Nat.reduceEqDiff,↓qbA,cxN,g2,g3]
 rw [show ((0:Int) != 0)=false from rfl,we]
 refine nS A L [] [] _ (Nl L) hn (fun _ _=>⟨trivial,trivial⟩) (fun k hk=>by cases hk) rfl hA ?_
 rintro r L'-⟨rfl,rfl⟩
 refine ⟨fun f=>rfl,?_⟩
 have a1:=kk g1
 have a2:=kk2 g2
 simp -implicitDefEqProofs only [rX,↓rY,aA,↓reduceIte,Nat.reduceEqDiff,aB,kill,St.kill,m2,a2,hgl]
 rw [show (((2:Nat):Int) != 2)=false from rfl,we]
 refine nS A L' [] [] _ (Wf L' (by rw [hf0];decide) (by omega)) hn (fun _ _=>⟨trivial,trivial⟩) (fun k hk=>by cases hk) rfl hA ?_
 rintro r L''-⟨rfl,rfl⟩
 refine ⟨fun f=>rfl,?_⟩
 have hfn:L''.freeN L''.gens.length=2:=by
  rw [hgl]
  unfold Lg.freeN
  rw [List.filter_congr (q:=fun i:Nat=>(⟨[],2,-1,0⟩:Md).fr (i:Int)) fun i _=>h.inv.free]
  decide
 have a3:=kk a1
 have a4:=kk2 a2
 simp -implicitDefEqProofs only [rX,↓rY,aA,↓reduceIte,Nat.reduceEqDiff,aB,kill,St.kill,m2,a4,hfn]
 rw [show (((2:Nat):Int) != 2)=false from rfl,we]
 refine nS A L'' [] [] _ (Fy L'' (by rw [hf0];decide)) hn (fun _ _=>⟨trivial,trivial⟩) (fun k hk=>by cases hk) rfl hA ?_
 rintro r L3-⟨rfl,rfl⟩
 refine ⟨fun f=>rfl,?_⟩
 have a5:=kk a3
 have a6:=kk2 a4
 simp -implicitDefEqProofs only [rX,↓rY,aA,↓reduceIte,Nat.reduceEqDiff,aB,kill,St.kill,m2,hf0]
 intro _
 rw [show (((0:Nat):Int) != 0)=false from rfl,we]
 exact hN _ _ (by exact a5) (by exact a6)
theorem w3 {T X:List Blk}:(T++X)[T.length]?=X[0]?:=by rw [yaj (yam _),yax]
theorem acL {T X:List Blk} {j:Nat}:(T++X)[T.length+j]?=X[j]?:=by rw [yaj (by omega),yaG]
theorem Ho {T X:List Blk} {B:Blk}:(T++X).set T.length B=T++X.set 0 B:=by rw [yaC _ _ (yam _),yax]
theorem Yj {T X:List Blk} {j:Nat} {B:Blk}:(T++X).set (T.length+j) B=T++X.set j B:=by rw [yaC _ _ (by omega),yaG]
theorem Xa {T X:List Blk}:(T++X)[T.length+1+1]?=X[2]?:=acL (j:=2)
theorem Ve {T X:List Blk} {B:Blk}:(T++X).set (T.length+1+1) B=T++X.set 2 B:=Yj (j:=2)
theorem Ph.lg {m:Md} {L:Lg} {g0 g1:Int} {x0 x1:Option bW} {t q:Int} {B:Nat} (h:Ph m L g0 g1 x0 x1 t q B):L.gens.length=2:=by rw [h.g];rfl
theorem afK {A:List Blk} {L:Lg} (hA:Clo A) (h:Ph ⟨[],2,-1,0⟩ L 0 0 none none 0 0 1) (g1:get e 1=.ptr A.length 0 0) (g2:get e 2=.ptr (A.length+300+4) 0 0)
  (hN:∀ e b' L',Ph ⟨[it1],2,0,1⟩ L' 1 0 (some sl1) none 1 1 3→get e 1=.ptr A.length 0 0→get e 2=.ptr (A.length+300+4) 0 0→get e 4=.ptr (oA A L').length 0 0→get e 5=.i 0→N ⟨e,oA A L'++[.var [.i 0,.i 0,.i 1]],b'⟩) :
  aw (cxN Tryd.prog []) (pt 5 c5) N Xx R ⟨e,oA A L,bb⟩:=by
 have hn:L.n=300:=h.n
 have m1:=gN (A:=A) (n:=300) (j:=A.length) (by omega)
 have m2:=gN (A:=A) (n:=300) (j:=A.length+300+4) (by omega)
 conv=>arg 2;whnf
 simp -implicitDefEqProofs only [rX,aA,↓reduceIte,cxN,g2]
 refine lY A [.dead] L [sv ik,sv rS] [sv ik,sv rS] _ (Jp h.inv (by decide) rfl (s:=0) (by rw [h.lg];decide) (by decide) (fun i hi=>absurd hi (Nat.not_lt_zero _)) (by decide) (by decide)) hn (fun _ _=>⟨⟨trivial,trivial,trivial⟩,⟨rfl,rfl,trivial⟩⟩) (fun k hk=>by cases hk) rfl hA 0 rfl (fun _ _=>rfl) ?_
 rintro r L' hn' ⟨rfl,c,c',c'',rfl⟩
 refine ⟨fun f=>rfl,?_⟩
 have a1:=kE _ m1 g1
 have a2:=kE _ m2 g2
 have hp:=phB (c:=c) (c':=c') (c'':=c'') h
 generalize (L.took 0 c c').app ik rS c''=L' at *
 simp -implicitDefEqProofs only [rX,↓rY,aA,cells?,splice,↓reduceIte,Nat.reduceEqDiff,Nat.reduceAdd,aG,aB,kill,St.kill,isC,m2,w3,Ho,h.q]
 exact hN _ _ L' hp (by exact a1) (by exact a2) rfl rfl
theorem Xu {m:Md} {L:Lg} {B:Nat} {key data:Bs} (h:Inv m L B) (hB:B≤1000) (hk:key.length≤100) (hd:360<data.length∧data.length≤1000) :
  OkL 15 [.ptr 0 0 0,sv key,sv data] L (fun r L'=>r=.tup [.agg [.i 0,.i 0,.i 0],.i 2]∧L'=L):=by
 have hsq:=h.sq
 have hsg:=h.sg
 have hse:=h.seg
 have hfl2:=h.fl
 refine fB (Nk L key data (h.Sm (by omega)) ⟨by omega,by omega⟩ (by rw [h.fnd,yak];omega) (by omega) (by omega) h.nx (fun x hx=>by have:=h.gp x hx;omega)) ?_
 rintro r hh ⟨L',⟨h1,h2⟩,rfl⟩
 refine ⟨L',⟨h1,?_⟩,rfl⟩
 rcases h2 with ⟨q1,rfl,rfl⟩|⟨q1,q2,q3,rfl,rfl⟩|⟨q1,L1,c,q2,rfl,rfl⟩
 ·exact ⟨rfl,rfl⟩
 ·omega
 ·omega
def Hb (A:List Blk) (L:Lg):List Blk:=oA A L++[.var [.i 0,.i 0,.i 1],.arr 1 (yab 361 [.v (.int .u8 0)]),.var [.i 0,.i 0,.i 0]]
theorem abZ {A X Y:List Blk} {L:Lg}:oA A L++X++Y=oA A L++(X++Y):=yaq ..
theorem agX:Int.toNat 361=361:=rfl
theorem Ak:∀ {n:Nat},bytesOf (yab n [.v (.int .u8 0)])=some (yab n 0)
 | 0=>rfl
 | n+1=>by
  rw [yaK,yaK]
  unfold bytesOf
  rw [Ak (n:=n)]
  rfl
theorem afJ {A:List Blk} {L:Lg} (hA:Clo A) (h:Ph ⟨[it1],2,0,1⟩ L 1 0 (some sl1) none 1 1 3) (g1:get e 1=.ptr A.length 0 0) (g2:get e 2=.ptr (A.length+300+4) 0 0) (g4:get e 4=.ptr (oA A L).length 0 0) (g5:get e 5=.i 0)
  (hN:∀ e b',get e 1=.ptr A.length 0 0→get e 2=.ptr (A.length+300+4) 0 0→get e 4=.ptr (oA A L).length 0 0→get e 5=.i 0→get e 7=.i 2→N ⟨e,Hb A L,b'⟩) :
  aw (cxN Tryd.prog []) (pt 6 c5) N Xx R ⟨e,oA A L++[.var [.i 0,.i 0,.i 1]],bb⟩:=by
 have hn:L.n=300:=h.n
 have m1:=gN (A:=A) (n:=300) (j:=A.length) (by omega)
 have m2:=gN (A:=A) (n:=300) (j:=A.length+300+4) (by omega)
 conv=>arg 2;whnf
 simp -implicitDefEqProofs only [rX,↓rY,aA,↓reduceIte,Nat.reduceEqDiff,aG,cxN,g2,abZ,agX,acL,Yj]
 rw [show yay 361 (yab 361 [V.v (Value.int .u8 0)])=yab 361 [V.v (Value.int .u8 0)] from yaF (by rw [yai];exact yam _),Ak]
 refine ⟨⟨⟨by decide,by decide⟩,by decide,by decide⟩,.inr trivial,?_⟩
 simp -implicitDefEqProofs only [↓rY]
 have hl2:=@yai UInt8 361 0
 generalize hz:yab 361 (0:UInt8)=z at hl2 ⊢
 have hro:∀ (M:List Nat),bK M [V.v (Value.int .u8 0)]=[V.v (Value.int .u8 0)]:=fun _=>rfl
 refine lY A _ L [sv ik,sv z] [sv ik,sv z] _ (Xu h.inv (by decide) (by decide) (by omega)) hn (fun _ _=>⟨⟨trivial,trivial,trivial⟩,⟨rfl,rfl,trivial⟩⟩) (fun k hk=>by cases hk) rfl hA 1 rfl (fun M _=>by simp only [yah,yan,aD,yav];rfl) ?_
 rintro r L'-⟨rfl,rfl⟩
 refine ⟨fun f=>rfl,?_⟩
 have a1:=kE _ m1 g1
 have a2:=kE _ m2 g2
 have m4:=gN (A:=A) (n:=300) (j:=(oA A L').length) (by rw [gD,hn];omega)
 have m5:=gN (A:=A) (n:=300) (j:=(oA A L').length+1) (by rw [gD,hn];omega)
 have a4:=kE _ m4 g4
 have a5:get (aB (yaa (A.length+3) 300++[A.length+300+5]) e) 5=.i 0:=by rw [aE,g5];rfl
 simp -implicitDefEqProofs only [rX,↓rY,aA,cells?,splice,↓reduceIte,Nat.reduceEqDiff,Nat.reduceAdd,aG,aB,kill,St.kill,isC,m2,m5,Xa,Ve]
 exact hN _ _ (by exact a1) (by exact a2) (by exact a4) (by exact a5) rfl
theorem afI {A:List Blk} {L:Lg} (hA:Clo A) (h:Ph ⟨[it1],2,0,1⟩ L 1 0 (some sl1) none 1 1 3) (g1:get e 1=.ptr A.length 0 0) (g2:get e 2=.ptr (A.length+300+4) 0 0) (g4:get e 4=.ptr (oA A L).length 0 0) (g5:get e 5=.i 0) (g7:get e 7=.i 2)
  (hN:∀ e b',get e 1=.ptr A.length 0 0→get e 2=.ptr (A.length+300+4) 0 0→get e 4=.ptr (oA A L).length 0 0→get e 5=.i 0→get e 7=.i 2→get e 8=sv ik→get e 9=sv rS→get e 10=.i 0→N ⟨e,Hb A L,b'⟩) :
  aw (cxN Tryd.prog []) (pt 7 c5) N Xx R ⟨e,Hb A L,bb⟩:=by
 have hn:L.n=300:=h.n
 have m1:=gN (A:=A) (n:=300) (j:=A.length) (by omega)
 have m2:=gN (A:=A) (n:=300) (j:=A.length+300+4) (by omega)
 have m4:=gN (A:=A) (n:=300) (j:=(oA A L).length) (by rw [gD,hn];omega)
 conv=>arg 2;whnf
 unfold Hb
 simp -implicitDefEqProofs only [rX,↓rY,↓reduceIte,Nat.reduceEqDiff,Nat.reduceAdd,cxN,g2,g4,w3]
 obtain ⟨⟨hany,hr,hsl⟩,hro⟩:=Hd.rd h.inv (by decide) (x:=it1) (yat.2 rfl)
 refine lY A _ L [.agg [.i 0,.i 0,.i 1]] [.agg [.i 0,.i 0,.i 1]] _ (abV L 0 0 1 (by rw [h.inv.fnd];decide) fun _=>⟨hr,hsl⟩) hn (fun _ _=>⟨⟨⟨trivial,trivial,trivial,trivial⟩,trivial⟩,⟨rfl,rfl,rfl,trivial⟩,trivial⟩) (fun k hk=>by cases hk) rfl hA 3 rfl (fun M _=>by simp only [yah,yan,aD,yav];rfl) ?_
 rintro r L'-⟨rfl,rfl⟩
 rw [show L'.rdO 0 0 1=(it1.c.key,it1.data,0) from hro]
 refine ⟨fun f=>rfl,?_⟩
 have a1:=kE _ m1 g1
 have a2:=kE _ m2 g2
 have a4:=kE _ m4 g4
 have a5:get (aB (yaa (A.length+3) 300++[A.length+300+5]) e) 5=.i 0:=by rw [aE,g5];rfl
 have a7:get (aB (yaa (A.length+3) 300++[A.length+300+5]) e) 7=.i 2:=by rw [aE,g7];rfl
 unfold rdV
 simp -implicitDefEqProofs only [rX,↓rY,↓reduceIte,Nat.reduceEqDiff,aB,kill,bK,St.kill,m2]
 exact hN _ _ (by exact a1) (by exact a2) (by exact a4) (by exact a5) (by exact a7) rfl rfl rfl
theorem nk:(!ik==(⟨#[107]⟩:ByteArray).toList)=false:=by decide +kernel
theorem agW:(!rS==(⟨#[97,98,99]⟩:ByteArray).toList)=false:=by decide +kernel
theorem c00:((0:Int) != 0)=false:=rfl
theorem cc2:((2:Int) != 2)=false:=rfl
theorem afH {A:List Blk} {L:Lg} (hA:Clo A) (h:Ph ⟨[it1],2,0,1⟩ L 1 0 (some sl1) none 1 1 3) (g1:get e 1=.ptr A.length 0 0) (g2:get e 2=.ptr (A.length+300+4) 0 0) (g4:get e 4=.ptr (oA A L).length 0 0) (g5:get e 5=.i 0) (g7:get e 7=.i 2) (g8:get e 8=sv ik) (g9:get e 9=sv rS) (g10:get e 10=.i 0)
  (hN:∀ e b',get e 1=.ptr A.length 0 0→N ⟨e,Hb A L,b'⟩) :
  aw (cxN Tryd.prog []) (pt 8 c5) N Xx R ⟨e,Hb A L,bb⟩:=by
 have hn:L.n=300:=h.n
 have m1:=gN (A:=A) (n:=300) (j:=A.length) (by omega)
 have m2:=gN (A:=A) (n:=300) (j:=A.length+300+4) (by omega)
 have m4:=gN (A:=A) (n:=300) (j:=(oA A L).length) (by rw [gD,hn];omega)
 conv=>arg 2;whnf
 unfold Hb
 simp -implicitDefEqProofs only [rX,↓rY,aA,↓reduceIte,Nat.reduceEqDiff,Nat.reduceAdd,cxN,pA,g2,g4,g5,g7,g8,g9,g10,w3,c00,cc2,nk,agW]
 have hf1:L.found.length≤100000:=by rw [h.inv.fnd];decide
 refine lY A _ L [] [] _ (Wf L hf1 (by rw [h.lg];decide)) hn (fun _ _=>⟨trivial,trivial⟩) (fun k hk=>by cases hk) rfl hA 3 rfl (fun M _=>by simp only [yah,yan,aD,yav];rfl) ?_
 rintro r L'-⟨rfl,rfl⟩
 refine ⟨fun f=>rfl,?_⟩
 have hfn:L'.freeN L'.gens.length=1:=by
  rw [h.lg]
  unfold Lg.freeN
  rw [List.filter_congr (q:=fun i:Nat=>(⟨[it1],2,0,1⟩:Md).fr (i:Int)) fun i _=>h.inv.free]
  decide
 have a1:=kE _ m1 g1
 have a2:=kE _ m2 g2
 simp -implicitDefEqProofs only [rX,↓rY,aA,↓reduceIte,Nat.reduceEqDiff,Nat.reduceAdd,aB,kill,St.kill,m2,m4,a2,hfn]
 rw [show (((1:Nat):Int) != 1)=false from rfl,we]
 refine lY A _ L' [] [] _ (Fy L' hf1) hn (fun _ _=>⟨trivial,trivial⟩) (fun k hk=>by cases hk) rfl hA 3 rfl (fun M _=>by simp only [yah,yan,aD,yav];rfl) ?_
 rintro r L3-⟨rfl,rfl⟩
 refine ⟨fun f=>rfl,?_⟩
 have a5:=kE _ m1 a1
 have hl1:(yaf Ck.enc L3.found).length=1:=by rw [h.inv.fnd];rfl
 simp -implicitDefEqProofs only [rX,↓rY,aA,↓reduceIte,Nat.reduceEqDiff,Nat.reduceAdd,aB,kill,St.kill,m2,m4,hl1]
 intro _
 rw [show (((1:Nat):Int) != 1)=false from rfl,we]
 exact hN _ _ (by exact a5)
def Ac (A:List Blk) (L:Lg) (X:List Blk):List Blk:=oA A L++(X++[.dead,.dead])
theorem Clo.ac {A X:List Blk} (L:Lg) (hA:Clo A) (hX:∀ M:List Nat,X.map (aD M)=X):Clo (Ac A L X):=by
 refine (hA.oA L).app fun M hM=>?_
 rw [yal,hX M];rfl
theorem Ep {cx:Cx} {b:Nat} {K:V→St→Prop} {A X:List Blk} {L:Lg} (hn:L.n=300) (hcx:cx.C=C0 Tryd.prog) (hbn:∀ k∈cx.bn,A.length+303≤k) (hfx:cx.fx=[]) (hA:Clo A)
  (hX:∀ M:List Nat,X.map (aD M)=X)
  (h3:K (.ptr (Ac A L X).length 0 0) ⟨aB (yaa (A.length+3) 300) e,Ac A L X++L.fresh.S.bs (Ac A L X).length,b⟩):cB cx 16 [.ptr A.length 0 0,.nil] ⟨e,oA A L++X,b⟩ K:=by
 have e1:oA A L++X=A++(L.S.bs A.length++(o3 L A.length++X)):=by rw [Fz,iH,yaq]
 rw [e1]
 refine Gu A (o3 L A.length++X) L (by omega) hcx (fun k hk=>by have:=hbn k hk;omega) hfx hA (fun M hM=>?_) ?_
 ·have h1:(A.length∈M)=False:=eq_false fun h=>by have:=hM _ h;omega
  have h2:(A.length+L.cells.length+3∈M)=False:=eq_false fun h=>by have:=hM _ h;have:L.n=L.cells.length:=rfl;omega
  have h3:(A.length+L.cells.length+5∈M)=False:=eq_false fun h=>by have:=hM _ h;have:L.n=L.cells.length:=rfl;omega
  rw [yal,hX]
  congr 1
  unfold o3
  simp only [yah,yan,oN,oM]
  simp only [aD,bK,kill,h1,h2,h3,if_false]
 ·rw [←e1,hn]
  have e2:(oA A L++X).length+2=(Ac A L X).length:=by unfold Ac;simp only [yag,yaA,yaD];omega
  rw [e2]
  have e3:oA A L++X++(.dead::.dead::L.fresh.S.bs (Ac A L X).length)=Ac A L X++L.fresh.S.bs (Ac A L X).length:=by
   unfold Ac
   simp only [yaq,yaz,yaB]
  rw [e3]
  exact h3
theorem afG {A X:List Blk} {L:Lg} (hn:L.n=300) (hA:Clo A) (hX:∀ M:List Nat,X.map (aD M)=X) (g1:get e 1=.ptr A.length 0 0)
  (hN:∀ e b',get e 1=.ptr (Ac A L X).length 0 0→N ⟨e,Ac A L X++L.fresh.S.bs (Ac A L X).length,b'⟩) :
  aw (cxN Tryd.prog []) (pt 9 c5) N Xx R ⟨e,oA A L++X,bb⟩:=by
 conv=>arg 2;whnf
 simp -implicitDefEqProofs only [rX,aA,↓reduceIte,cxN,g1]
 refine Ep hn rfl (fun k hk=>by cases hk) rfl hA hX ?_
 simp -implicitDefEqProofs only [rX,↓reduceIte,aB,kill,St.kill]
 exact hN _ _ rfl
theorem Yq {A:List Blk} {L:Lg} (hn:L.cells.length=300) (hb:∀ c∈L.cells,c.bad=false) (hA:Clo A) (g1:get e 1=.ptr A.length 0 0)
  (hN:∀ fd e b',tS (L.blank.scan 2).found fd→get e 1=.ptr A.length 0 0→get e 2=.ptr (A.length+300+4) 0 0→get e 3=.i 0→N ⟨e,oA A (L.opn fd),b'⟩) :
  aw (cxN Tryd.prog []) (pt 10 c5) N Xx R ⟨e,A++L.S.bs A.length,bb⟩:=by
 conv=>arg 2;whnf
 have hn2:L.n=300:=hn
 simp -implicitDefEqProofs only [rX,↓reduceIte,cxN,g1]
 refine nR A L (by omega) hb rfl rfl (by intro k hk;cases hk) (hA _ fun j hj=>by rw [yad] at hj;omega) (fun h=>by omega) fun _ fd hfd=>⟨trivial,?_⟩
 rw [hn] at hfd
 rw [hn2]
 have m0:=Nv (A:=A) (n:=300) (j:=A.length) (by omega)
 simp -implicitDefEqProofs only [rX,↓rY,↓reduceIte,Nat.reduceEqDiff,aB,kill,St.kill,m0]
 exact hN fd _ _ hfd (kE _ m0 g1) rfl rfl
theorem Yp {A:List Blk} {L:Lg} (hA:Clo A) (h:Ph ⟨[it1],2,-1,1⟩ L 1 0 (some sl1) none 1 1 3) (g1:get e 1=.ptr A.length 0 0) (g2:get e 2=.ptr (A.length+300+4) 0 0) (g3:get e 3=.i 0)
  (hN:∀ e b',get e 1=.ptr A.length 0 0→get e 2=.ptr (A.length+300+4) 0 0→N ⟨e,oA A L,b'⟩) :
  aw (cxN Tryd.prog []) (pt 11 c5) N Xx R ⟨e,oA A L,bb⟩:=by
 have hn:L.n=300:=h.n
 have m1:=gN (A:=A) (n:=300) (j:=A.length) (by omega)
 have m2:=gN (A:=A) (n:=300) (j:=A.length+300+4) (by omega)
 have hf1:L.found.length≤100000:=by rw [h.inv.fnd];decide
 conv=>arg 2;whnf
 simp -implicitDefEqProofs only [rX,↓rY,aA,↓reduceIte,Nat.reduceEqDiff,cxN,g2,g3,c00]
 refine nS A L [] [] _ (Fy L hf1) hn (fun _ _=>⟨trivial,trivial⟩) (fun k hk=>by cases hk) rfl hA ?_
 rintro r L'-⟨rfl,rfl⟩
 refine ⟨fun f=>rfl,?_⟩
 have a1:=kE _ m1 g1
 have a2:=kE _ m2 g2
 have hl1:(yaf Ck.enc L'.found).length=1:=by rw [h.inv.fnd];rfl
 simp -implicitDefEqProofs only [rX,↓rY,aA,↓reduceIte,Nat.reduceEqDiff,aB,kill,St.kill,m2,hl1]
 intro _
 rw [show (((1:Nat):Int) != 1)=false from rfl,we]
 exact hN _ _ (by exact a1) (by exact a2)
theorem Yo {A:List Blk} {L:Lg} (hA:Clo A) (h:Ph ⟨[it1],2,-1,1⟩ L 1 0 (some sl1) none 1 1 3) (g1:get e 1=.ptr A.length 0 0) (g2:get e 2=.ptr (A.length+300+4) 0 0)
  (hN:∀ e b' L',Ph ⟨[it1,it2],2,1,1⟩ L' 1 2 (some sl1) (some sl2) 2 2 5→get e 1=.ptr A.length 0 0→get e 2=.ptr (A.length+300+4) 0 0→get e 11=.ptr (oA A L').length 0 0→get e 12=.i 0→N ⟨e,oA A L'++[.var [.i 1,.i 0,.i 2]],b'⟩) :
  aw (cxN Tryd.prog []) (pt 12 c5) N Xx R ⟨e,oA A L,bb⟩:=by
 have hn:L.n=300:=h.n
 have m1:=gN (A:=A) (n:=300) (j:=A.length) (by omega)
 have m2:=gN (A:=A) (n:=300) (j:=A.length+300+4) (by omega)
 conv=>arg 2;whnf
 simp -implicitDefEqProofs only [rX,aA,↓reduceIte,cxN,eF,g2]
 refine lY A [.dead] L [sv il,sv []] [sv il,sv []] _ (Jp h.inv (by decide) rfl (s:=1) (by rw [h.lg];decide) (by decide) (by decide) (by decide) (by decide)) hn (fun _ _=>⟨⟨trivial,trivial,trivial⟩,⟨rfl,rfl,trivial⟩⟩) (fun k hk=>by cases hk) rfl hA 0 rfl (fun _ _=>rfl) ?_
 rintro r L' hn' ⟨rfl,c,c',c'',rfl⟩
 refine ⟨fun f=>rfl,?_⟩
 have a1:=kE _ m1 g1
 have a2:=kE _ m2 g2
 have hp:=phD (c:=c) (c':=c') (c'':=c'') h
 generalize (L.took 1 c c').app il [] c''=L' at *
 simp -implicitDefEqProofs only [rX,↓rY,aA,cells?,splice,↓reduceIte,Nat.reduceEqDiff,Nat.reduceAdd,aG,aB,kill,St.kill,isC,m2,w3,Ho,h.q]
 exact hN _ _ L' hp (by exact a1) (by exact a2) rfl rfl
end
set_option maxRecDepth 20000
section
variable {N R:St→Prop} {Xx:Nat→St→Prop} {bb:Nat} {e:Env}
theorem Yn {A:List Blk} {L:Lg} (hA:Clo A) (h:Ph ⟨[it1,it2],2,1,1⟩ L 1 2 (some sl1) (some sl2) 2 2 5) (g1:get e 1=.ptr A.length 0 0) (g2:get e 2=.ptr (A.length+300+4) 0 0) (g11:get e 11=.ptr (oA A L).length 0 0) (g12:get e 12=.i 0)
  (hN:∀ e b' c c',get e 1=.ptr A.length 0 0→get e 11=.ptr (oA A (L.drop 0 c c')).length 0 0→get e 12=.i 0→get e 13=.i 0→N ⟨e,oA A (L.drop 0 c c')++[.var [.i 1,.i 0,.i 2]],b'⟩) :
  aw (cxN Tryd.prog []) (pt 13 c5) N Xx R ⟨e,oA A L++[.var [.i 1,.i 0,.i 2]],bb⟩:=by
 have hn:L.n=300:=h.n
 have m1:=gN (A:=A) (n:=300) (j:=A.length) (by omega)
 have m2:=gN (A:=A) (n:=300) (j:=A.length+300+4) (by omega)
 have m4:=gN (A:=A) (n:=300) (j:=(oA A L).length) (by rw [gD,hn];omega)
 conv=>arg 2;whnf
 simp -implicitDefEqProofs only [rX,aA,↓reduceIte,cxN,g2]
 refine lY A _ L [.i 0] [.i 0] _ (abU L 0 (h.inv.Sm (by decide))) hn (fun _ _=>⟨⟨trivial,trivial⟩,rfl,trivial⟩) (fun k hk=>by cases hk) rfl hA 1 rfl (fun _ _=>rfl) ?_
 rintro r L' hn' (⟨q1,-,-⟩|⟨q1,rfl,c,c',rfl⟩)
 ·exact absurd ⟨by decide,by rw [h.lg];decide⟩ q1
 refine ⟨fun f=>rfl,?_⟩
 have a1:=kE _ m1 g1
 have a4:=kE _ m4 g11
 have a5:get (aB (yaa (A.length+3) 300++[A.length+300+5]) e) 12=.i 0:=by rw [aE,g12];rfl
 rw [show (oA A L).length=(oA A (L.drop (Int.toNat 0) c c')).length by rw [gD,gD,hn']] at a4
 simp -implicitDefEqProofs only [rX,↓reduceIte,aB,kill,St.kill,m2]
 exact hN _ _ c c' (by exact a1) (by exact a4) (by exact a5) rfl
theorem Ym {A X:List Blk} {L:Lg} {q:Nat} (hn:L.n=300) (hb:∀ c∈L.cells,c.bad=false) (hA:Clo A) (hX:∀ M:List Nat,X.map (aD M)=X) (g1:get e 1=.ptr A.length 0 0) (g11:get e 11=.ptr q 0 0) (g12:get e 12=.i 0) (g13:get e 13=.i 0) (hq:(oA A L).length≤q∧q<(oA A L).length+X.length)
  (hN:∀ fd e b',tS (L.fresh.blank.scan 2).found fd→get e 2=.ptr ((Ac A L X).length+300+4) 0 0→get e 3=.i 0→get e 11=.ptr q 0 0→get e 12=.i 0→get e 13=.i 0→N ⟨e,oA (Ac A L X) (L.fresh.opn fd),b'⟩) :
  aw (cxN Tryd.prog []) (pt 14 c5) N Xx R ⟨e,oA A L++X,bb⟩:=by
 have hqA:=hq
 rw [gD,hn] at hqA
 have hqc:q<(Ac A L X).length:=by unfold Ac;simp only [yag];omega
 have m11:=Nv (A:=A) (n:=300) (j:=q) (by omega)
 have n11:=Nv (A:=Ac A L X) (n:=300) (j:=q) (by omega)
 conv=>arg 2;whnf
 simp -implicitDefEqProofs only [rX,aA,↓reduceIte,cxN,g1]
 refine Ep hn rfl (fun k hk=>by cases hk) rfl hA hX ?_
 simp -implicitDefEqProofs only [rX,↓reduceIte,aB,kill,St.kill]
 have hn2:L.fresh.n=300:=hn
 have a11:=kE _ m11 g11
 have a12:get (aB (yaa (A.length+3) 300) e) 12=.i 0:=by rw [aE,g12];rfl
 have a13:get (aB (yaa (A.length+3) 300) e) 13=.i 0:=by rw [aE,g13];rfl
 have hAc:=hA.ac L hX
 refine nR (Ac A L X) L.fresh (by show L.n≤_;omega) hb rfl rfl (by intro k hk;cases hk) (hAc _ fun j hj=>by rw [yad] at hj;omega) (fun h=>by have:L.n<129:=h;omega) fun _ fd hfd=>⟨trivial,?_⟩
 rw [show L.fresh.cells.length=300 from hn] at hfd
 rw [hn2]
 have m0:=Nv (A:=Ac A L X) (n:=300) (j:=(Ac A L X).length) (by omega)
 simp -implicitDefEqProofs only [rX,↓rY,↓reduceIte,Nat.reduceEqDiff,aB,kill,St.kill,m0]
 have b11:=kE _ n11 a11
 have b12:get (aB (yaa ((Ac A L X).length+3) 300) (aB (yaa (A.length+3) 300) e)) 12=.i 0:=by rw [aE,a12];rfl
 have b13:get (aB (yaa ((Ac A L X).length+3) 300) (aB (yaa (A.length+3) 300) e)) 13=.i 0:=by rw [aE,a13];rfl
 exact hN fd _ _ hfd rfl rfl (by exact b11) (by exact b12) (by exact b13)
theorem e00:((0:Int)==0)=true:=rfl
theorem e11:((1:Int)==1)=true:=rfl
theorem Yl {A:List Blk} {L:Lg} {q:Nat} (hn:L.n=300) (hf:L.found=[⟨1,0,2,il⟩]) (hA:Clo A) (g2:get e 2=.ptr (A.length+300+4) 0 0) (g3:get e 3=.i 0) (g11:get e 11=.ptr q 0 0) (g12:get e 12=.i 0) (g13:get e 13=.i 0) (hq:A[q]?=some (.var [.i 1,.i 0,.i 2])) :
  aw (cxN Tryd.prog []) (rt 15 c5) (cE [] 0 [.tmp 0] (Is (.b true))) (fun _ _=>False) (cE [] 0 [.tmp 0] (Is (.b true))) ⟨e,oA A L,bb⟩:=by
 have hql:q<A.length:=by
  rcases Nat.lt_or_ge q A.length with h|h
  ·exact h
  ·rw [yba h] at hq;cases hq
 have m1:=gN (A:=A) (n:=300) (j:=A.length) (by omega)
 have m2:=gN (A:=A) (n:=300) (j:=A.length+300+4) (by omega)
 have mq:=gN (A:=A) (n:=300) (j:=q) (by omega)
 have hbl:∀ L':Lg,(oA A L')[q]?=some (.var [.i 1,.i 0,.i 2]):=fun L'=>by
  unfold oA
  rw [yaH hql,hq]
 have hq1:=hbl L
 conv=>arg 2;whnf
 simp -implicitDefEqProofs only [rX,↓rY,aA,↓reduceIte,Nat.reduceEqDiff,a8,bF,wfV,cxN,g2,g3,g11,g12,g13,hq1,e00,e11]
 have hf1:L.found.length≤100000:=by rw [hf];decide
 refine nS A L [] [] _ (Fy L hf1) hn (fun _ _=>⟨trivial,trivial⟩) (fun k hk=>by cases hk) rfl hA ?_
 rintro r L'-⟨rfl,rfl⟩
 refine ⟨fun f=>rfl,?_⟩
 have a2:=kE _ m2 g2
 have hl1:(yaf Ck.enc L'.found).length=1:=by rw [hf];rfl
 simp -implicitDefEqProofs only [rX,↓rY,aA,↓reduceIte,Nat.reduceEqDiff,a8,bF,wfV,aB,kill,St.kill,m2,mq,a2,hl1]
 intro _
 rw [show (((1:Nat):Int)==1)=true from rfl,wd]
 refine nS A L' [] [] _ (Fy L' hf1) hn (fun _ _=>⟨trivial,trivial⟩) (fun k hk=>by cases hk) rfl hA ?_
 rintro r L3-⟨rfl,rfl⟩
 refine ⟨fun f=>rfl,?_⟩
 simp -implicitDefEqProofs only [rX,↓rY,aA,↓reduceIte,Nat.reduceEqDiff,a8,bF,wfV,aB,kill,St.kill,↓qbG,yau,m2,mq,hl1]
 refine ⟨⟨yao _,by decide⟩,by decide,?_⟩
 have hx:L3.found[Int.toNat 0]'(by rw [hf];decide)=⟨1,0,2,il⟩:=List.getElem_of_eq hf _
 rw [hx]
 show cI (some (sv il)) _
 rw [qar]
 rw [qbC]
 simp -implicitDefEqProofs only [pA]
 rw [show (il==(⟨#[108]⟩:ByteArray).toList)=true by decide +kernel]
end
theorem ok5:Ok 5 [] (Is (.b true)):=by
 refine dX lw5 (by simp) ?_
 rw [c5_parts]
 simp only [zb]
 conv=>arg 2;whnf
 simp -implicitDefEqProofs only [rX,aA,cxN,aV]
 refine afO fun e b g1=>?_
 rw [zb]
 refine afN g1 fun e b g1=>?_
 rw [zb]
 have hA0:Clo [.dead,.dead]:=fun M _=>rfl
 refine afM (A:=[.dead,.dead]) (L:=Lf 300) (yai ..) (fun c hc=>by rw [(yaL.1 (show c∈yab 300 zC from hc)).2];rfl) hA0 g1 fun fd e b hfd g1 g2 g3=>?_
 rw [show (Lf 300).opn fd=(Lf 300).blank from Kj (by rw [show (Lf 300).cells.length/129=2 by rw [show (Lf 300).cells.length=300 from yai ..]];exact hfd)]
 rw [zb]
 refine afL hA0 phA g1 g2 g3 fun e b g1 g2=>?_
 rw [zb]
 refine afK hA0 phA g1 g2 fun e b L2 h2 g1 g2 g4 g5=>?_
 rw [zb]
 refine afJ hA0 h2 g1 g2 g4 g5 fun e b g1 g2 g4 g5 g7=>?_
 rw [zb]
 refine afI hA0 h2 g1 g2 g4 g5 g7 fun e b g1 g2 g4 g5 g7 g8 g9 g10=>?_
 rw [zb]
 refine afH hA0 h2 g1 g2 g4 g5 g7 g8 g9 g10 fun e b g1=>?_
 rw [zb]
 have hX1:∀ M:List Nat,yaf (aD M) [Blk.var [.i 0,.i 0,.i 1],.arr 1 (yab 361 [.v (.int .u8 0)]),.var [.i 0,.i 0,.i 0]]=[.var [.i 0,.i 0,.i 1],.arr 1 (yab 361 [.v (.int .u8 0)]),.var [.i 0,.i 0,.i 0]]:=fun M=>by
  simp only [yah,yan,aD,yav];rfl
 unfold Hb
 refine afG h2.n hA0 hX1 g1 fun e b g1=>?_
 have hA1:=hA0.ac L2 hX1
 generalize Ac [.dead,.dead] L2 _=A1 at hA1 g1 ⊢
 rw [zb]
 refine Yq (L:=L2.fresh) h2.n h2.inv.bad hA1 g1 fun fd e b hfd g1 g2 g3=>?_
 have hfd1:fd=[it1.c]:=by
  rw [scB h2] at hfd
  have h3:tS L2.found fd:=hfd
  rw [h2.inv.fnd] at h3
  exact ybe.1 h3.p
 have e3:L2.fresh.opn fd={ L2 with seg:=-1,next:=0,steps:=0,c:=0 }:=by
  unfold Lg.opn
  rw [show L2.fresh.cells.length/129=2 by rw [show L2.fresh.cells.length=300 from h2.n],scB h2,hfd1]
  have:=h2.inv.fnd
  cases L2
  simp only at this
  subst this
  rfl
 rw [e3]
 have h3:=phC h2
 generalize ({ L2 with seg:=-1,next:=0,steps:=0,c:=0 }:Lg)=L3 at h3
 rw [zb]
 refine Yp hA1 h3 g1 g2 g3 fun e b g1 g2=>?_
 rw [zb]
 refine Yo hA1 h3 g1 g2 fun e b L4 h4 g1 g2 g11 g12=>?_
 rw [zb]
 refine Yn hA1 h4 g1 g2 g11 g12 fun e b c c' g1 g11 g12 g13=>?_
 rw [zb]
 have hr:=i3 (L:=L4) (s:=0) (c:=c) (c':=c')
 have hn5:(L4.drop 0 c c').n=300:=hr.len.trans h4.n
 have hb5:∀ x∈(L4.drop 0 c c').cells,x.bad=false:=hr.bad h4.inv.bad
 have hs5:=scE (c:=c) (c':=c') h4
 generalize (L4.drop 0 c c')=L5 at *
 refine Ym hn5 hb5 hA1 (fun M=>rfl) g1 g11 g12 g13 ⟨yam _,by simp⟩ fun fd e b hfd g2 g3 g11 g12 g13=>?_
 have hfd6:fd=[⟨1,0,2,il⟩]:=by
  rw [hs5] at hfd
  exact ybe.1 hfd.p
 have hA2:=hA1.ac L5 (X:=[.var [.i 1,.i 0,.i 2]]) (fun M=>rfl)
 refine Yl (L:=L5.fresh.opn fd) ?_ ?_ hA2 g2 g3 g11 g12 g13 ?_
 ·show (L5.fresh.blank.scan _).cells.length=300
  rw [(Sc.scan (L0:=L5.fresh.blank)).cells]
  exact hn5
 ·exact hfd6
 ·unfold Ac
  rw [w3];rfl
set_option maxRecDepth 20000
theorem Xj {a b:Int} {l:Bs} {s:bW} (h:gQ a b l=some s):(0≤s.gen∧s.gen≤1152921504606846976)∧(0≤s.seq∧s.seq≤1152921504606846976):=by
 unfold gQ at h
 split at h
 ·rename_i h1
  split at h
  ·split at h
   ·split at h
    ·have e:tO l=s:=by simpa using h
     subst e
     obtain ⟨a1,a2,_⟩:=h1
     exact ⟨⟨by show 0≤p6 l;omega,a1.2⟩,⟨by show 0≤tP l;omega,a2.2⟩⟩
    ·cases h
   ·cases h
  ·cases h
 ·cases h
structure Fnd (L:Lg) (k:Nat) (x:Ck):Prop where
 sg:0≤x.seg∧x.seg<k
 sl:0≤x.slot∧x.slot<16
 d:∃ s,gQ x.seg x.slot (L.bts x.seg x.slot)=some s∧s.gen=L.gens.getD x.seg.toNat 0∧s.seq=x.seq
structure ScI (L:Lg) (k:Nat):Prop where
 t:0≤L.top∧L.top≤1152921504606846976
 q:0≤L.seq∧L.seq≤1152921504606846976
 g:∀ x∈L.gens,0≤x∧x≤1152921504606846976
 f:∀ x∈L.found,Fnd L k x
theorem ScI.hd {L:Lg} {k:Nat} (h:ScI L k):ScI (L.hd k) k:=by
 unfold Lg.hd
 split
 ·rename_i hok
  unfold Lg.hok at hok
  simp only [Bool.and_eq_true,decide_eq_true_eq] at hok
  obtain ⟨h1,h2,h3⟩:=hok
  have ht:=h.t
  refine ⟨⟨by show 0≤max L.top (L.hg k);omega,by show max L.top (L.hg k)≤_;omega⟩,h.q,fun x hx=>?_,fun x hx=>?_⟩
  ·rcases yaV hx with h5|h5
   ·exact h.g x h5
   ·omega
  ·have:=h.f x hx
   have hs:=this.sg
   obtain ⟨s,e1,e2,e3⟩:=this.d
   refine ⟨hs,this.sl,s,e1,?_,e3⟩
   rw [e2]
   show _=(L.gens.set k (L.hg k)).getD x.seg.toNat 0
   rw [yae,yae,List.getElem?_set_ne (by omega)]
 ·exact h
theorem ScI.mono {L:Lg} {k k':Nat} (h:ScI L k) (hk:k≤k'):ScI L k':=⟨h.t,h.q,h.g,fun x hx=>⟨by have:=(h.f x hx).sg;omega,(h.f x hx).sl,(h.f x hx).d⟩⟩
theorem ScI.slo {L:Lg} {k j:Nat} (h:ScI L (k+1)) (hj:j<16):ScI (L.slo k j) (k+1):=by
 have ht:=h.t
 have hq:=h.q
 unfold Lg.slo
 split
 ·rename_i x hx
  obtain ⟨b1,b2⟩:=Xj hx
  refine ⟨⟨by show 0≤max L.top x.gen;omega,by show max L.top x.gen≤_;omega⟩,⟨by show 0≤max L.seq x.seq;omega,by show max L.seq x.seq≤_;omega⟩,h.g,fun y hy=>?_⟩
  simp only at hy
  split at hy
  ·rename_i hg
   rcases yaw.1 hy with hy|hy
   ·exact ⟨(h.f y hy).sg,(h.f y hy).sl,(h.f y hy).d⟩
   ·rw [yat] at hy
    subst hy
    exact ⟨⟨by show (0:Int)≤k;omega,by show (k:Int)<((k+1:Nat):Int);omega⟩,⟨by show (0:Int)≤j;omega,by show (j:Int)<16;omega⟩,x,hx,by show x.gen=L.gens.getD ((k:Int).toNat) 0;rw [yas];exact hg,rfl⟩
  ·exact ⟨(h.f y hy).sg,(h.f y hy).sl,(h.f y hy).d⟩
 ·exact h
theorem ScI.slos {L:Lg} {k:Nat} (h:ScI L (k+1)):∀ {j:Nat},j≤16→ScI (L.slos k j) (k+1)
 | 0,_=>h
 | j+1,hj=>(ScI.slos h (j:=j) (by omega)).slo (by omega)
theorem ScI.scan {L:Lg}:∀ {k:Nat},ScI (L.blank.scan k) k
 | 0=>⟨⟨yao _,by show (0:Int)≤_;decide⟩,⟨yao _,by show (0:Int)≤_;decide⟩,fun x hx=>by
   have:x∈yab (L.cells.length/129) (0:Int):=hx
   rw [(yaL.1 this).2]
   exact ⟨yao _,by decide⟩,fun x hx=>by cases hx⟩
 | k+1=>((ScI.scan (L:=L) (k:=k)).hd.mono (Nat.le_succ k)).slos (yam 16)
structure Op0 (n:Nat) (L:Lg):Prop where
 i:ScI L (n/129)
 cn:L.cells.length=n
 b:∀ c∈L.cells,c.bad=false
 gl:L.gens.length=n/129
 sg:L.seg=-1
 nx:L.next=0
 fl:L.found.length≤16*(n/129)
theorem aaW {n:Nat} {L:Lg} {fd:List Ck} (hn:L.cells.length=n) (hb:∀ c∈L.cells,c.bad=false) (hfd:tS (L.blank.scan (n/129)).found fd):Op0 n (L.opn fd)∧(L.opn fd).steps=L.steps:=by
 have hs:=Sc.scan (L0:=L.blank) (k:=n/129)
 have hi:=ScI.scan (L:=L) (k:=n/129)
 have e:L.opn fd={ L.blank.scan (n/129) with found:=fd }:=by unfold Lg.opn;rw [hn]
 rw [e]
 have hm:∀ x∈fd,Fnd (L.blank.scan (n/129)) (n/129) x:=fun x hx=>hi.f x (hfd.p.mem_iff.1 hx)
 refine ⟨⟨⟨hi.t,hi.q,hi.g,fun x hx=>⟨(hm x hx).sg,(hm x hx).sl,(hm x hx).d⟩⟩,hs.cells▸hn,fun c hc=>hb c (by have:c∈(L.blank.scan (n/129)).cells:=hc;rw [hs.cells] at this;exact this),?_,hs.seg,hs.next,?_⟩,hs.steps⟩
 ·show (L.blank.scan (n/129)).gens.length=_
  rw [hs.gl]
  show (yab (L.cells.length/129) (0:Int)).length=_
  rw [yai,hn]
 ·show fd.length≤_
  rw [hfd.p.length_eq]
  have:(L.blank.scan (n/129)).found.length≤0+16*(n/129):=hs.fl
  omega
theorem Op0.rd {n:Nat} {L:Lg} (h:Op0 n L) (hn:n≤60000) {x:Ck} (hx:x∈L.found):(L.Rdb x.seg x.slot∧x.seg<L.gens.length)∧(L.rdO x.seg x.slot x.seq).2.2=0:=by
 have hf:=h.i.f x hx
 have h1:=hf.sg
 have h2:=hf.sl
 have hg:=h.gl
 have hc:=h.cn
 have hlt:bZ x.seg x.slot+8≤L.cells.length:=by unfold bZ;omega
 refine ⟨⟨⟨⟨h1.1,by omega⟩,h2,hlt,fun j hj=>?_⟩,by omega⟩,?_⟩
 ·rw [yae,yaI (by omega)]
  exact h.b _ (yaW _)
 ·obtain ⟨s,e1,e2,e3⟩:=hf.d
  have hany:L.found.any (Ck.isAt x.seg x.slot x.seq)=true:=by
   rw [List.any_eq_true]
   exact ⟨x,hx,by unfold Ck.isAt;simp⟩
  unfold Lg.rdO
  rw [if_pos hany,e1]
  unfold rdS
  simp only
  rw [if_pos ⟨e3,e2⟩]
structure DI (n:Nat) (L:Lg) (s:Nat):Prop where
 cn:L.cells.length=n
 gl:L.gens.length=n/129
 t:0≤L.top∧L.top≤1152921504606846976+s
 q:0≤L.seq∧L.seq≤1152921504606846976
 g:∀ x∈L.gens,0≤x∧x≤1152921504606846976+s
 f:∀ x∈L.found,(s:Int)≤x.seg∧x.seg<((n/129:Nat):Int)
 sg:L.seg=-1
 nx:L.next=0
 fl:L.found.length≤16*(n/129)
 st:L.steps≤100+40*s
theorem Op0.di {n:Nat} {L:Lg} (h:Op0 n L) (hs:L.steps≤100):DI n L 0 :=
 ⟨h.cn,h.gl,by have:=h.i.t;omega,h.i.q,fun x hx=>by have:=h.i.g x hx;omega,fun x hx=>by have:=(h.i.f x hx).sg;omega,h.sg,h.nx,h.fl,by omega⟩
theorem DI.Sm {n s:Nat} {L:Lg} (h:DI n L s) (hn:n≤400) (hs:s≤3):L.Sm :=
 ⟨by have:=h.gl;omega,by have:=h.gl;have:=h.cn;omega,by have:=h.t;omega,by have:=h.st;omega,by have:=h.fl;omega⟩
theorem DI.drop {n s c c':Nat} {L:Lg} (h:DI n L s):DI n (L.drop s c c') (s+1):=by
 have hr:=i3 (L:=L) (s:=s) (c:=c) (c':=c')
 have ht:=h.t
 refine ⟨hr.len.trans h.cn,?_,?_,?_,fun x hx=>?_,fun x hx=>?_,?_,?_,?_,?_⟩
 ·show (L.ren s c c').gens.length=_
  rw [hr.gens,yaU];exact h.gl
 ·show 0≤(L.ren s c c').top∧(L.ren s c c').top≤_
  rw [hr.top];omega
 ·show 0≤(L.ren s c c').seq∧(L.ren s c c').seq≤_
  rw [hr.seq];exact h.q
 ·have hx:x∈(L.ren s c c').gens:=hx
  rw [hr.gens] at hx
  rcases yaV hx with h5|h5
  ·have:=h.g x h5;omega
  ·omega
 ·have hx:x∈L.found.filter fun y=>y.seg != (s:Int):=hx
  rw [List.mem_filter] at hx
  have:=h.f x hx.1
  have h2:x.seg≠s:=by simpa using hx.2
  omega
 ·show (if L.seg=s then -1 else L.seg)=(-1:Int)
  split
  ·rfl
  ·exact h.sg
 ·have:(L.drop s c c').next=L.next:=by
   show (L.ren s c c').next=L.next
   unfold Lg.ren
   split<;>rfl
  rw [this];exact h.nx
 ·exact Nat.le_trans (List.length_filter_le ..) h.fl
 ·show (L.ren s c c').steps≤_
  have:=hr.steps;have:=h.st;omega
theorem DI.none {n:Nat} {L:Lg} (h:DI n L (n/129)):L.found=[]:=by
 cases hf:L.found with
 | nil=>rfl
 | cons x r =>
  have:=h.f x (by rw [hf];exact List.mem_cons_self)
  omega
structure AI (n:Nat) (L:Lg) (k:Nat):Prop where
 cn:L.cells.length=n
 gl:L.gens.length=n/129
 t:0≤L.top∧L.top≤1152921504606846976+3+k
 q:0≤L.seq∧L.seq≤1152921504606846976+k
 g:∀ x∈L.gens,0≤x∧x≤1152921504606846976+3+k
 f:∀ i:Nat,(inL L.found (i:Int)).length=0↔k≤16*i
 sg:(k=0∧L.seg=-1)∨(0<k∧L.seg=(((k-1)/16:Nat):Int))
 nx:(k=0∧L.next=0)∨(0<k∧L.next=(((k-1)%16+1:Nat):Int))
 fl:L.found.length=k
 st:L.steps≤300+60*k
theorem DI.ai {n:Nat} {L:Lg} (h:DI n L (n/129)) (hn:n≤400):AI n L 0:=by
 have hf:=h.none
 have h3:n/129≤3:=by omega
 refine ⟨h.cn,h.gl,by have:=h.t;omega,by have:=h.q;omega,fun x hx=>by have:=h.g x hx;omega,fun i=>?_,.inl ⟨rfl,h.sg⟩,.inl ⟨rfl,h.nx⟩,by rw [hf];rfl,by have:=h.st;omega⟩
 rw [hf]
 exact ⟨fun _=>yap _,fun _=>rfl⟩
theorem AI.Sm {n k:Nat} {L:Lg} (h:AI n L k) (hn:n≤400) (hk:k≤48):L.Sm :=
 ⟨by have:=h.gl;omega,by have:=h.gl;have:=h.cn;omega,by have:=h.t;omega,by have:=h.st;omega,by have:=h.fl;omega⟩
theorem AI.free {n k:Nat} {L:Lg} (h:AI n L k) (i:Nat):L.free (i:Int)=decide (k≤16*i):=by
 have hf:=h.f i
 have hs:=h.sg
 unfold Lg.free
 by_cases h1:k≤16*i
 ·have h2:(i:Int)≠L.seg:=by omega
  rw [decide_eq_true h1]
  simp [h2,hf.2 h1]
 ·have h3:¬(inL L.found (i:Int)).length=0:=fun e=>h1 (hf.1 e)
  rw [decide_eq_false h1]
  simp [h3]
theorem AI.app {n k c:Nat} {L:Lg} {key data:Bs} (h:AI n L k) (hk:k%16≠0):AI n (L.app key data c) (k+1):=by
 have hs:=h.sg
 have hnx:=h.nx
 have hq:=h.q
 have ht:=h.t
 have hsg:L.seg=((k/16:Nat):Int):=by omega
 refine ⟨cF.trans h.cn,h.gl,by show 0≤L.top∧L.top≤_;omega,by show 0≤L.seq+1∧L.seq+1≤_;omega,fun x hx=>by have:=h.g x hx;omega,fun i=>?_,.inr ⟨by omega,by show L.seg=_;omega⟩,.inr ⟨by omega,by show L.next+1=_;omega⟩,?_,?_⟩
 ·show (inL (L.found++[⟨L.seg,L.next,L.seq+1,key⟩]) (i:Int)).length=0↔_
  have hf:=h.f i
  unfold inL at hf ⊢
  rw [List.filter_append,yag]
  by_cases he:L.seg=(i:Int)
  ·have:(yaM (fun x:Ck=>x.seg==(i:Int)) [⟨L.seg,L.next,L.seq+1,key⟩]).length=1:=by simp [he]
   rw [this]
   omega
  ·have:(yaM (fun x:Ck=>x.seg==(i:Int)) [⟨L.seg,L.next,L.seq+1,key⟩]).length=0:=by simp [he]
   rw [this,yaJ,hf]
   omega
 ·show (L.found++[_]).length=_
  rw [yag,h.fl];rfl
 ·show L.steps+(d9 _ 8).length+1≤_
  rw [eJ]
  have:=h.st
  omega
theorem AI.tk {n k c c' c2:Nat} {L:Lg} {key data:Bs} (h:AI n L k) (hk:k%16=0):AI n ((L.took (k/16) c c').app key data c2) (k+1):=by
 have hs:=h.sg
 have hq:=h.q
 have ht:=h.t
 have hr:=i3 (L:=L) (s:=k/16) (c:=c) (c':=c')
 have htop:(L.took (k/16) c c').top=L.top+1:=hr.top
 have hseq:(L.took (k/16) c c').seq=L.seq:=hr.seq
 have hfd:(L.took (k/16) c c').found=L.found:=hr.found
 refine ⟨cF.trans (hr.len.trans h.cn),?_,?_,?_,fun x hx=>?_,fun i=>?_,.inr ⟨by omega,?_⟩,.inr ⟨by omega,?_⟩,?_,?_⟩
 ·show (L.ren (k/16) c c').gens.length=_
  rw [hr.gens,yaU];exact h.gl
 ·show 0≤(L.took (k/16) c c').top∧(L.took (k/16) c c').top≤_
  rw [htop];omega
 ·show 0≤(L.took (k/16) c c').seq+1∧(L.took (k/16) c c').seq+1≤_
  rw [hseq];omega
 ·have hx:x∈(L.ren (k/16) c c').gens:=hx
  rw [hr.gens] at hx
  rcases yaV hx with h5|h5
  ·have:=h.g x h5;omega
  ·omega
 ·show (inL ((L.took (k/16) c c').found++[⟨((k/16:Nat):Int),0,(L.took (k/16) c c').seq+1,key⟩]) (i:Int)).length=0↔_
  rw [hfd]
  have hf:=h.f i
  unfold inL at hf ⊢
  rw [List.filter_append,yag]
  by_cases he:((k/16:Nat):Int)=(i:Int)
  ·have:(yaM (fun x:Ck=>x.seg==(i:Int)) [⟨((k/16:Nat):Int),0,(L.took (k/16) c c').seq+1,key⟩]).length=1:=by simp [he]
   rw [this]
   omega
  ·have:(yaM (fun x:Ck=>x.seg==(i:Int)) [⟨((k/16:Nat):Int),0,(L.took (k/16) c c').seq+1,key⟩]).length=0:=by
    simp only [ybd,List.filter_eq_nil_iff,yat]
    rintro x rfl
    simpa using he
   rw [this,yaJ,hf]
   omega
 ·show ((k/16:Nat):Int)=_
  congr 1
 ·show (0:Int)+1=_
  omega
 ·show ((L.took (k/16) c c').found++[_]).length=_
  rw [hfd,yag,h.fl];rfl
 ·show (L.ren (k/16) c c').steps+(d9 _ 8).length+1≤_
  rw [eJ]
  have:=h.st
  have:=hr.steps
  omega
theorem AI.apd {n k:Nat} {L:Lg} {key data:Bs} (h:AI n L k) (hn:n≤400) (hk:k<16*(n/129)) (hkl:key.length≤100) (hd:data.length≤360) :
  OkL 15 [.ptr 0 0 0,sv key,sv data] L (fun r L'=>∃ a b c:Int,r=.tup [.agg [.i a,.i b,.i c],.i 0]∧AI n L' (k+1)):=by
 have hs:=h.sg
 have hnx:=h.nx
 have hq:=h.q
 have hgl:=h.gl
 have hfl:=h.fl
 refine fB (Nk L key data (h.Sm hn (by omega)) ⟨by omega,by omega⟩ (by omega) (by omega) (by omega) (by omega) (fun x hx=>by have:=h.g x hx;omega)) ?_
 rintro r hh ⟨L',⟨h1,h2⟩,rfl⟩
 refine ⟨L',⟨h1,?_⟩,rfl⟩
 rcases h2 with ⟨q1,rfl,rfl⟩|⟨q1,q2,q3,rfl,rfl⟩|⟨q1,L1,c,q2,rfl,rfl⟩
 ·omega
 ·have:=q3 (k/16) (by omega)
  rw [h.free,decide_eq_false_iff_not] at this
  omega
 ·refine ⟨L1.seg,L1.next,L1.seq+1,rfl,?_⟩
  rcases q2 with ⟨a1,rfl⟩|⟨a1,s',c1,c2,a2,a3,a4,rfl⟩
  ·exact h.app (by omega)
  ·have e:s'=k/16:=by
    rw [h.free,decide_eq_true_eq] at a3
    rcases Nat.lt_or_ge (k/16) s' with h5|h5
    ·have:=a4 (k/16) h5
     rw [h.free,decide_eq_false_iff_not] at this
     omega
    ·omega
   subst e
   exact h.tk (by omega)
theorem AI.apn {n:Nat} {L:Lg} {key data:Bs} (h:AI n L (16*(n/129))) (hn:129≤n∧n≤400) (hkl:key.length≤100) (hd:data.length≤360) :
  OkL 15 [.ptr 0 0 0,sv key,sv data] L (fun r L'=>r=.tup [.agg [.i 0,.i 0,.i 0],.i 140]∧L'=L):=by
 have hs:=h.sg
 have hnx:=h.nx
 have hq:=h.q
 have hgl:=h.gl
 have hfl:=h.fl
 refine fB (Nk L key data (h.Sm hn.2 (by omega)) ⟨by omega,by omega⟩ (by omega) (by omega) (by omega) (by omega) (fun x hx=>by have:=h.g x hx;omega)) ?_
 rintro r hh ⟨L',⟨h1,h2⟩,rfl⟩
 refine ⟨L',⟨h1,?_⟩,rfl⟩
 rcases h2 with ⟨q1,rfl,rfl⟩|⟨q1,q2,q3,rfl,rfl⟩|⟨q1,L1,c,q2,rfl,rfl⟩
 ·omega
 ·exact ⟨rfl,rfl⟩
 ·rcases q2 with ⟨a1,rfl⟩|⟨a1,s',c1,c2,a2,a3,a4,rfl⟩
  ·omega
  ·rw [h.free,decide_eq_true_eq] at a3
   omega
set_option maxRecDepth 20000
structure WrS (n k:Nat) (D:Dk):Prop where
 cells:D.cells=yab n zC
 after:D.after=-1
 dead:D.dead=false
 steps:D.steps≤k
 op:∀ i,(D.op i).length≤k
theorem WrS.cn {n k:Nat} {D:Dk} (h:WrS n k D):D.cells.length=n:=by rw [h.cells,yai]
theorem WrS.new {n:Nat}:WrS n 0 (Lf n).S.D:=⟨rfl,rfl,rfl,yam _,fun i=>by show ((Lf n).D.op i).length≤0;rw [(Lf n).op];exact yam _⟩
theorem WrS.chk {n k:Nat} {D:Dk} (h:WrS n k D) {i:Nat} (hi:i<n):D.chk (i:Int)=0:=by
 have:=h.cn
 unfold Dk.chk
 rw [if_neg (by rw [h.dead];decide),if_neg (by show ¬(_∨(D.cells.length:Int)≤_);omega)]
theorem WrS.stepD {n k:Nat} {D:Dk} (h:WrS n k D):D.stepE=0∧D.stepD={ D with steps:=D.steps+1 }:=by
 refine ⟨by unfold Dk.stepE;rw [if_neg (by rw [h.after];decide)],?_⟩
 unfold Dk.stepD
 rw [if_neg (by rw [h.after];decide),h.after]
 rw [if_neg (by decide)]
theorem WrS.step {n k i:Nat} {D:Dk} {s:Sec} (h:WrS n k D) (ho:D.opn.length=D.cells.length) (hi:i<n):WrS n (k+1) (D.wrD (i:Int) s):=by
 have hc:=h.chk hi
 have hn:=h.cn
 obtain ⟨hst,hsD⟩:=h.stepD
 have hw:D.wrD (i:Int) s=D.stepD.addD i s:=by
  unfold Dk.wrD
  rw [if_neg (by rw [hc];simp),if_neg (by rw [hst];simp),yas]
 rw [hw,hsD]
 refine ⟨h.cells,h.after,h.dead,by show D.steps+1≤_;have:=h.steps;omega,fun j=>?_⟩
 rw [mD (by show _<D.opn.length;rw [ho];omega)]
 have e:∀ j,({ D with steps:=D.steps+1 }:Dk).op j=D.op j:=fun j=>rfl
 rw [e,e]
 have hi:=h.op i
 have hj:=h.op j
 split
 ·rw [yag,List.length_singleton];omega
 ·omega
theorem WrS.sync {n k:Nat} {S S':MS} (h:WrS n k S.D) (hn:0<n) (hs:S'.D=S.D.syD):∃ L:Lg,S'=L.S∧L.cells.length=n∧(∀ c∈L.cells,c.bad=false)∧L.steps≤k+1:=by
 have hc:=h.chk (i:=0) hn
 obtain ⟨hst,hsD⟩:=h.stepD
 have e0:S'.D={ S.D with steps:=S.D.steps+1 }.allD:=by
  rw [hs]
  unfold Dk.syD
  rw [if_neg (by rw [show S.D.chk 0=0 from hc];simp),if_neg (by rw [hst];simp),hsD]
 have hcl:S'.D.cells=(List.range S.D.cells.length).map fun i=>if S.D.op i=[] then S.D.cells.getD i zC else ⟨nY (S.D.op i),false⟩:=by rw [e0];rfl
 have hlen:S'.D.cells.length=n:=by rw [hcl,yak,List.length_range,h.cn]
 have e1:S'.D=(⟨[],0,0,[],-1,0,S'.D.cells,S.D.steps+1,S'.c⟩:Lg).D:=by
  have h1:S'.D.opn=yab S'.D.cells.length []:=by rw [hlen,←h.cn,e0];rfl
  have h2:S'.D.steps=S.D.steps+1:=by rw [e0];rfl
  have h3:S'.D.after=-1:=by rw [e0];exact h.after
  have h4:S'.D.dead=false:=by rw [e0];exact h.dead
  unfold Lg.D
  cases hD:S'.D
  rw [hD] at h1 h2 h3 h4
  simp only at h1 h2 h3 h4 ⊢
  rw [h1,h2,h3,h4]
 have e4:S'.L=[]:=by
  cases hL:S'.L with
  | nil=>rfl
  | cons x r =>
   have:=((S'.ok.key x.1).1 (by rw [hL];simp)).2
   rw [e1,Lg.op] at this
   exact absurd rfl this
 refine ⟨⟨[],0,0,[],-1,0,S'.D.cells,S.D.steps+1,S'.c⟩,?_,hlen,fun c hc=>?_,by have:=h.steps;show S.D.steps+1≤_;omega⟩
 ·obtain ⟨D',L',c',ok'⟩:=S'
  simp only at e1 e4 ⊢
  subst e4
  have:∀ L:Lg,L.S=⟨L.D,[],L.c,L.S.ok⟩:=fun L=>rfl
  rw [this]
  congr 1
 ·have hc2:c∈S'.D.cells:=hc
  rw [hcl] at hc2
  obtain ⟨i,hi,rfl⟩:=List.mem_map.1 hc2
  split
  ·rw [h.cells,yae,ybc]
   split<;>rfl
  ·rfl
theorem ok8 (S:MS):OkD 8 [.ptr 0 0 0] S (fun r S'=>S'=S∧r=.i S.D.steps):=by
 refine lQ lw8 (by simp) ?_
 unfold c8 dkV dkC
 simp -implicitDefEqProofs only [rX,↓rY,aA,↓reduceIte,reduceCtorEq,cxN,aV]
 exact tK S (aF _) rfl ⟨trivial,rfl,rfl⟩
section
variable {cx:Cx} {f:FuncId} {e:Env} {b:Nat} {K:V→St→Prop}
theorem Ti (S:MS) (args xs:List V) (Q:V→MS→Prop) (hC:cx.C f (.ptr 0 0 0::xs) (S.bs 0) (yaa 3 S.n) (QF MS.bs (3+S.n) Q))
  (ha:∀ (H:List Blk) (g:Nat→Option Nat),aN H g args∧wkL xs (aX H g args))
  (hbn:cx.bn=[]) (hfx:cx.fx=[])
  (h3:∀ (v:V) (S':MS),S'.n=S.n→Q v S'→(∀ f,ren f v=v)∧K v ⟨aB (yaa 5 S.n) e,[.dead,.dead]++S'.bs 2,b⟩):cB cx f (.ptr 2 0 0::args) ⟨e,[.dead,.dead]++S.bs 2,b⟩ K:=by
 have:=lA (cx:=cx) (f:=f) (b:=b) (K:=K) (e:=e) MS.bs 3 S.n (fun g hg p q f hf=>eQ g.ok (by
  have h1:=hg 0
  rw [g.len] at h1
  intro j hj
  have hj2:j<3+g.n:=hj
  exact hf j (by omega))) [.dead,.dead] [] S (fun p=>S.len) (by decide) args xs Q hC (ha _ _) (by rw [hbn];simp) (by rw [hfx];simp) rfl rfl fun v S' h1 h2=>by
  have hn':S'.n=S.n:=by have:=h1 0;rw [S'.len] at this;omega
  obtain ⟨q1,q2⟩:=h3 v S' hn' h2
  refine ⟨q1,by rw [hfx];trivial,?_⟩
  rw [yac]
  exact q2
 rw [yac] at this
 exact this
end
set_option maxRecDepth 20000
def xF (x:Nat):List V:=[.v (.int .u16 x)]
theorem adD (x:Nat):(xF x)[0]?=some (.v (.int .u16 x)):=rfl
theorem c3_parts:c3=.seq (pt 0 c3) (.seq (pt 1 c3) (.seq (pt 2 c3) (.seq (pt 3 c3) (.seq (pt 4 c3) (.seq (pt 5 c3) (.seq (pt 6 c3) (.seq (pt 7 c3) (.seq (pt 8 c3) (.seq (pt 9 c3) (.seq (pt 10 c3) (.seq (pt 11 c3) (.seq (pt 12 c3) (.seq (pt 13 c3) (.seq (pt 14 c3) (rt 15 c3))))))))))))))):=by rfl
section
variable {N R:St→Prop} {Xx:Nat→St→Prop} {bb n:Nat} {e:Env} {l:List Nat} {cs:List Sec}
structure EA (n:Nat) (l:List Nat) (cs:List Sec) (e:Env):Prop where
 g1:get e 1=.ro 1 (l.map xF)
 g2:get e 2=.ro 64 (cs.map Sec.enc)
 g7:get e 7=.i n
 g8:get e 8=.ptr 2 0 0
def D2 (S:MS):List Blk:=.dead::.dead::S.bs 2
theorem Uu {S:MS}:wfB (D2 S) (D2 S):=by
 have:=S.wf (p:=2) [.dead,.dead] [] rfl (C:=[]) trivial
 rw [yac] at this
 exact this
theorem Gv {cx:Cx} {f:FuncId} {b:Nat} {K:V→St→Prop} (S:MS) (args xs:List V) (Q:V→MS→Prop) (hC:cx.C f (.ptr 0 0 0::xs) (S.bs 0) (yaa 3 S.n) (QF MS.bs (3+S.n) Q))
  (ha:∀ (H:List Blk) (g:Nat→Option Nat),aN H g args∧wkL xs (aX H g args))
  (hbn:cx.bn=[]) (hfx:cx.fx=[])
  (h3:∀ (v:V) (S':MS),S'.n=S.n→Q v S'→(∀ f,ren f v=v)∧K v ⟨aB (yaa 5 S.n) e,D2 S',b⟩):cB cx f (.ptr 2 0 0::args) ⟨e,D2 S,b⟩ K:=Ti S args xs Q hC ha hbn hfx h3
theorem EA.kill (h:EA n l cs e) {M:List Nat} (hM:2∉M):EA n l cs (aB M e):=by
 refine ⟨by rw [aE,h.g1];rfl,by rw [aE,h.g2];rfl,by rw [aE,h.g7];rfl,?_⟩
 rw [aE,h.g8]
 simp only [Go.Fx.kill,if_neg hM]
theorem afV {sec:Nat} (h:sec<65536) (g0:get e 0=.v (.int .u16 sec)) (g1:get e 1=.ro 1 (l.map xF)) (g2:get e 2=.ro 64 (cs.map Sec.enc))
  (hN:∀ e b',EA (1+sec%400) l cs ((8,.ptr 2 0 0)::e)→N ⟨e,[],b'⟩):aw (cxN Tryd.prog []) (pt 1 c3) N Xx R ⟨e,[],0⟩:=by
 have htm:(sec:Int).tmod 400=((sec%400:Nat):Int):=by rw [ybf (by omega)];omega
 conv=>arg 2;whnf
 simp -implicitDefEqProofs only [rX,↓rY,aA,↓reduceIte,cxN,g0,htm]
 refine ⟨⟨by simp only [lo];omega,by simp only [hi];omega⟩,by decide,⟨by simp only [lo];omega,by simp only [hi];omega⟩,hN _ _ ⟨by exact g1,by exact g2,?_,rfl⟩⟩
 show V.i (1+((sec%400:Nat):Int))=.i ((1+sec%400:Nat):Int)
 rw [show (1:Int)+((sec%400:Nat):Int)=((1+sec%400:Nat):Int) by omega]
theorem afU (hn:1≤n∧n≤400) (hE:EA n l cs ((8,.ptr 2 0 0)::e))
  (hN:∀ e b',EA n l cs e→N ⟨e,D2 (Lf n).S,b'⟩):aw (cxN Tryd.prog []) (pt 2 c3) N Xx R ⟨e,[],bb⟩:=by
 have g7:get e 7=.i n:=hE.g7
 conv=>arg 2;whnf
 simp -implicitDefEqProofs only [rX,↓reduceIte,cxN,g7]
 refine xK [] n (by omega) rfl trivial ?_
 simp -implicitDefEqProofs only [rX,↓reduceIte]
 exact hN _ _ ⟨hE.g1,hE.g2,hE.g7,rfl⟩
theorem afT {S:MS} (hE:EA n l cs e)
  (hN:l.length≤20→∀ e b',EA n l cs e→N ⟨e,D2 S,b'⟩) (hR:R=cE [] 0 [.tmp 6] (Is (.b true))):aw (cxN Tryd.prog []) (pt 3 c3) N Xx R ⟨e,D2 S,bb⟩:=by
 have g1:=hE.g1
 have g8:=hE.g8
 subst hR
 conv=>arg 2;whnf
 simp -implicitDefEqProofs only [rX,↓rY,kh,aA,↓reduceIte,Nat.reduceEqDiff,↓qbA,cxN,g1,g8]
 intro _
 cases hd:decide ((20:Int)<(l.length:Int)) with
 | true =>
  rw [wd]
  refine bE ok5 ⟨trivial,trivial⟩ rfl trivial ?_
  simp -implicitDefEqProofs only [rX,↓rY,kh,aA,↓reduceIte,Nat.reduceEqDiff,a8,bF,wfV,↓qbA,g8]
 | false =>
  have:=of_decide_eq_false hd
  rw [we]
  exact hN (by omega) _ _ ⟨hE.g1,hE.g2,hE.g7,hE.g8⟩
theorem afS (hn:1≤n∧n≤400) (hl:l.length≤20) (h16:∀ x∈l,x<65536) (hE:EA n l cs e)
  (hN:∀ S e b',S.n=n→WrS n 20 S.D→EA n l cs e→N ⟨e,D2 S,b'⟩):aw (cxN Tryd.prog []) (pt 4 c3) N Xx R ⟨e,D2 (Lf n).S,bb⟩:=by
 conv=>arg 2;whnf
 simp -implicitDefEqProofs only [rX,aA,cxN]
 refine aZ (fun g:Nat × MS=>(⟨[(9,.i g.1),(1,.ro 1 (l.map xF)),(2,.ro 64 (cs.map Sec.enc)),(7,.i n),(8,.ptr 2 0 0)],D2 g.2,0⟩:St)) (fun g=>g.1≤l.length∧g.2.n=n∧WrS n g.1 g.2.D) (fun g=>l.length-g.1) (0,(Lf n).S) ⟨yap _,yai ..,WrS.new⟩ ?_ ?_
 ·exact ⟨⟨rfl,hE.g1,hE.g2,hE.g7,hE.g8,trivial⟩,aF _,trivial,⟨trivial,trivial,trivial,trivial,trivial,trivial⟩,Uu⟩
 ·rintro ⟨k,S⟩ ⟨hk,hSn,hw⟩
  simp only at hk hSn hw ⊢
  unfold c3l0
  simp -implicitDefEqProofs only [rX,↓rY,aA,↓reduceIte,Nat.reduceEqDiff,yau,yas,adD,bR,eE]
  intro hm
  cases h1:decide ((k:Int)<(l.length:Int)) with
  | false =>
   rw [we]
   exact hN S _ _ hSn ⟨hw.cells,hw.after,hw.dead,by have:=hw.steps;omega,fun i=>by have:=hw.op i;omega⟩ ⟨rfl,rfl,rfl,rfl⟩
  | true =>
   have hk2:k<l.length:=by have:=of_decide_eq_true h1;omega
   have hx:=h16 _ (yaW hk2)
   rw [wd]
   intro _
   cases h2:decide ((k:Int)<(cs.length:Int)) with
   | false =>
    rw [we]
    exact hN S _ _ hSn ⟨hw.cells,hw.after,hw.dead,by have:=hw.steps;omega,fun i=>by have:=hw.op i;omega⟩ ⟨rfl,rfl,rfl,rfl⟩
   | true =>
    have hk3:k<cs.length:=by have:=of_decide_eq_true h2;omega
    have htm:((l[k]:Nat):Int).tmod (n:Int)=((l[k]%n:Nat):Int):=by rw [ybf (by omega)];omega
    have hmn:l[k]%n<n:=Nat.mod_lt _ (by omega)
    rw [wd]
    refine ⟨⟨by omega,by omega⟩,hk2,⟨by simp only [lo];omega,by simp only [hi];omega⟩,by omega,⟨by omega,by omega⟩,hk3,?_⟩
    rw [htm]
    refine Gv S _ [.i ((l[k]%n:Nat):Int),.agg cs[k].enc] _ (nX (ok6 S ((l[k]%n:Nat):Int) cs[k] (by have:=hw.steps;omega) (by rw [hw.after];omega) (fun i=>by have:=hw.op i;omega))) (fun _ _=>⟨⟨trivial,gU.1,trivial⟩,rfl,gU.2,trivial⟩) rfl rfl ?_
    rintro v S' hn' ⟨hS',rfl⟩
    refine ⟨fun f=>rfl,?_⟩
    simp -implicitDefEqProofs only [rX,↓rY,aA,↓reduceIte,Nat.reduceEqDiff,leE,aJ,aC,wfE,wfV,aB,kill,St.kill]
    have h25:(2∈yaa 5 S.n)=False:=eq_false fun h=>by have:=yad.1 h;omega
    have hw':WrS n (k+1) S'.D:=by rw [hS'];exact hw.step S.ok.len hmn
    exact ⟨⟨by simp only [lo];omega,by simp only [hi];omega⟩,(k+1,S'),⟨⟨by show k+1≤_;omega,hn'.trans hSn,hw'⟩,by show l.length-(k+1)<_;omega⟩,⟨by show (k:Int)+1=((k+1:Nat):Int);omega,by rw [if_neg (by rw [h25];exact id)]⟩,aF _,trivial,Uu⟩
theorem afR {S:MS} (hn:1≤n∧n≤400) (hSn:S.n=n) (hw:WrS n 20 S.D) (hE:EA n l cs e)
  (hN:∀ (L:Lg) e b',L.cells.length=n→(∀ c∈L.cells,c.bad=false)→L.steps≤21→EA n l cs e→N ⟨e,D2 L.S,b'⟩):aw (cxN Tryd.prog []) (pt 5 c3) N Xx R ⟨e,D2 S,bb⟩:=by
 have g8:=hE.g8
 conv=>arg 2;whnf
 simp -implicitDefEqProofs only [rX,↓reduceIte,cxN,g8]
 refine Gv S [] [] _ (nX (ok7 S (by have:=hw.steps;omega) (by rw [hw.after];omega))) (fun _ _=>⟨trivial,trivial⟩) rfl rfl ?_
 rintro v S' hn' ⟨hS',rfl⟩
 refine ⟨fun f=>rfl,?_⟩
 obtain ⟨L,rfl,h1,h2,h3⟩:=hw.sync (by omega) hS'
 have hK:=hE.kill (M:=yaa 5 S.n) (fun h=>by have:=yad.1 h;omega)
 simp -implicitDefEqProofs only [rX,aB,kill,St.kill]
 exact hN L _ _ h1 h2 h3 ⟨hK.g1,hK.g2,hK.g7,by show get _ 8=_;exact hK.g8⟩
theorem afQ {L:Lg} (hE:EA n l cs e)
  (hN:∀ e b',EA n l cs e→get e 10=.i L.steps→N ⟨e,D2 L.S,b'⟩):aw (cxN Tryd.prog []) (pt 6 c3) N Xx R ⟨e,D2 L.S,bb⟩:=by
 have g8:=hE.g8
 conv=>arg 2;whnf
 simp -implicitDefEqProofs only [rX,↓reduceIte,cxN,g8]
 refine Gv L.S [] [] _ (nX (ok8 L.S)) (fun _ _=>⟨trivial,trivial⟩) rfl rfl ?_
 rintro v S' hn' ⟨rfl,rfl⟩
 refine ⟨fun f=>rfl,?_⟩
 have hK:=hE.kill (M:=yaa 5 L.S.n) (fun h=>by have:=yad.1 h;omega)
 simp -implicitDefEqProofs only [rX,↓reduceIte,aB,kill,St.kill]
 exact hN _ _ ⟨hK.g1,hK.g2,hK.g7,by show get _ 8=_;exact hK.g8⟩ rfl
structure EB (n:Nat) (st:Nat) (e:Env):Prop where
 g7:get e 7=.i n
 g8:get e 8=.ptr 2 0 0
 g10:get e 10=.i st
 g11:get e 11=.ptr (2+n+4) 0 0
abbrev oZ (L:Lg):List Blk:=oA [.dead,.dead] L
theorem Yz {L:Lg} (hn:1≤n∧n≤400) (hc:L.cells.length=n) (hb:∀ c∈L.cells,c.bad=false) (hst:L.steps≤21) (hE:EA n l cs e) (g10:get e 10=.i L.steps) (hR:R=cE [] 0 [.tmp 6] (Is (.b true)))
  (hN:∀ L2 e b',129≤n→Op0 n L2→L2.steps=L.steps→EB n L.steps e→get e 12=.i 0→N ⟨e,oZ L2,b'⟩):aw (cxN Tryd.prog []) (.seq (pt 7 c3) (pt 8 c3)) N Xx R ⟨e,D2 L.S,bb⟩:=by
 have g8:=hE.g8
 have g7:=hE.g7
 have hln:L.n=n:=hc
 subst hR
 rw [zb]
 conv=>arg 2;whnf
 simp -implicitDefEqProofs only [rX,↓reduceIte,cxN,g8]
 have m2:(2∈yaa (2+3) L.n)=False:=eq_false fun h=>by have:=yad.1 h;omega
 have k8:get (aB (yaa (2+3) L.n) e) 8=.ptr 2 0 0:=by rw [aE,g8];simp only [kill,m2,if_false]
 have k7:get (aB (yaa (2+3) L.n) e) 7=.i n:=by rw [aE,g7];rfl
 have k10:get (aB (yaa (2+3) L.n) e) 10=.i L.steps:=by rw [aE,g10];rfl
 refine nR [.dead,.dead] L (by omega) hb rfl rfl (by intro k hk;cases hk) rfl (fun h1=>⟨trivial,?_⟩) fun h1 fd hfd=>⟨trivial,?_⟩
 ·simp -implicitDefEqProofs only [rX,↓rY,↓reduceIte,Nat.reduceEqDiff,Nat.reduceAdd,aB,kill,St.kill,m2]
  conv=>arg 2;whnf
  simp -implicitDefEqProofs only [rX,↓rY,aA,↓reduceIte,Nat.reduceEqDiff,k7]
  rw [decide_eq_true (by omega:(n:Int)<129),wd]
  refine bE ok5 ⟨trivial,trivial⟩ rfl trivial ?_
  simp -implicitDefEqProofs only [rX,↓rY,aA,↓reduceIte,Nat.reduceEqDiff,a8,bF,wfV]
  rfl
 ·simp -implicitDefEqProofs only [rX,↓rY,↓reduceIte,Nat.reduceEqDiff,Nat.reduceAdd,aB,kill,St.kill,m2]
  conv=>arg 2;whnf
  simp -implicitDefEqProofs only [rX,↓rY,aA,↓reduceIte,Nat.reduceEqDiff,k7]
  rw [decide_eq_false (by omega:¬(n:Int)<129),we]
  rw [hc] at hfd
  obtain ⟨o1,o2⟩:=aaW hc hb hfd
  exact hN (L.opn fd) _ _ (by omega) o1 o2 ⟨by exact k7,by exact k8,by exact k10,by show V.ptr (2+L.n+4) 0 0=_;rw [hln]⟩ rfl
end
set_option maxRecDepth 20000
abbrev MZ (n:Nat):List Nat:=yaa 5 n++[2+n+5]
theorem pO {n j:Nat} (h:j<5∨j=n+5∨j=n+6∨n+8≤j):(j∈MZ n)=False:=eq_false fun hm=>by
 simp only [yaw,yad,yat] at hm
 omega
theorem EB.kill {n st:Nat} {e:Env} (h:EB n st e):EB n st (aB (MZ n) e):=by
 have m2:=pO (n:=n) (j:=2) (by omega)
 have m6:=pO (n:=n) (j:=2+n+4) (by omega)
 refine ⟨by rw [aE,h.g7];rfl,?_,by rw [aE,h.g10];rfl,?_⟩
 ·rw [aE,h.g8];simp only [Go.Fx.kill,m2,if_false]
 ·rw [aE,h.g11];simp only [Go.Fx.kill,m6,if_false]
theorem adF:Clo [.dead,.dead]:=fun M _=>rfl
theorem Ky {L:Lg}:wfB (oZ L) (oZ L):=aaX (A:=[.dead,.dead]) (L:=L) (p:=2) rfl
theorem sL {L:Lg} {n:Nat} (hn:L.n=n):aC (oZ L) 2∧aC (oZ L) (2+n+4):=by
 subst hn
 exact ⟨pL (A:=[.dead,.dead]) (p:=2) rfl (.inl rfl),pL (A:=[.dead,.dead]) (p:=2) rfl (.inr (.inr (.inl rfl)))⟩
section
variable {cx:Cx} {f:FuncId} {b n:Nat} {e:Env} {K:V→St→Prop}
theorem Py (L:Lg) (B:List Blk) (args xs:List V) (Q:V→Lg→Prop) (hn:L.n=n) (hC:cx.C f (.ptr 0 0 0::xs) (L.bs 0) (yaa 5 (L.n+1)) (QF Lg.bs (5+(L.n+1)) Q))
  (ha:∀ (H:List Blk) (g:Nat→Option Nat),aN H g args∧wkL xs (aX H g args))
  (hbn:cx.bn=[]) (hfx:cx.fx=[]) (d:Nat) (hb:b=(oZ L).length+d)
  (hB:∀ M:List Nat,B.map (aD M)=B)
  (h3:∀ (r:V) (L':Lg),L'.n=n→Q r L'→(∀ f,ren f r=r)∧K r ⟨aB (MZ n) e,oZ L'++B,(oZ L').length+d⟩):cB cx f (.ptr (2+n+4) 0 0::args) ⟨e,oZ L++B,b⟩ K:=by
 subst hn
 exact uK [.dead,.dead] B L args xs Q hC ha (by rw [hbn];simp) hfx adF (fun M _=>hB M) fun r L' h1 h2=>by
  obtain ⟨q1,q2⟩:=h3 r L' h1 h2
  refine ⟨q1,?_⟩
  have hl:b=(oZ L').length+d:=by
   rw [hb]
   show (oA _ L).length+d=(oA _ L').length+d
   rw [gD,gD,h1]
  rw [hl]
  exact q2
theorem gR (L:Lg) (args xs:List V) (Q:V→Lg→Prop) (hn:L.n=n) (hC:cx.C f (.ptr 0 0 0::xs) (L.bs 0) (yaa 5 (L.n+1)) (QF Lg.bs (5+(L.n+1)) Q))
  (ha:∀ (H:List Blk) (g:Nat→Option Nat),aN H g args∧wkL xs (aX H g args))
  (hbn:cx.bn=[]) (hfx:cx.fx=[])
  (h3:∀ (r:V) (L':Lg),L'.n=n→Q r L'→(∀ f,ren f r=r)∧K r ⟨aB (MZ n) e,oZ L',b⟩):cB cx f (.ptr (2+n+4) 0 0::args) ⟨e,oZ L,b⟩ K:=by
 subst hn
 have:=uK (cx:=cx) (f:=f) (b:=b) (K:=K) (e:=e) [.dead,.dead] [] L args xs Q hC ha (by rw [hbn];simp) hfx adF (fun M _=>rfl) fun r L' h1 h2=>by
  obtain ⟨q1,q2⟩:=h3 r L' h1 h2
  refine ⟨q1,?_⟩
  rw [yac]
  exact q2
 rw [yac] at this
 exact this
theorem Tg (L:Lg) (hn:L.n=n) (hC:cx.C=C0 Tryd.prog) (hbn:cx.bn=[]) (hfx:cx.fx=[])
  (h3:K (.i L.steps) ⟨aB (yaa 5 n) e,oZ L,b⟩):cB cx 8 [.ptr 2 0 0] ⟨e,oZ L,b⟩ K:=by
 subst hn
 have e1:oZ L=[.dead,.dead]++(L.S.bs 2++o3 L 2):=rfl
 rw [e1]
 refine lA MS.bs 3 L.S.n (fun g hg p q f hf=>eQ g.ok (by
  have h1:=hg 0
  rw [g.len] at h1
  intro j hj
  have hj2:j<3+g.n:=hj
  exact hf j (by omega))) [.dead,.dead] (o3 L 2) L.S (fun p=>L.S.len) (by decide) [] [] _ (by rw [hC];exact nX (ok8 L.S)) ⟨trivial,trivial⟩ (by rw [hbn];simp) (by rw [hfx];simp) rfl ?_ ?_
 ·have hm:∀ k,k<5∨5+L.n≤k→(k∈yaa (2+3) L.n)=False:=fun k hk=>eq_false fun h=>by have:=yad.1 h;omega
  have h1:=hm 2 (by omega)
  have h2:=hm (2+L.cells.length+3) (by have:L.n=L.cells.length:=rfl;omega)
  have h3:=hm (2+L.cells.length+5) (by have:L.n=L.cells.length:=rfl;omega)
  show (o3 L 2).map (aD (yaa (2+3) L.n))=_
  unfold o3
  simp only [yah,yan,oN,oM]
  simp only [aD,bK,kill,h1,h2,h3,if_false]
 ·rintro v S'-⟨rfl,rfl⟩
  exact ⟨fun f=>rfl,by rw [hfx];trivial,h3⟩
end
section
variable {N R:St→Prop} {Xx:Nat→St→Prop} {bb n st:Nat} {e:Env} {L:Lg}
theorem afP (hn:129≤n∧n≤400) (h:Op0 n L) (hst:L.steps=st) (hE:EB n st e) (g12:get e 12=.i 0)
  (hN:∀ e b',EB n st e→N ⟨e,oZ L,b'⟩):aw (cxN Tryd.prog []) (pt 9 c3) N Xx R ⟨e,oZ L,bb⟩:=by
 have hnn:L.n=n:=h.cn
 have g8:=hE.g8
 conv=>arg 2;whnf
 simp -implicitDefEqProofs only [rX,↓rY,aA,↓reduceIte,Nat.reduceEqDiff,cxN,g8,g12]
 rw [show ((0:Int) != 0)=false from rfl,we]
 refine Tg L hnn rfl rfl rfl ?_
 have m2:(2∈yaa 5 n)=False:=eq_false fun h=>by have:=yad.1 h;omega
 have m6:(2+n+4∈yaa 5 n)=False:=eq_false fun h=>by have:=yad.1 h;omega
 have k10:get (aB (yaa 5 n) e) 10=.i st:=by rw [aE,hE.g10];rfl
 have k11:get (aB (yaa 5 n) e) 11=.ptr (2+n+4) 0 0:=by rw [aE,hE.g11];simp only [kill,m6,if_false]
 have k8:get (aB (yaa 5 n) e) 8=.ptr 2 0 0:=by rw [aE,hE.g8];simp only [kill,m2,if_false]
 have k7:get (aB (yaa 5 n) e) 7=.i n:=by rw [aE,hE.g7];rfl
 simp -implicitDefEqProofs only [rX,↓rY,aA,↓reduceIte,Nat.reduceEqDiff,aB,kill,St.kill,m2,k10,k11,hst]
 rw [show ((st:Int) != (st:Int))=false by simp,we]
 refine gR L [] [] _ hnn (Nl L) (fun _ _=>⟨trivial,trivial⟩) rfl rfl ?_
 rintro r L'-⟨rfl,rfl⟩
 refine ⟨fun f=>rfl,?_⟩
 have hK:=(⟨k7,k8,k10,k11⟩:EB n st (aB (yaa 5 n) e)).kill
 have hk7:=hK.g7
 have htd:(n:Int).tdiv 129=((n/129:Nat):Int):=by rw [yaY (by omega)];omega
 have z2:=pO (n:=n) (j:=2) (by omega)
 have z6:=pO (n:=n) (j:=2+n+4) (by omega)
 simp -implicitDefEqProofs only [rX,↓rY,aA,↓reduceIte,Nat.reduceEqDiff,aB,kill,St.kill,z2,z6,hk7,htd,h.gl]
 rw [show (((n/129:Nat):Int) != ((n/129:Nat):Int))=false by simp,we]
 exact ⟨by decide,⟨by simp only [lo];omega,by simp only [hi];omega⟩,hN _ _ ⟨hK.g7,hK.g8,hK.g10,hK.g11⟩⟩
theorem Zf (hn:129≤n∧n≤400) (h:Op0 n L) (hE:EB n st e)
  (hN:∀ e b',get e 11=.ptr (2+n+4) 0 0→get e 13=.ro 4 (L.found.map Ck.enc)→N ⟨e,oZ L,b'⟩):aw (cxN Tryd.prog []) (pt 10 c3) N Xx R ⟨e,oZ L,bb⟩:=by
 have hnn:L.n=n:=h.cn
 have g11:=hE.g11
 have hfl:=h.fl
 conv=>arg 2;whnf
 simp -implicitDefEqProofs only [rX,↓reduceIte,cxN,g11]
 refine gR L [] [] _ hnn (Fy L (by omega)) (fun _ _=>⟨trivial,trivial⟩) rfl rfl ?_
 rintro r L'-⟨rfl,rfl⟩
 refine ⟨fun f=>rfl,?_⟩
 simp -implicitDefEqProofs only [rX,↓reduceIte,aB,kill,St.kill]
 exact hN _ _ hE.kill.g11 rfl
theorem Ze (hn:129≤n∧n≤400) (h:Op0 n L) (g11:get e 11=.ptr (2+n+4) 0 0) (g13:get e 13=.ro 4 (L.found.map Ck.enc))
  (hN:∀ e b',get e 11=.ptr (2+n+4) 0 0→N ⟨e,oZ L,b'⟩):aw (cxN Tryd.prog []) (pt 11 c3) N Xx R ⟨e,oZ L,bb⟩:=by
 have hnn:L.n=n:=h.cn
 have hfl:=h.fl
 have z2:=pO (n:=n) (j:=2) (by omega)
 have z6:=pO (n:=n) (j:=2+n+4) (by omega)
 conv=>arg 2;whnf
 simp -implicitDefEqProofs only [rX,aA,cxN]
 refine aZ (fun k:Nat=>(⟨[(14,.i k),(13,.ro 4 (L.found.map Ck.enc)),(11,.ptr (2+n+4) 0 0)],oZ L,0⟩:St)) (fun k=>k≤L.found.length) (fun k=>L.found.length-k) 0 (yap _) ?_ ?_
 ·exact ⟨⟨rfl,g13,g11,trivial⟩,aF _,trivial,⟨trivial,trivial,(sL hnn).2,trivial⟩,Ky⟩
 ·intro k hk
  unfold c3l1
  simp -implicitDefEqProofs only [rX,↓rY,↓reduceIte,Nat.reduceEqDiff,Nat.reduceLeDiff,yau,yas,sE]
  intro hm
  cases h1:decide ((k:Int)<(L.found.length:Int)) with
  | false =>
   rw [we]
   exact hN _ _ rfl
  | true =>
   have hk2:k<L.found.length:=by have:=of_decide_eq_true h1;omega
   obtain ⟨⟨hr,hsl⟩,hro⟩:=h.rd (by omega) (yaW hk2)
   rw [wd]
   refine ⟨⟨by omega,by omega⟩,hk2,?_⟩
   refine gR L [.agg (yay 3 L.found[k].enc)] [.agg [.i L.found[k].seg,.i L.found[k].slot,.i L.found[k].seq]] _ hnn (abV L _ _ _ (by omega) fun _=>⟨hr,hsl⟩) (fun _ _=>⟨⟨⟨trivial,trivial,trivial,trivial⟩,trivial⟩,⟨rfl,rfl,rfl,trivial⟩,trivial⟩) rfl rfl ?_
   rintro r L'-⟨rfl,rfl⟩
   refine ⟨fun f=>rfl,?_⟩
   unfold rdV
   rw [hro]
   simp -implicitDefEqProofs only [rX,↓rY,aA,↓reduceIte,Nat.reduceEqDiff,leE,aJ,aC,wfE,wfV,aB,kill,St.kill,z6]
   rw [show ((0:Int) != 0)=false from rfl,we]
   exact ⟨⟨by simp only [lo];omega,by simp only [hi];omega⟩,k+1,⟨by omega,by omega⟩,by show (k:Int)+1=((k+1:Nat):Int);omega,aF _,(sL hnn).2,Ky⟩
theorem Zd (hn:129≤n∧n≤400) (h:DI n L 0) (g11:get e 11=.ptr (2+n+4) 0 0)
  (hN:∀ L e b',DI n L (n/129)→get e 11=.ptr (2+n+4) 0 0→N ⟨e,oZ L,b'⟩):aw (cxN Tryd.prog []) (pt 12 c3) N Xx R ⟨e,oZ L,bb⟩:=by
 have z2:=pO (n:=n) (j:=2) (by omega)
 have z6:=pO (n:=n) (j:=2+n+4) (by omega)
 conv=>arg 2;whnf
 simp -implicitDefEqProofs only [rX,aA,cxN]
 refine aZ (fun g:Nat × Lg=>(⟨[(18,.i g.1),(11,.ptr (2+n+4) 0 0)],oZ g.2,0⟩:St)) (fun g=>g.1≤n/129∧DI n g.2 g.1) (fun g=>n/129-g.1) (0,L) ⟨yap _,h⟩ ?_ ?_
 ·exact ⟨⟨rfl,g11,trivial⟩,aF _,trivial,⟨trivial,(sL h.cn).2,trivial⟩,Ky⟩
 ·rintro ⟨k,L1⟩ ⟨hk,hI⟩
  simp only at hk hI ⊢
  have hnn:L1.n=n:=hI.cn
  unfold c3l2
  simp -implicitDefEqProofs only [rX,↓reduceIte,Nat.reduceEqDiff]
  refine gR L1 [] [] _ hnn (Nl L1) (fun _ _=>⟨trivial,trivial⟩) rfl rfl ?_
  rintro r L'-⟨rfl,rfl⟩
  refine ⟨fun f=>rfl,?_⟩
  simp -implicitDefEqProofs only [rX,↓rY,↓reduceIte,Nat.reduceEqDiff,aB,kill,St.kill,z6,hI.gl]
  cases h1:decide ((k:Int)<((n/129:Nat):Int)) with
  | false =>
   have:k=n/129:=by have:=of_decide_eq_false h1;omega
   subst this
   rw [we]
   exact hN _ _ _ hI rfl
  | true =>
   have hk2:k<n/129:=by have:=of_decide_eq_true h1;omega
   rw [wd]
   refine gR L' [.i k] [.i k] _ hnn (abU L' (k:Int) (hI.Sm (by omega) (by omega))) (fun _ _=>⟨⟨trivial,trivial⟩,rfl,trivial⟩) rfl rfl ?_
   rintro r L2 hn2 (⟨q1,-,-⟩|⟨q1,rfl,c,c',rfl⟩)
   ·exact absurd ⟨by omega,by rw [hI.gl];omega⟩ q1
   refine ⟨fun f=>rfl,?_⟩
   simp -implicitDefEqProofs only [rX,↓rY,aA,↓reduceIte,Nat.reduceEqDiff,leE,aJ,aC,wfE,wfV,aB,kill,St.kill,yas,z6]
   rw [show ((0:Int) != 0)=false from rfl,we]
   have hI2:=hI.drop (c:=c) (c':=c')
   exact ⟨⟨by simp only [lo];omega,by simp only [hi];omega⟩,(k+1,_),⟨⟨by show k+1≤_;omega,hI2⟩,by show n/129-(k+1)<_;omega⟩,by show (k:Int)+1=((k+1:Nat):Int);omega,aF _,(sL hn2).2,Ky⟩
theorem Zc (hn:129≤n∧n≤400) (h:DI n L (n/129)) (g11:get e 11=.ptr (2+n+4) 0 0)
  (hN:∀ e b',get e 11=.ptr (2+n+4) 0 0→N ⟨e,oZ L,b'⟩):aw (cxN Tryd.prog []) (pt 13 c3) N Xx R ⟨e,oZ L,bb⟩:=by
 have hnn:L.n=n:=h.cn
 have hf:=h.none
 have z2:=pO (n:=n) (j:=2) (by omega)
 have z6:=pO (n:=n) (j:=2+n+4) (by omega)
 have kk:∀ {e:Env},get e 11=.ptr (2+n+4) 0 0→get (aB (MZ n) e) 11=.ptr (2+n+4) 0 0:=fun g=>kE _ z6 g
 conv=>arg 2;whnf
 simp -implicitDefEqProofs only [rX,↓reduceIte,cxN,g11]
 refine gR L [] [] _ hnn (Fy L (by rw [hf];decide)) (fun _ _=>⟨trivial,trivial⟩) rfl rfl ?_
 rintro r L'-⟨rfl,rfl⟩
 refine ⟨fun f=>rfl,?_⟩
 have a1:=kk g11
 simp -implicitDefEqProofs only [rX,↓rY,aA,↓reduceIte,Nat.reduceEqDiff,aB,kill,St.kill,z6,a1,hf]
 intro _
 rw [show (((0:Nat):Int) != 0)=false from rfl,we]
 refine gR L' [] [] _ hnn (Wf L' (by rw [hf];decide) (by rw [h.gl];omega)) (fun _ _=>⟨trivial,trivial⟩) rfl rfl ?_
 rintro r L2-⟨rfl,rfl⟩
 refine ⟨fun f=>rfl,?_⟩
 have a2:=kk a1
 simp -implicitDefEqProofs only [rX,↓rY,↓reduceIte,Nat.reduceEqDiff,aB,kill,St.kill,z6,a2]
 refine gR L2 [] [] _ hnn (Nl L2) (fun _ _=>⟨trivial,trivial⟩) rfl rfl ?_
 rintro r L3-⟨rfl,rfl⟩
 refine ⟨fun f=>rfl,?_⟩
 have a3:=kk a2
 have hA:=h.ai (by omega)
 have hfr:L3.freeN L3.gens.length=L3.gens.length:=by
  unfold Lg.freeN
  rw [List.filter_eq_self.2 fun i _=>by rw [hA.free];simp,List.length_range]
 simp -implicitDefEqProofs only [rX,↓rY,aA,↓reduceIte,Nat.reduceEqDiff,aB,kill,St.kill,z6,hfr]
 rw [show (((L3.gens.length:Nat):Int) != ((L3.gens.length:Nat):Int))=false by simp,we]
 exact hN _ _ (by exact a3)
def ak:Bs:=[107]
def av:Bs:=[118]
theorem Zb (hn:129≤n∧n≤400) (h:AI n L 0) (g11:get e 11=.ptr (2+n+4) 0 0)
  (hN:∀ L e b',AI n L (16*(n/129))→get e 11=.ptr (2+n+4) 0 0→N ⟨e,oZ L,b'⟩):aw (cxN Tryd.prog []) (pt 14 c3) N Xx R ⟨e,oZ L,bb⟩:=by
 have z2:=pO (n:=n) (j:=2) (by omega)
 have z6:=pO (n:=n) (j:=2+n+4) (by omega)
 conv=>arg 2;whnf
 simp -implicitDefEqProofs only [rX,aA,cxN]
 refine aZ (fun g:Nat × Lg=>(⟨[(19,.i g.1),(11,.ptr (2+n+4) 0 0)],oZ g.2,0⟩:St)) (fun g=>g.1≤16*(n/129)∧AI n g.2 g.1) (fun g=>16*(n/129)-g.1) (0,L) ⟨yap _,h⟩ ?_ ?_
 ·exact ⟨⟨rfl,g11,trivial⟩,aF _,trivial,⟨trivial,(sL h.cn).2,trivial⟩,Ky⟩
 ·rintro ⟨k,L1⟩ ⟨hk,hI⟩
  simp only at hk hI ⊢
  have hnn:L1.n=n:=hI.cn
  unfold c3l3
  simp -implicitDefEqProofs only [rX,↓reduceIte,Nat.reduceEqDiff]
  refine gR L1 [] [] _ hnn (Nl L1) (fun _ _=>⟨trivial,trivial⟩) rfl rfl ?_
  rintro r L'-⟨rfl,rfl⟩
  refine ⟨fun f=>rfl,?_⟩
  simp -implicitDefEqProofs only [rX,↓rY,aA,↓reduceIte,Nat.reduceEqDiff,aB,kill,St.kill,z6,hI.gl]
  refine ⟨⟨by simp only [lo];omega,by simp only [hi];omega⟩,?_⟩
  cases h1:decide ((k:Int)<16*((n/129:Nat):Int)) with
  | false =>
   have:k=16*(n/129):=by have:=of_decide_eq_false h1;omega
   subst this
   rw [we]
   exact hN _ _ _ hI rfl
  | true =>
   have hk2:k<16*(n/129):=by have:=of_decide_eq_true h1;omega
   rw [wd]
   refine Py L' [.dead] [sv ak,sv av] [sv ak,sv av] _ hnn (hI.apd (by omega) hk2 (by decide) (by decide)) (fun _ _=>⟨⟨trivial,trivial,trivial⟩,⟨rfl,rfl,trivial⟩⟩) rfl rfl 0 rfl (fun _=>rfl) ?_
   rintro r L2 hn2 ⟨a,b,c,rfl,hI2⟩
   refine ⟨fun f=>rfl,?_⟩
   simp -implicitDefEqProofs only [rX,↓rY,aA,cells?,splice,↓reduceIte,Nat.reduceEqDiff,Nat.reduceAdd,aG,leE,aJ,aC,wfE,wfV,aB,kill,St.kill,isC,z6,w3,Ho]
   rw [show ((0:Int) != 0)=false from rfl,we]
   exact ⟨⟨by simp only [lo];omega,by simp only [hi];omega⟩,(k+1,L2),⟨⟨by show k+1≤_;omega,hI2⟩,by show 16*(n/129)-(k+1)<_;omega⟩,by show (k:Int)+1=((k+1:Nat):Int);omega,cX,(sL hn2).2,Ky⟩
theorem Za (hn:129≤n∧n≤400) (h:AI n L (16*(n/129))) (g11:get e 11=.ptr (2+n+4) 0 0) :
  aw (cxN Tryd.prog []) (rt 15 c3) (cE [] 0 [.tmp 6] (Is (.b true))) (fun _ _=>False) (cE [] 0 [.tmp 6] (Is (.b true))) ⟨e,oZ L,bb⟩:=by
 have hnn:L.n=n:=h.cn
 have z2:=pO (n:=n) (j:=2) (by omega)
 have z6:=pO (n:=n) (j:=2+n+4) (by omega)
 conv=>arg 2;whnf
 simp -implicitDefEqProofs only [rX,aA,↓reduceIte,cxN,g11]
 refine Py L [.dead] [sv ak,sv av] [sv ak,sv av] _ hnn (h.apn hn (by decide) (by decide)) (fun _ _=>⟨⟨trivial,trivial,trivial⟩,⟨rfl,rfl,trivial⟩⟩) rfl rfl 0 rfl (fun _=>rfl) ?_
 rintro r L2 hn2 ⟨rfl,rfl⟩
 refine ⟨fun f=>rfl,?_⟩
 simp -implicitDefEqProofs only [rX,↓rY,aA,cells?,splice,↓reduceIte,Nat.reduceEqDiff,Nat.reduceAdd,aG,aB,kill,St.kill,isC,z6,w3,Ho]
 refine bE ok5 ⟨trivial,trivial⟩ rfl trivial ?_
 simp -implicitDefEqProofs only [rX,↓rY,aA,↓reduceIte,Nat.reduceEqDiff,a8,bF,wfV]
 rfl
theorem ok3 (sec:Nat) (hsec:sec<65536) (l:List Nat) (h16:∀ x∈l,x<65536) (cs:List Sec):Ok 3 [.v (.int .u16 sec),.ro 1 (l.map xF),.ro 64 (cs.map Sec.enc)] (Is (.b true)):=by
 refine dX lw3 (by simp) ?_
 rw [c3_parts]
 simp only [zb]
 conv=>arg 2;whnf
 simp -implicitDefEqProofs only [rX,aA,Nat.reduceAdd,cxN,aV]
 have hn:1≤1+sec%400∧1+sec%400≤400:=by omega
 refine afV hsec rfl rfl rfl fun e b hE=>?_
 rw [zb]
 refine afU hn hE fun e b hE=>?_
 rw [zb]
 refine afT hE (fun hl e b hE=>?_) rfl
 rw [zb]
 refine afS hn hl h16 hE fun S e b hSn hw hE=>?_
 rw [zb]
 refine afR hn hSn hw hE fun L e b hc hbd hst hE=>?_
 rw [zb]
 refine afQ hE fun e b hE g10=>?_
 have h78:=Yz (N:=fun s=>aw (cxN Tryd.prog []) (.seq (pt 9 c3) (.seq (pt 10 c3) (.seq (pt 11 c3) (.seq (pt 12 c3) (.seq (pt 13 c3) (.seq (pt 14 c3) (rt 15 c3))))))) (cE [] 0 [.tmp 6] (Is (.b true))) (fun _ _=>False) (cE [] 0 [.tmp 6] (Is (.b true))) s) (Xx:=fun _ _=>False) (bb:=b) hn hc hbd hst hE g10 rfl fun L2 e b h129 hO hs2 hB g12=>?_
 ·rw [zb] at h78 ⊢
  exact h78
 ·rw [zb]
  refine afP ⟨h129,hn.2⟩ hO hs2 hB g12 fun e b hB=>?_
  rw [zb]
  refine Zf ⟨h129,hn.2⟩ hO hB fun e b g11 g13=>?_
  rw [zb]
  refine Ze ⟨h129,hn.2⟩ hO g11 g13 fun e b g11=>?_
  rw [zb]
  refine Zd ⟨h129,hn.2⟩ (hO.di (by omega)) g11 fun L3 e b hD g11=>?_
  rw [zb]
  refine Zc ⟨h129,hn.2⟩ hD g11 fun e b g11=>?_
  rw [zb]
  refine Zb ⟨h129,hn.2⟩ (hD.ai hn.2) g11 fun L4 e b hA g11=>?_
  exact Za ⟨h129,hn.2⟩ hA g11
end
set_option maxRecDepth 20000
theorem acP {f:FuncId} {xs:List V} (h:Ok f xs (Is (.b true))):Fn Tryd.prog f xs [] [] (fun r _=>r=.b true):=(fB h fun r h' hr=>hr.1).2
theorem Ff {k:IntKind} (hk:lo k=0) {x:List V} (h:WfT (.int k) x):∃ n:Nat,x=[.v (.int k n)]∧(n:Int)≤hi k:=by
 obtain ⟨n,h1,h2,h3⟩:∃ n:Int,x=[.v (.int k n)]∧lo k≤n∧n≤hi k:=by simpa only [WfT] using h
 obtain ⟨m,rfl⟩:=Int.eq_ofNat_of_zero_le (show 0≤n by omega)
 exact ⟨m,h1,h3⟩
theorem Qt {t:Fx.T} {ts:List Fx.T} {x:List V} (h:yC (t::ts) x):∃ a b,x=a++b∧WfT t a∧yC ts b:=by
 rwa [yC.eq_2] at h
theorem exM {α β:Type} {g:α→β} {p:α→Prop}:∀ {els:List β},(∀ x∈els,∃ a,x=g a∧p a)→∃ l:List α,els=l.map g∧∀ a∈l,p a
 | [],_=>⟨[],rfl,by simp⟩
 | x::r,h=>by
  obtain ⟨a,rfl,ha⟩:=h x List.mem_cons_self
  obtain ⟨l,rfl,hl⟩:=exM (els:=r) fun y hy=>h y (List.mem_cons_of_mem _ hy)
  exact ⟨a::l,rfl,fun b hb=>(List.mem_cons.1 hb).elim (fun e=>e▸ha) (hl b)⟩
theorem Lr:∀ {n:Nat} {x:List V},yC (yab n (.int .u8)) x→∃ l:List By,l.length=n∧x=l.map xD
 | 0,x,h=>⟨[],rfl,by simpa [yC] using h⟩
 | n+1,x,h=>by
  rw [yaK] at h
  obtain ⟨_,_,rfl,q0,hr⟩:=Qt h
  obtain ⟨m,rfl,h0⟩:=Ff rfl q0
  obtain ⟨l,rfl,rfl⟩:=Lr hr
  have hm:m<256:=by
   have:(m:Int)≤255:=h0
   omega
  refine ⟨yaX 8 m::l,rfl,?_⟩
  have e:(yaX 8 m).toNat=m:=by simp;omega
  show V.v (.int .u8 m)::_=xD (yaX 8 m)::_
  unfold xD
  rw [e];rfl
theorem Uy {x:List V} (h:WfT (.st (yab 64 (.int .u8))) x):∃ s:Sec,x=s.enc:=by
 rw [WfT] at h
 obtain ⟨l,h1,rfl⟩:=Lr h
 exact ⟨⟨l,h1⟩,rfl⟩
abbrev Ye:Fx.T:=.sl 64 (.st (yab 64 (.int .u8)))
theorem fn3:∀ xs,WfA [.int .u16,.sl 1 (.int .u16),Ye] xs→Fn Tryd.prog 3 xs [] [] (fun r _=>r=.b true):=by
 intro xs h
 obtain ⟨x1,_,rfl,h1,x2,_,rfl,h2,x3,_,rfl,h3,h⟩:=h
 obtain rfl:_=[]:=h
 obtain ⟨n,hn,hb⟩:=Ff rfl (show WfT (.int .u16) [x1] from h1)
 have a1:(n:Int)≤65535:=hb
 obtain rfl:x1=.v (.int .u16 n):=by simpa using hn
 have h2':WfT (.sl 1 (.int .u16)) [x2]:=h2
 rw [WfT] at h2'
 obtain ⟨els,e1,_,he⟩:=h2'
 obtain ⟨l,rfl,hl⟩:=exM (g:=xF) (p:=fun x:Nat=>x<65536) fun x hx=>by
  obtain ⟨m,rfl,hm⟩:=Ff rfl (he x hx)
  have:(m:Int)≤65535:=hm
  exact ⟨m,rfl,by show m<65536;omega⟩
 obtain rfl:x2=.ro 1 (l.map xF):=by simpa using e1
 have h3':WfT Ye [x3]:=h3
 rw [WfT] at h3'
 obtain ⟨els,e3,_,he3⟩:=h3'
 obtain ⟨cs,rfl,_⟩:=exM (g:=Sec.enc) (p:=fun _=>True) fun x hx=>(Uy (he3 x hx)).imp fun a e=>⟨e,trivial⟩
 obtain rfl:x3=.ro 64 (cs.map Sec.enc):=by simpa using e3
 exact acP (ok3 n (by omega) l hl cs)
end Go.Fx.K
