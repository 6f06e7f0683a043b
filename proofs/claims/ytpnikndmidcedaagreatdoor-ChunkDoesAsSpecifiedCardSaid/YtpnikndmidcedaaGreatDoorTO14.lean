import Derived.Test.YtpnikndmidcedaaGreatDoorTL20
import Derived.Test.YtpnikndmidcedaaGreatDoorKLow1
import Derived.Shelf.SlSortCmp.WholeK
import Derived.Shelf.SlSortCmp.NoneTotal
import Derived.Shelf.Sort.Plain
import Derived.Ground.Names2Prog
import Derived.Shelf.Slices.In.SortNone
import Derived.Shelf.SlGeneric
import Derived.Shelf.SlLaysF0
import Derived.Ground.NamesProg
import Derived.Ground.SlsfProg
import Derived.Test.YtpnikndmidcedaaGreatDoorProg
import Derived.Test.YtpnikndmidcedaaGreatDoorKLow
set_option linter.unusedVariables false
set_option linter.unusedSimpArgs false
set_option linter.unusedSectionVars false
open List renaming range' → yaa, replicate → yab, mem_range'_1 → yac, append_nil → yad, map_cons → yae, getElem?_append_right → yaf, length_map → yag, map → yah, getD_eq_getElem?_getD → yai, length_append → yaj, map_nil → yak, map_append → yal, length_replicate → yan, length_cons → yao, append_assoc → yap, getElem?_cons_succ → yaq, getElem_map → yar, length_nil → yas, set_append_right → yav, cons_append → yax, length_range' → yaz, take → yaA, nil_append → yaB, set_cons_succ → yaE, map_replicate → yaG, take_of_length_le → yaH, getElem?_eq_getElem → yaI, mem_singleton → yaJ, mem_append → yaK, getElem_mem → yaL, length_set → yaM, drop → yaR, getElem?_append_left → yaS, mem_replicate → yaT, mem_cons → yaY, not_mem_nil → yaZ, map_map → yba, reverse_cons → ybb, reverse_nil → ybc, nodup_range' → ybd, ext_getElem → ybe, getElem_range' → ybf, replicate_succ → ybg, filter_congr → ybh, drop_eq_getElem_cons → ybi, length_eq_zero_iff → ybj, map_congr_left → ybm, length_singleton → ybn, getElem?_range' → ybo, getElem?_eq_none → ybp, filterMap_cons → ybq, perm_singleton → ybr
open Nat renaming le_refl → yam, zero_le → yaw, sub_self → yay, zero_add → yaC, add_sub_cancel_left → yaF, mul_comm → yaO, add_assoc → yaQ, add_mul → yaV, add_zero → yaW
open Int renaming le_refl → yat, toNat_natCast → yau, toNat → yaD, tmod_eq_emod_of_nonneg → yaN
open Option.some renaming injEq → yaP
open Bool renaming false_and → yaU
open Array renaming replicate → yaX, getElem?_append_left → ybk, getElem?_modify → ybl
namespace Go.Fx.K
open Go Go.Fx Go.Proofs
set_option maxRecDepth 20000
structure Rn where
 m:Md
 L:Lg
def rnV (p:Nat) (m:Md):Blk:=.var [.ptr (p+3) 0 0,.ptr (p+1) 0 0,.ro 5 (m.l.map It.enc),.i m.segs,.i m.seg,.i m.next,.nil,.nil,.i (-1)]
def Rn.bs (r:Rn) (p:Nat):List Blk:=rnV p r.m::r.L.bs (p+1)
theorem Rn.len (r:Rn) {p:Nat}:(r.bs p).length=6+(r.L.n+1):=by
 show (r.L.bs (p+1)).length+1=_
 rw [r.L.len];omega
theorem Pb {p q:Nat} {r:Rn} {g:Nat→Option Nat} (hg:∀ j,j<6+(r.L.n+1)→g (p+j)=some (q+j)):(r.bs p).map (bD g)=r.bs q:=by
 have h1:=hg 1 (by omega)
 have h3:=hg 3 (by omega)
 have hL:(r.L.bs (p+1)).map (bD g)=r.L.bs (q+1):=xF fun j hj=>by
  have:=hg (1+j) (by omega)
  rw [show p+1+j=p+(1+j) by omega,show q+1+j=q+(1+j) by omega]
  exact this
 rw [Rn.bs,yae,hL]
 simp only [rnV,bD,dO,ren,h1,h3]
 rfl
abbrev OkR (f:FuncId) (xs:List V) (r:Rn) (Q:V→Rn→Prop):Prop:=OkN Tryz.prog f xs (r.bs 0) (yaa 6 (r.L.n+1)) (QF Rn.bs (6+(r.L.n+1)) Q)
def rnX (r:Rn) (X:List Blk):List Blk:=.var [.ptr 3 0 0,.ptr 1 0 0,.ro 5 (r.m.l.map It.enc),.i r.m.segs,.i r.m.seg,.i r.m.next,.nil,.nil,.i (-1)]::(r.L.bs 1++X)
theorem Co {r:Rn} {X:List Blk}:rnX r X=r.bs 0++X:=rfl
abbrev fx6:List Nat:=[0,1,2,3,4,5]
theorem lN {B:Blk} (h:B≠.dead) {H:List Blk} {k:Nat} (hk:H[k]?=some B):aC H k:=by
 unfold aC
 rw [hk]
 cases B<;>first|trivial|exact absurd rfl h
theorem dZ {r:Rn} {X:List Blk}:aF fx6 (rnX r X):=⟨trivial,trivial,trivial,trivial,trivial,trivial,trivial⟩
theorem v7 {f:FuncId} {l0 l:LCode} {rs:List eD} {nt:Nat} (hl:rlF Tryz.prog f l0=some (l,rs,nt)) {args:List V} {r:Rn} {Q:V→Rn→Prop} (hlen:args.length≤nt)
  (h:aw (cxN Tryz.prog fx6) l (cK fx6 (6+(r.L.n+1)) rs (QF Rn.bs (6+(r.L.n+1)) Q)) (fun _ _=>False) (cK fx6 (6+(r.L.n+1)) rs (QF Rn.bs (6+(r.L.n+1)) Q)) ⟨aR 0 args,rnX r [],0⟩):OkR f args r Q:=by
 have e:r.bs 0=rnX r []:=by rw [Co,yad]
 refine e6 pol fx6 hl hlen ⟨trivial,trivial,trivial,trivial,trivial,trivial,trivial⟩ (fun k hk hm=>?_) (by rw [r.len,e];exact h)
 rw [r.len] at hk
 have:¬(6≤k∧k<6+(r.L.n+1)):=fun h2=>hm (yac.2 h2)
 have h3:k=0∨k=1∨k=2∨k=3∨k=4∨k=5:=by omega
 rcases h3 with rfl|rfl|rfl|rfl|rfl|rfl<;>simp
theorem Ul {r:Rn} {X:List Blk}:(rnX r X).length=6+(r.L.n+1)+X.length:=by rw [Co,yaj,r.len]
theorem Wo {r:Rn} {X:List Blk} (hX:wfB (rnX r X) X):wfB (rnX r X) (rnX r X):=by
 refine ⟨⟨trivial,trivial,trivial,trivial,trivial,trivial,trivial,trivial,trivial,trivial⟩,?_⟩
 exact r.L.wf [.var [.ptr 3 0 0,.ptr 1 0 0,.ro 5 (r.m.l.map It.enc),.i r.m.segs,.i r.m.seg,.i r.m.next,.nil,.nil,.i (-1)]] X rfl hX
theorem tN (r':Rn) {n bb:Nat} {e:Env} {X:List Blk} {rs:List eD} {Q:V→Rn→Prop} (hn:r'.L.n=n) (hr:aQ (rnX r' X) e rs [] fun xs=>wfV (rnX r' []) (aT xs)∧Q (aT xs) r'):cK fx6 (6+(n+1)) rs (QF Rn.bs (6+(n+1)) Q) ⟨e,rnX r' X,bb⟩:=by
 have e0:rnX r' []=r'.bs 0:=by rw [Co,yad]
 rw [cJ]
 refine resP_mono _ _ ?_ hr
 rintro xs ⟨h1,h2⟩
 refine ⟨rnX r' [],⟨?_,dZ,?_,h1,Wo trivial⟩,r',⟨fun p=>by rw [r'.len,hn],h2⟩,e0⟩
 ·rw [e0,Co]
  exact cL
 ·rw [Ul,hn];exact yam _
theorem Xj {r:Rn} {h Y:List Blk} {e p:Env} {b b':Nat} (he:leE e p) (hh:leH h (rnX r Y)) (hwe:wfE (rnX r Y) p) (hwb:wfB (rnX r Y) Y):leS fx6 ⟨e,h,b⟩ ⟨p,rnX r Y,b'⟩:=⟨he,hh,dZ,hwe,Wo hwb⟩
section
variable {cx:Cx} {f:FuncId} {e:Env} {b:Nat} {K:V→St→Prop}
theorem Pc {m:Md} {n:Nat}:aD (yaa 6 (n+1)) (.var [.ptr 3 0 0,.ptr 1 0 0,.ro 5 (m.l.map It.enc),.i m.segs,.i m.seg,.i m.next,.nil,.nil,.i (-1)])=.var [.ptr 3 0 0,.ptr 1 0 0,.ro 5 (m.l.map It.enc),.i m.segs,.i m.seg,.i m.next,.nil,.nil,.i (-1)]:=by
 have h3:(3:Nat)∉yaa 6 (n+1):=fun h=>by have:=yac.1 h;omega
 have h1:(1:Nat)∉yaa 6 (n+1):=fun h=>by have:=yac.1 h;omega
 simp only [aD,bB,kill,if_neg h3,if_neg h1]
theorem mL (r:Rn) (B:List Blk) (args xs:List V) (Q:V→Lg→Prop) (hC:cx.C f (.ptr 0 0 0::xs) (r.L.bs 0) (yaa 5 (r.L.n+1)) (QF Lg.bs (5+(r.L.n+1)) Q))
  (ha:∀ (H:List Blk) (g:Nat→Option Nat),aJ H g args∧wkL xs (aV H g args))
  (hbn:cx.bn=[]) (hfx:cx.fx=fx6)
  (hB:B.map (aD (yaa 6 (r.L.n+1)))=B)
  (h3:∀ (v:V) (L':Lg),L'.n=r.L.n→Q v L'→(∀ f,ren f v=v)∧K v ⟨aB (yaa 6 (r.L.n+1)) e,rnX ⟨r.m,L'⟩ B,b⟩):cF cx f (.ptr 1 0 0::args) ⟨e,rnX r B,b⟩ K:=by
 refine fD Lg.bs 5 (r.L.n+1) (fun g hg p q f hf=>xF (by
  have:=hg 0
  rw [g.len] at this
  intro j hj
  exact hf j (by omega))) [.var [.ptr 3 0 0,.ptr 1 0 0,.ro 5 (r.m.l.map It.enc),.i r.m.segs,.i r.m.seg,.i r.m.next,.nil,.nil,.i (-1)]] B r.L (fun p=>r.L.len) (by decide) args xs Q hC (ha _ _) (by rw [hbn];simp) (by rw [hfx];intro k hk;left;simp at hk;simp;omega) ?_ hB (fun v L' hn hq=>?_)
 ·rw [yae,yak]
  show [aD (yaa 6 (r.L.n+1)) _]=_
  rw [Pc]
 ·have hn':L'.n=r.L.n:=by have:=hn 0;rw [L'.len] at this;omega
  obtain ⟨q1,q2⟩:=h3 v L' hn' hq
  refine ⟨q1,?_,q2⟩
  rw [hfx]
  exact ⟨trivial,trivial,trivial,trivial,trivial,trivial,trivial⟩
theorem u4 (r:Rn) (B:List Blk) (args xs:List V) (Q:V→MS→Prop) (hC:cx.C f (.ptr 0 0 0::xs) (r.L.S.bs 0) (yaa 3 r.L.S.n) (QF MS.bs (3+r.L.S.n) Q))
  (ha:∀ (H:List Blk) (g:Nat→Option Nat),aJ H g args∧wkL xs (aV H g args))
  (hbn:cx.bn=[]) (hfx:cx.fx=fx6)
  (hB:B.map (aD (yaa 6 r.L.n))=B)
  (hQ:∀ v S',Q v S'→S'=r.L.S)
  (h3:∀ (v:V),Q v r.L.S→(∀ f,ren f v=v)∧K v ⟨aB (yaa 6 r.L.n) e,rnX r B,b⟩):cF cx f (.ptr 3 0 0::args) ⟨e,rnX r B,b⟩ K:=by
 have eX:rnX r B=[.var [.ptr 3 0 0,.ptr 1 0 0,.ro 5 (r.m.l.map It.enc),.i r.m.segs,.i r.m.seg,.i r.m.next,.nil,.nil,.i (-1)],lgV 1 r.L,lgG r.L]++(r.L.S.bs 3++(lgF r.L::B)):=by
  unfold rnX
  simp [Lg.bs]
 rw [eX]
 refine fD MS.bs 3 r.L.S.n (fun g hg p q f hf=>fN g.ok (by
  have h1:=hg 0
  rw [g.len] at h1
  intro j hj
  have hj2:j<3+g.n:=hj
  exact hf j (by omega))) [.var [.ptr 3 0 0,.ptr 1 0 0,.ro 5 (r.m.l.map It.enc),.i r.m.segs,.i r.m.seg,.i r.m.next,.nil,.nil,.i (-1)],lgV 1 r.L,lgG r.L] (lgF r.L::B) r.L.S (fun p=>r.L.S.len) (by decide) args xs Q hC (ha _ _) (by rw [hbn];simp) (by rw [hfx];intro k hk;left;simp at hk;simp;omega) ?_ ?_ fun v S' h1 h2=>?_
 ·have hm:∀ k,k<6∨6+r.L.S.n≤k→k∉yaa (3+3) r.L.S.n:=fun k hk h=>by have:=yac.1 h;omega
  have hn:r.L.S.n=r.L.cells.length:=rfl
  show [aD _ _,aD _ _,aD _ _]=_
  simp only [aD,bB,kill,lgV,lgG,yao,yas,if_neg (hm 3 (by omega)),if_neg (hm 1 (by omega)),if_neg (hm (1+2) (by omega)),if_neg (hm (1+1) (by omega)),if_neg (hm (1+(r.L.cells.length+5)) (by omega))]
 ·rw [yae]
  show aD _ (.arr 4 _)::B.map (aD (yaa (3+3) r.L.S.n))=_
  rw [show 3+3=6 from rfl,show r.L.S.n=r.L.n from rfl,hB]
  rfl
 ·have:=hQ v S' h2
  subst this
  obtain ⟨q1,q2⟩:=h3 v h2
  rw [eX] at q2
  refine ⟨q1,?_,q2⟩
  rw [hfx]
  exact ⟨trivial,trivial,trivial,trivial,trivial,trivial,trivial⟩
end
theorem fX {a:Blk} {T X:List Blk}:(a::(T++X))[T.length+1]?=X[0]?:=by
 have:(a::(T++X))[T.length+1]?=(T++X)[T.length+0]?:=rfl
 rw [this,yaf (by omega)];congr 1;omega
theorem vH {a B:Blk} {T X:List Blk}:(a::(T++X)).set (T.length+1) B=a::(T++X.set 0 B):=by
 have:(a::(T++X)).set (T.length+1) B=a::((T++X).set (T.length+0) B):=rfl
 rw [this,yav _ _ (by omega)];congr 3;omega
theorem xV {a:Blk} {T X:List Blk}:(a::(T++X))[T.length+2]?=X[1]?:=by
 have:(a::(T++X))[T.length+2]?=(T++X)[T.length+1]?:=rfl
 rw [this,yaf (by omega)];congr 1;omega
theorem Cj {a B:Blk} {T X:List Blk}:(a::(T++X)).set (T.length+2) B=a::(T++X.set 1 B):=by
 have:(a::(T++X)).set (T.length+2) B=a::((T++X).set (T.length+1) B):=rfl
 rw [this,yav _ _ (by omega)];congr 3;omega
theorem Ii {a:Blk} {T X:List Blk}:(a::(T++X))[T.length+3]?=X[2]?:=by
 have:(a::(T++X))[T.length+3]?=(T++X)[T.length+2]?:=rfl
 rw [this,yaf (by omega)];congr 1;omega
theorem Hk {a B:Blk} {T X:List Blk}:(a::(T++X)).set (T.length+3) B=a::(T++X.set 2 B):=by
 have:(a::(T++X)).set (T.length+3) B=a::((T++X).set (T.length+2) B):=rfl
 rw [this,yav _ _ (by omega)];congr 3;omega
theorem Ro {a:Blk} {T X:List Blk}:(a::(T++X))[T.length+4]?=X[3]?:=by
 have:(a::(T++X))[T.length+4]?=(T++X)[T.length+3]?:=rfl
 rw [this,yaf (by omega)];congr 1;omega
theorem Ou {a B:Blk} {T X:List Blk}:(a::(T++X)).set (T.length+4) B=a::(T++X.set 3 B):=by
 have:(a::(T++X)).set (T.length+4) B=a::((T++X).set (T.length+3) B):=rfl
 rw [this,yav _ _ (by omega)];congr 3;omega
theorem rQ {L:Lg} {X Y:List Blk}:L.bs 1++X++Y=L.bs 1++(X++Y):=yap ..
set_option maxRecDepth 20000
theorem uD (n k:Nat) (h:k<6∨6+n≤k):(k∈yaa 6 n)=False:=eq_false fun hm=>by
 have:=yac.1 hm
 omega
theorem mE {r:Rn}:∀ X,(Blk.var [.ptr 3 0 0,.ptr 1 0 0,.ro 5 (r.m.l.map It.enc),.i r.m.segs,.i r.m.seg,.i r.m.next,.nil,.nil,.i (-1)]::(r.L.bs 1++X))=rnX r X:=fun X=>rfl
theorem eP {r:Rn}:(Blk.var [.ptr 3 0 0,.ptr 1 0 0,.ro 5 (r.m.l.map It.enc),.i r.m.segs,.i r.m.seg,.i r.m.next,.nil,.nil,.i (-1)]::r.L.bs 1)=rnX r []:=by unfold rnX;rw [yad]
theorem Xc {m:Md} {L:Lg} {B:Nat} (h:Inv m L B) (hB:B≤100000):L.found.any (Ck.isAt 0 0 1125899906842624)=false:=by
 rw [List.any_eq_false]
 intro c hc
 rw [h.fnd] at hc
 obtain ⟨x,hx,rfl⟩:=List.mem_map.1 hc
 have:=(h.its x hx).sq
 have:=h.sq
 unfold Ck.isAt
 simp
 omega
theorem agI (L:Lg) (j:Nat) (h:1≤j):((L.bs 1).length+j∈yaa 6 (L.n+1))=False:=eq_false fun hm=>by
 have:=yac.1 hm
 have:=L.len (p:=1)
 omega
theorem wfR (r:Rn) (X:List Blk) {j:Nat} (hj:∃ B,X[j]?=some B∧B≠.dead):aC (rnX r X) ((r.L.bs 1).length+(j+1)):=by
 obtain ⟨B,h1,h2⟩:=hj
 refine lN h2 ?_
 show (_::(r.L.bs 1++X))[(r.L.bs 1).length+j+1]?=_
 rw [yaq,yaf (by omega),yaF,h1]
theorem afY (r:Rn) (B:Nat) (h:Inv r.m r.L B) (hB:B≤80000):OkR 13 [.ptr 0 0 0] r (fun v r'=>r'=r∧v=.b true):=by
 have hfl:r.L.found.length≤100000:=by rw [h.fnd,yag];have:=h.fl;omega
 refine v7 lw13 (by simp) ?_
 unfold c13 rnX
 simp -implicitDefEqProofs only [rX,↓rY,aA,↓reduceIte,reduceCtorEq,cxN,aR]
 simp only [mE,eP]
 have m0:=uD r.L.n 0 (by omega)
 have m3:=uD r.L.n 3 (by omega)
 have m0':=uD (r.L.n+1) 0 (by omega)
 have m1':=uD (r.L.n+1) 1 (by omega)
 refine u4 r [] [] [] _ (oS (Pw r.L.S)) (fun _ _=>⟨trivial,trivial⟩) rfl rfl rfl (fun v S' hq=>hq.1) ?_
 rintro v ⟨-,rfl⟩
 refine ⟨fun f=>rfl,?_⟩
 unfold rnX
 simp -implicitDefEqProofs only [rX,aA,↓reduceIte,aB,kill,St.kill,m0,m3]
 rw [show r.L.S.D.dead=false from rfl,we]
 refine a8 (fun k:Nat=>(⟨[(3,.i k),(0,.ptr 0 0 0)],rnX r [],0⟩:St)) (fun k=>k≤r.m.l.length) (fun k=>r.m.l.length-k) 0 (yaw _) ?_ ?_
 ·exact Xj ⟨rfl,rfl,trivial⟩ (by rw [eP];exact aG _) ⟨trivial,trivial,trivial⟩ trivial
 intro k hk
 unfold c13l0 rnX
 simp -implicitDefEqProofs only [rX,↓rY,rdK,aA,cells?,splice,↓reduceIte,Nat.reduceEqDiff,Nat.reduceAdd,reduceCtorEq,aE,bK,Nat.reduceLeDiff,yar,yau,dM,fX,vH,sR,rE,Zz,Nat.reduceEqDiff]
 simp only [mE,eP]
 intro hm
 have hml:=h.fl
 cases hd:decide ((k:Int)<(r.m.l.length:Int)) with
 | true =>
  have hk2:k<r.m.l.length:=by have:=of_decide_eq_true hd;omega
  have hxm:r.m.l[k]∈r.m.l:=yaL hk2
  obtain ⟨⟨hany,hr,hsl⟩,hro⟩:=Ee.rd h (by omega) hxm
  rw [wd]
  refine ⟨⟨by omega,by omega⟩,hk2,?_⟩
  have mT:=agI r.L 1 (by omega)
  refine mL r [.var r.m.l[k].enc] [.agg (yaA 3 r.m.l[k].enc)] [.agg [.i r.m.l[k].c.seg,.i r.m.l[k].c.slot,.i r.m.l[k].c.seq]] _ (Va r.L _ _ _ hfl fun _=>⟨hr,hsl⟩) (fun _ _=>⟨⟨⟨trivial,trivial,trivial,trivial⟩,trivial⟩,⟨rfl,rfl,rfl,trivial⟩,trivial⟩) rfl rfl rfl ?_
  rintro v L2-⟨rfl,rfl⟩
  rw [hro]
  refine ⟨fun f=>rfl,?_⟩
  unfold rdV rnX
  simp -implicitDefEqProofs only [rX,↓rY,aA,↓reduceIte,Nat.reduceEqDiff,reduceCtorEq,leE,leH,leB,leV,cN,aF,aC,wfE,wfB,wfV,wfL,aB,kill,St.kill,iX,fX,Rb,Ra,rF,Nat.reduceEqDiff,m0',m1',mT]
  rw [show ((0:Int) != 0)=false from rfl,we,show (!r.m.l[k].c.key==r.m.l[k].c.key)=false by simp,we,show (!r.m.l[k].data==r.m.l[k].data)=false by simp,we]
  have hkp:=dZ (r:=r) (X:=[])
  have hw:=Wo (r:=r) (X:=[]) trivial
  refine ⟨⟨by simp only [lo];omega,by simp only [hi];omega⟩,k+1,⟨by omega,by omega⟩,by omega,cL,⟨hkp.2.1,hkp.2.2.1,hkp.2.2.2.1,hkp.2.2.2.2.1,hkp.2.2.2.2.2.1⟩,?_⟩
  refine ⟨⟨hkp.2.2.2.1,hkp.2.1⟩,?_⟩
  have:=hw.2
  rw [yad] at this
  rw [eP]
  exact this
 | false =>
  rw [we]
  refine mL r [] [.agg [.i 0,.i 0,.i 1125899906842624]] [.agg [.i 0,.i 0,.i 1125899906842624]] _ (Va r.L 0 0 1125899906842624 hfl fun hc=>by rw [Xc h (by omega)] at hc;cases hc) (fun _ _=>⟨⟨⟨trivial,trivial,trivial,trivial⟩,trivial⟩,⟨rfl,rfl,rfl,trivial⟩,trivial⟩) rfl rfl rfl ?_
  rintro v L2-⟨rfl,rfl⟩
  refine ⟨fun f=>rfl,?_⟩
  have hno:r.L.rdO 0 0 1125899906842624=([],[],5):=by unfold Lg.rdO;rw [Xc h (by omega)];rfl
  rw [hno]
  unfold rdV
  simp -implicitDefEqProofs only [rX,↓rY,aA,↓reduceIte,Nat.reduceEqDiff,aB,kill,bB,St.kill]
  refine tN r rfl ?_
  simp -implicitDefEqProofs only [rX,↓reduceIte,aQ,aT,wfV,aQ,aT]
  rfl
set_option maxRecDepth 20000
structure RA (r:Rn) (B:Nat) (v:V) (r':Rn):Prop where
 v:v=.b true
 i:Inv r'.m r'.L B
 g:r'.L.gens.length=r.L.gens.length
theorem aaO {L:Lg} {s c c':Nat}:(L.drop s c c').gens.length=L.gens.length:=by
 show (L.ren s c c').gens.length=_
 rw [(iZ (L:=L) (s:=s) (c:=c) (c':=c')).gens,yaM]
theorem akO (r:Rn) (B:Nat) (h:Inv r.m r.L B) (hB:B≤80000) (s:Int) (hs0:0≤s):OkR 23 [.ptr 0 0 0,.i s] r (RA r (B+40)):=by
 have hfl:=h.fl
 have hsg:=h.sgs
 have m0':=uD (r.L.n+1) 0 (by omega)
 have m1':=uD (r.L.n+1) 1 (by omega)
 refine v7 lw23 (by simp) ?_
 unfold c23 rnX
 simp -implicitDefEqProofs only [rX,↓rY,aA,↓reduceIte,Nat.reduceEqDiff,reduceCtorEq,cxN,aR,Nat.reduceEqDiff]
 simp only [mE,eP]
 refine mL r [] [.i s] [.i s] _ (Zk r.L s (h.Sm (by omega))) (fun _ _=>⟨⟨trivial,trivial⟩,rfl,trivial⟩) rfl rfl rfl ?_
 rintro v L2 hn2 (⟨h1,rfl,rfl⟩|⟨h1,rfl,c,c',rfl⟩)
 ·refine ⟨fun f=>rfl,?_⟩
  unfold rnX
  simp -implicitDefEqProofs only [rX,↓rY,aA,cells?,splice,↓reduceIte,Nat.reduceEqDiff,Nat.reduceAdd,reduceCtorEq,aB,kill,St.kill,isC,Nat.reduceLeDiff,wX,Nat.reduceEqDiff,m0',m1']
  simp only [mE,eP]
  rw [show ((1:Int)==130)=false from rfl,we,decide_eq_true (by omega),wd]
  refine tN r rfl ?_
  simp -implicitDefEqProofs only [rX,↓reduceIte,aQ,aT,wfV,aQ,aT]
  exact ⟨rfl,h.mono (by omega),rfl⟩
 ·have hi:=h.drop (s:=s.toNat) (c:=c) (c':=c') (by omega)
  rw [show ((s.toNat:Nat):Int)=s by omega] at hi
  refine ⟨fun f=>rfl,?_⟩
  unfold rnX
  simp -implicitDefEqProofs only [rX,↓rY,aA,cells?,splice,↓reduceIte,Nat.reduceEqDiff,Nat.reduceAdd,reduceCtorEq,aB,kill,St.kill,isC,Nat.reduceLeDiff,wX,Nat.reduceEqDiff,m0',m1']
  rw [show ((0:Int)==130)=false from rfl,we,decide_eq_false (by omega),we]
  refine aS (afF r.m s (by omega)) (by simp [aJ,aU,aV,bO,wkL,wk,wkR,Md.v]) rfl ?_ ?_
  ·exact dZ (r:=⟨r.m,r.L.drop s.toNat c c'⟩) (X:=[])
  simp -implicitDefEqProofs only [rX,↓rY,aA,cells?,splice,↓reduceIte,Nat.reduceEqDiff,Nat.reduceAdd,isC,Nat.reduceLeDiff,Md.v,Nat.reduceEqDiff]
  have hX:=eP (r:=⟨r.m.wo s,r.L.drop s.toNat c c'⟩)
  simp only [hX]
  refine tN ⟨r.m.wo s,r.L.drop s.toNat c c'⟩ hn2 ?_
  simp -implicitDefEqProofs only [rX,↓reduceIte,aQ,aT,wfV,aQ,aT]
  exact ⟨rfl,hi.mono (by omega),aaO⟩
theorem dY {m:Md} {L:Lg}:∀ X,(Blk.var [.ptr 3 0 0,.ptr 1 0 0,.ro 5 (m.l.map It.enc),.i m.segs,.i m.seg,.i m.next,.nil,.nil,.i (-1)]::(L.bs 1++X))=rnX ⟨m,L⟩ X:=fun X=>rfl
theorem cI {m:Md} {L:Lg}:(Blk.var [.ptr 3 0 0,.ptr 1 0 0,.ro 5 (m.l.map It.enc),.i m.segs,.i m.seg,.i m.next,.nil,.nil,.i (-1)]::L.bs 1)=rnX ⟨m,L⟩ []:=by unfold rnX;rw [yad]
theorem agY {x y:Pl} {K:Bool→Prop}:(cB (nH (V.agg x.enc)) fun xs=>cB (nH (V.agg y.enc)) fun ys=>eM xs ys [(0,TypeDesc.int IntKind.i64),(1,TypeDesc.int IntKind.i64),(2,TypeDesc.int IntKind.i64)] K)=K (decide (x=y)):=by
 have e:decide (x=y)=((x.seg==y.seg)&&((x.slot==y.slot)&&((x.seq==y.seq)&&true))):=by
  obtain ⟨a,b,c⟩:=x
  obtain ⟨a',b',c'⟩:=y
  rw [Bool.eq_iff_iff]
  simp
 rw [e]
 exact propext ⟨fun h=>h.2.2.2,fun h=>⟨⟨rfl,rfl⟩,⟨rfl,rfl⟩,⟨rfl,rfl⟩,h⟩⟩
theorem Qq {m:Md} {L:Lg} {B:Nat} (h:Inv m L B) {k:Nat} (hk:k<m.l.length):m.l[k].c.seq≤L.seq:=(h.its _ (yaL hk)).sq.2
theorem abK {m:Md} {L:Lg} {B:Nat} (h:Inv m L B) {key data:Bs}:0≤(m.whr key data).2.1∧(m.whr key data).2.1≤1000:=by
 unfold Md.whr
 split
 ·exact ⟨yat _,by decide⟩
 ·split
  ·rename_i h1
   have:=h.nx
   have:=h.nxt h1.1
   simp only
   omega
  ·split<;>exact ⟨yat _,(by decide:(0:Int)≤1000)⟩
theorem akP (r:Rn) (B:Nat) (h:Inv r.m r.L B) (hB:B≤80000) (key data:Bs) (hk:key.length≤400∧data.length≤400):OkR 22 [.ptr 0 0 0,sv key,sv data] r (RA r (B+40)):=by
 have hfl:=h.fl
 have hsg:=h.sgs
 have hgl:=h.gl
 have m0':=uD (r.L.n+1) 0 (by omega)
 have m1':=uD (r.L.n+1) 1 (by omega)
 have mT:=agI r.L 1 (by omega)
 refine v7 lw22 (by simp) ?_
 unfold c22 rnX
 simp -implicitDefEqProofs only [rX,↓rY,aA,↓reduceIte,Nat.reduceEqDiff,Nat.reduceAdd,reduceCtorEq,Nat.reduceLeDiff,cxN,dM,aR,Nat.reduceEqDiff]
 simp only [mE,eP]
 refine aS (afG r.m key data (by omega) (by omega)) (by simp [aJ,aU,aV,bO,wkL,wk,wkR,Md.v]) rfl ?_ ?_
 ·exact dZ
 unfold rnX
 simp -implicitDefEqProofs only [rX,↓rY,aA,cells?,splice,↓reduceIte,Nat.reduceEqDiff,Nat.reduceAdd,reduceCtorEq,aE,isC,fX,vH,rQ,Nat.reduceEqDiff]
 simp only [mE,eP]
 refine mL r [.var [.i (r.m.whr key data).1,.i (r.m.whr key data).2.1,.i (r.m.whr key data).2.2],.dead] [sv key,sv data] [sv key,sv data] _ (h.append (key:=key) (data:=data) (by omega) ⟨by omega,by omega⟩) (fun _ _=>⟨⟨trivial,trivial,trivial⟩,rfl,rfl,trivial⟩) rfl rfl rfl ?_
 have hE:(r.m.whr key data).2.2=2∨(r.m.whr key data).2.2=140∨(r.m.whr key data).2.2=0:=by
  unfold Md.whr
  split
  ·exact .inl rfl
  ·split
   ·exact .inr (.inr rfl)
   ·split
    ·exact .inr (.inr rfl)
    ·exact .inr (.inl rfl)
 have hsl:0≤(r.m.whr key data).2.1∧(r.m.whr key data).2.1≤1000:=abK h
 rintro v L2 hn2 (⟨hw,rfl,rfl⟩|⟨hw,rfl,hq2,hg2,hi2⟩)
 ·refine ⟨fun f=>rfl,?_⟩
  have hE':((r.m.whr key data).2.2==130)=false:=by rcases hE with h|h|h<;>rw [h]<;>rfl
  generalize (r.m.whr key data)=w at *
  unfold rnX
  simp -implicitDefEqProofs only [rX,↓rY,rdK,aA,cells?,splice,↓reduceIte,Nat.reduceEqDiff,Nat.reduceAdd,reduceCtorEq,aE,bK,cE,aB,kill,bB,St.kill,isD,isC,Nat.reduceLT,Nat.reduceLeDiff,↓qbo,↓qbr,yar,fX,xV,Cj,Ii,Hk,Ro,Ou,rQ,Vi,Nat.reduceEqDiff,m0',m1',mT]
  simp only [mE,eP]
  rw [hE',we,show (w.2.2 != w.2.2)=false by simp,we,show (w.2.2 != 0)=true by simpa using hw,wd]
  refine Eq.mpr (agY (x:=zPl) (y:=zPl)) ?_
  refine tN r rfl ?_
  simp -implicitDefEqProofs only [rX,↓reduceIte,aQ,aT,wfV,aQ,aT]
  exact ⟨rfl,h.mono (by omega),rfl⟩
 ·refine ⟨fun f=>rfl,?_⟩
  have hbl:(r.L.bs 1).length=(L2.bs 1).length:=by rw [r.L.len,L2.len,hn2]
  have mT2:((L2.bs 1).length+1∈yaa 6 (r.L.n+1))=False:=by rw [←hbl];exact mT
  rw [hbl]
  generalize (r.m.whr key data)=w at *
  unfold rnX
  simp -implicitDefEqProofs only [rX,↓rY,rdK,aA,cells?,splice,↓reduceIte,Nat.reduceEqDiff,Nat.reduceAdd,reduceCtorEq,aE,bK,cE,aB,kill,bB,St.kill,isD,isC,Nat.reduceLT,Nat.reduceLeDiff,↓qbo,↓qbr,yar,fX,xV,Cj,Ii,Hk,Ro,Ou,rQ,Vi,Nat.reduceEqDiff,m0',m1',mT2]
  simp only [dY,cI]
  rw [show ((0:Int)==130)=false from rfl,we]
  have hsq:=h.sq
  rw [hw,show ((0:Int) != 0)=false from rfl,we,we,show (w.1 != w.1)=false by simp,we,show (w.2.1 != w.2.1)=false by simp,we,decide_eq_false (by omega),we]
  intro hm
  cases hd:decide ((0:Int)<(r.m.l.length:Int)) with
  | true =>
   have h1:0<r.m.l.length:=by have:=of_decide_eq_true hd;omega
   rw [wd]
   intro _
   have hls:=Qq h (k:=((r.m.l.length:Int)-1).toNat) (by omega)
   refine ⟨⟨by simp only [lo];omega,by simp only [hi];omega⟩,⟨by omega,by omega⟩,by omega,?_⟩
   rw [decide_eq_false (by omega),we]
   refine aS (Zh r.m w.1 w.2.1 (r.L.seq+1) key data (by omega) hsl) (by simp [aJ,aU,aV,bO,wkL,wk,wkR,Md.v]) rfl dZ ?_
   unfold rnX Md.v
   simp -implicitDefEqProofs only [rX,↓rY,aA,cells?,splice,↓reduceIte,Nat.reduceEqDiff,Nat.reduceAdd,isC,Nat.reduceLeDiff,Nat.reduceEqDiff]
   simp only [dY,cI]
   refine tN ⟨r.m.put w.1 w.2.1 (r.L.seq+1) key data,L2⟩ hn2 ?_
   simp -implicitDefEqProofs only [rX,↓reduceIte,aQ,aT,wfV,aQ,aT]
   exact ⟨rfl,hi2.mono (by omega),hg2⟩
  | false =>
   rw [we]
   refine aS (Zh r.m w.1 w.2.1 (r.L.seq+1) key data (by omega) hsl) (by simp [aJ,aU,aV,bO,wkL,wk,wkR,Md.v]) rfl dZ ?_
   unfold rnX Md.v
   simp -implicitDefEqProofs only [rX,↓rY,aA,cells?,splice,↓reduceIte,Nat.reduceEqDiff,Nat.reduceAdd,isC,Nat.reduceLeDiff,Nat.reduceEqDiff]
   simp only [dY,cI]
   refine tN ⟨r.m.put w.1 w.2.1 (r.L.seq+1) key data,L2⟩ hn2 ?_
   simp -implicitDefEqProofs only [rX,↓reduceIte,aQ,aT,wfV,aQ,aT]
   exact ⟨rfl,hi2.mono (by omega),hg2⟩
set_option maxRecDepth 20000
theorem Kc:∀ {l:List It} {m:Md} {q:Int},∃ t,(m.mvs q l).1.l=m.l++t
 | [],m,q=>⟨[],by simp [Md.mvs]⟩
 | x::r,m,q=>by
  unfold Md.mvs
  split
  ·exact ⟨[],by simp⟩
  ·obtain ⟨t,ht⟩:=Kc (l:=r) (m:=m.put (m.whr x.c.key x.data).1 (m.whr x.c.key x.data).2.1 (q+1) x.c.key x.data) (q:=q+1)
   refine ⟨⟨⟨(m.whr x.c.key x.data).1,(m.whr x.c.key x.data).2.1,q+1,x.c.key⟩,x.data⟩::t,?_⟩
   simp only [ht]
   unfold Md.put
   simp
structure Mo (m0:Md) (q0:Int) (old:List It) (k:Nat) (m:Md) (out:List Pl):Prop where
 kl:k≤old.length
 len:out.length=k
 eq:m0.mvs q0 old=((m.mvs (q0+k) (old.drop k)).1,out++(m.mvs (q0+k) (old.drop k)).2.1,(m.mvs (q0+k) (old.drop k)).2.2)
 ml:m.l.length≤m0.l.length+k
 ms:m.segs=m0.segs
 nx:0≤m.seg→0≤m.next
theorem Mo.zero {m0:Md} {q0:Int} {old:List It} (h:0≤m0.seg→0≤m0.next):Mo m0 q0 old 0 m0 []:=⟨yaw _,rfl,by simp,by omega,rfl,h⟩
theorem Mo.full {m0 m:Md} {q0:Int} {old:List It} {k:Nat} {out:List Pl} (h:Mo m0 q0 old k m out) (hk:k<old.length) (hw:(m.whr old[k].c.key old[k].data).2.2≠0):m0.mvs q0 old=(m,out,(m.whr old[k].c.key old[k].data).2.2):=by
 rw [h.eq,ybi hk,Md.mvs,if_pos hw,yad]
theorem Mo.done {m0 m:Md} {q0:Int} {old:List It} {out:List Pl} (h:Mo m0 q0 old old.length m out):m0.mvs q0 old=(m,out,0):=by
 rw [h.eq,List.drop_length,Md.mvs,yad]
theorem Ws {m:Md} (h:0≤m.seg→0≤m.next) {key data:Bs}:0≤(m.whr key data).2.1∧(m.whr key data).2.1≤1000:=by
 unfold Md.whr
 split
 ·exact ⟨yat _,by decide⟩
 ·split
  ·rename_i h1
   have:=h h1.1
   simp only
   omega
  ·split<;>exact ⟨yat _,(by decide:(0:Int)≤1000)⟩
theorem Mo.eqc {m0 m:Md} {q0:Int} {old:List It} {k:Nat} {out:List Pl} (h:Mo m0 q0 old k m out) (hk:k<old.length) (hw:(m.whr old[k].c.key old[k].data).2.2=0) :
  m0.mvs q0 old=(((m.put (m.whr old[k].c.key old[k].data).1 (m.whr old[k].c.key old[k].data).2.1 (q0+k+1) old[k].c.key old[k].data).mvs (q0+k+1) (old.drop (k+1))).1,out++⟨(m.whr old[k].c.key old[k].data).1,(m.whr old[k].c.key old[k].data).2.1,q0+k+1⟩::((m.put (m.whr old[k].c.key old[k].data).1 (m.whr old[k].c.key old[k].data).2.1 (q0+k+1) old[k].c.key old[k].data).mvs (q0+k+1) (old.drop (k+1))).2.1,((m.put (m.whr old[k].c.key old[k].data).1 (m.whr old[k].c.key old[k].data).2.1 (q0+k+1) old[k].c.key old[k].data).mvs (q0+k+1) (old.drop (k+1))).2.2):=by
 rw [h.eq,ybi hk,Md.mvs,if_neg (by rw [hw];simp)]
theorem Mo.next {m0 m:Md} {q0:Int} {old:List It} {k:Nat} {out:List Pl} (h:Mo m0 q0 old k m out) (hk:k<old.length) (hw:(m.whr old[k].c.key old[k].data).2.2=0) :
  Mo m0 q0 old (k+1) (m.put (m.whr old[k].c.key old[k].data).1 (m.whr old[k].c.key old[k].data).2.1 (q0+k+1) old[k].c.key old[k].data) (out++[⟨(m.whr old[k].c.key old[k].data).1,(m.whr old[k].c.key old[k].data).2.1,q0+k+1⟩]):=by
 refine ⟨hk,by rw [yaj,h.len];rfl,?_,?_,h.ms,fun _=>?_⟩
 ·rw [h.eqc hk hw,show q0+(k:Int)+1=q0+((k+1:Nat):Int) by omega]
  simp only [yap,yax,yaB]
 ·unfold Md.put
  rw [yaj]
  have:=h.ml
  simp
  omega
 ·have:=(Ws h.nx (key:=old[k].c.key) (data:=old[k].data)).1
  show 0≤(m.whr old[k].c.key old[k].data).2.1+1
  omega
theorem Mo.plO {m0 m:Md} {q0:Int} {old:List It} {k:Nat} {out l:List Pl} {nx:List Ck} {e:Int} (h:Mo m0 q0 old k m out) (hk:k<old.length) (hw:(m.whr old[k].c.key old[k].data).2.2=0) (he:e=(m0.mvs q0 old).2.2)
  (hl:e=0→l=(m0.mvs q0 old).2.1) (hn:e≠0→nx=(m0.mvs q0 old).1.l.map It.c):plO nx l k m.l.length e=⟨(m.whr old[k].c.key old[k].data).1,(m.whr old[k].c.key old[k].data).2.1,q0+k+1⟩∧(e≠0→m.l.length<nx.length):=by
 have hq:=h.eqc hk hw
 have hlen:=h.len
 by_cases h0:e=0
 ·refine ⟨?_,fun h1=>absurd h0 h1⟩
  have hl':=hl h0
  rw [hq] at hl'
  simp only at hl'
  have hk2:k<l.length:=by rw [hl',yaj,yao];omega
  unfold Go.Fx.K.plO
  rw [if_pos ⟨h0,hk2⟩,yai,hl',yaf (by omega),hlen,yay]
  rfl
 ·have hn':=hn h0
  obtain ⟨t,ht⟩:=Kc (l:=old.drop (k+1)) (m:=m.put (m.whr old[k].c.key old[k].data).1 (m.whr old[k].c.key old[k].data).2.1 (q0+k+1) old[k].c.key old[k].data) (q:=q0+k+1)
  rw [hq] at hn'
  simp only [ht] at hn'
  have hp:∀ a b c key data,(m.put a b c key data).l=m.l++[⟨⟨a,b,c,key⟩,data⟩]:=fun _ _ _ _ _=>rfl
  rw [hp,yap,yal,yax,yae] at hn'
  have hk2:m.l.length<nx.length:=by rw [hn',yaj,yag,yao];omega
  refine ⟨?_,fun _=>hk2⟩
  unfold Go.Fx.K.plO
  rw [if_neg (fun h=>h0 h.1),if_pos ⟨h0,hk2⟩,yai,hn',yaf (by rw [yag];exact yam _),yag,yay]
  rfl
set_option maxRecDepth 20000
theorem c24_parts:c24=.seq (pt 0 c24) (.seq (pt 1 c24) (.seq (pt 2 c24) (.seq (pt 3 c24) (.seq (pt 4 c24) (.seq (pt 5 c24) (.seq (pt 6 c24) (.seq (pt 7 c24) (.seq (pt 8 c24) (.seq (pt 9 c24) (rt 10 c24)))))))))):=by rfl
structure Lv (lv:V) (l:List Pl) (e:Int):Prop where
 lo:∀ H g,aU H g lv
 ld:∀ H g,wk (.ro 3 (l.map Pl.enc)) (bO H g lv)
 wf:∀ H,wfV H lv
 ki:∀ M,kill M lv=lv
 ro:e=0→lv=.ro 3 (l.map Pl.enc)
theorem Lv.nil {e:Int} (h:e≠0):Lv .nil [] e:=⟨fun _ _=>trivial,fun _ _=>by simp [bO,wk,wkR],fun _=>trivial,fun _=>rfl,fun h0=>absurd h0 h⟩
theorem Lv.mk' {l:List Pl} {e:Int}:Lv (.ro 3 (l.map Pl.enc)) l e:=⟨fun _ _=>trivial,fun _ _=>by simp [bO,wk,wkR],fun _=>trivial,fun _=>rfl,fun _=>rfl⟩
theorem xH {X Y:List Blk}:∀ {T:List Blk},leH X Y→leH (T++X) (T++Y)
 | [],h=>h
 | b::T,h=>⟨aK b,xH (T:=T) h⟩
theorem ahU {a b:Bool} {P Q R:Prop} (h:(a&&b)=false) (hq:a=true→b=false→Q) (hr:a=false→R):br a (br b P Q) R:=by
 cases a with
 | false=>rw [we];exact hr rfl
 | true =>
  cases b with
  | false=>rw [wd,we];exact hq rfl rfl
  | true=>cases h
section
variable {N:St→Prop} {Xx:Nat→St→Prop} {n bb:Nat}
abbrev Tk (n:Nat) (Q:V→Rn→Prop):St→Prop:=cK fx6 (6+(n+1)) [.tmp 4] (QF Rn.bs (6+(n+1)) Q)
theorem Yv {m:Md} {L:Lg} {X:List Blk} {e:Env} {v:V} {Q:V→Rn→Prop} (hn:L.n=n) (g:get e 4=v) (hv:wfV (rnX ⟨m,L⟩ []) v) (hQ:Q v ⟨m,L⟩):Tk n Q ⟨e,rnX ⟨m,L⟩ X,bb⟩:=by
 refine tN ⟨m,L⟩ hn ?_
 simp -implicitDefEqProofs only [rX,aQ,aT,aQ,aT,g]
 exact ⟨hv,hQ⟩
structure M24 (r:Rn) (B:Nat) (s:Int) (m0:Md) (q0:Int) (old:List It) (L:Lg) (e:Int) (l:List Pl) (nx:List Ck):Prop where
 ev:e=(m0.mvs q0 old).2.2
 l0:e=0→l=(m0.mvs q0 old).2.1
 n1:e≠0→nx=(m0.mvs q0 old).1.l.map It.c
 n0:e=0→nx=((m0.mvs q0 old).1.wo s).l.map It.c
 i1:e≠0→Inv (m0.mvs q0 old).1 L (B+40)
 i0:e=0→Inv ((m0.mvs q0 old).1.wo s) L (B+40)
 g:L.gens.length=r.L.gens.length
 ol:old.length≤16
 ml:m0.l.length≤80000
 sg:0≤m0.segs∧m0.segs≤100000
 lb:l.length≤100000
 nb:nx.length≤100000
 nn:0≤m0.seg→0≤m0.next
abbrev abR (s:Int) (old:List It) (lv:V) (e:Int) (nx:List Ck) (m0:Md) (L:Lg) (g:Nat × Md × List Pl):St:=⟨[(12,.i g.1),(11,.ptr ((L.bs 1).length+1) 0 0),(10,.ro 4 (nx.map Ck.enc)),(9,.i e),(8,lv),(7,.ro 5 (old.map It.enc)),(0,.ptr 0 0 0),(1,.i s)],rnX ⟨m0,L⟩ [.var [.ro 5 (g.2.1.l.map It.enc),.i g.2.1.segs,.i g.2.1.seg,.i g.2.1.next]],0⟩
theorem acS {r:Rn} {B:Nat} {s q0 ee:Int} {m0:Md} {old:List It} {L:Lg} {l:List Pl} {nx:List Ck} {lv:V} {e:Env} (h:M24 r B s m0 q0 old L ee l nx) (hlv:Lv lv l ee) (hn:L.n=n)
  (g0:get e 0=.ptr 0 0 0) (g1:get e 1=.i s) (g7:get e 7=.ro 5 (old.map It.enc)) (g8:get e 8=lv) (g9:get e 9=.i ee) (g10:get e 10=.ro 4 (nx.map Ck.enc)) (g11:get e 11=.ptr ((L.bs 1).length+1) 0 0)
  (hN:∀ m out e b',Mo m0 q0 old old.length m out→get e 0=.ptr 0 0 0→get e 1=.i s→get e 7=.ro 5 (old.map It.enc)→get e 8=lv→get e 9=.i ee→get e 10=.ro 4 (nx.map Ck.enc)→get e 11=.ptr ((L.bs 1).length+1) 0 0→N ⟨e,rnX ⟨m0,L⟩ [.var [.ro 5 (m.l.map It.enc),.i m.segs,.i m.seg,.i m.next]],b'⟩) :
  aw (cxN Tryz.prog fx6) (pt 8 c24) N Xx (Tk n (RA r (B+40))) ⟨e,rnX ⟨m0,L⟩ [.var [.ro 5 (m0.l.map It.enc),.i m0.segs,.i m0.seg,.i m0.next]],bb⟩:=by
 conv=>arg 2;whnf
 simp -implicitDefEqProofs only [rX,aA,cxN]
 refine a8 (abR s old lv ee nx m0 L) (fun g=>Mo m0 q0 old g.1 g.2.1 g.2.2) (fun g=>old.length-g.1) (0,m0,[]) (Mo.zero h.nn) ?_ ?_
 ·exact Xj ⟨rfl,g11,g10,g9,g8,g7,g0,g1,trivial⟩ (aG _) ⟨trivial,wfR ⟨m0,L⟩ _ (j:=0) ⟨_,rfl,by simp⟩,trivial,trivial,hlv.wf _,trivial,trivial,trivial,trivial⟩ ⟨⟨trivial,trivial,trivial,trivial,trivial⟩,trivial⟩
 rintro ⟨k,m,out⟩ hM
 have hkl:k≤old.length:=hM.kl
 have hml:m.l.length≤m0.l.length+k:=hM.ml
 have hms:m.segs=m0.segs:=hM.ms
 have hol:=h.ol
 have hm0:=h.ml
 have hsg:=h.sg
 unfold abR c24l0 rnX
 simp -implicitDefEqProofs only [rX,↓rY,rdK,aA,cells?,↓reduceIte,Nat.reduceEqDiff,Nat.reduceAdd,aE,yar,yau,fX,xV,Cj,rQ,Rb,Ra,Nat.reduceEqDiff]
 simp only [dY,cI]
 intro hmx
 cases hd:decide ((k:Int)<(old.length:Int)) with
 | false =>
  have hk2:k=old.length:=by have:=of_decide_eq_false hd;omega
  subst hk2
  rw [we]
  exact hN m out _ _ hM rfl rfl rfl rfl rfl rfl rfl
 | true =>
 have hk2:k<old.length:=by have:=of_decide_eq_true hd;omega
 have hwn:=Ws hM.nx (key:=old[k].c.key) (data:=old[k].data)
 have hwf:=hM.full hk2
 have hwp:=hM.plO hk2 (l:=l) (nx:=nx) (e:=ee)
 have hwx:=hM.next hk2
 rw [wd]
 refine ⟨⟨by omega,by omega⟩,hk2,⟨by omega,by omega⟩,hk2,?_⟩
 constructor
 all_goals
  refine aS (afG m old[k].c.key old[k].data (by omega) (by omega)) (by simp [aJ,aU,aV,bO,wkL,wk,wkR,Md.v]) rfl dZ ?_
  unfold rnX
  generalize (m.whr old[k].c.key old[k].data)=w at *
  simp -implicitDefEqProofs only [rX,↓rY,aA,cells?,splice,↓reduceIte,Nat.reduceEqDiff,Nat.reduceAdd,reduceCtorEq,aE,isC,Nat.reduceLeDiff,fX,xV,Cj,rQ,Nat.reduceEqDiff]
  simp only [dY,cI]
  cases hw:w.2.2 != 0 with
  | true =>
   have hw':w.2.2≠0:=by simpa using hw
   have hq:=hwf hw'
   have hee:ee=w.2.2:=by rw [h.ev,hq]
   have hnx:nx=m.l.map It.c:=by rw [h.n1 (by rw [hee];exact hw'),hq]
   have hi1:=h.i1 (by rw [hee];exact hw')
   rw [hq] at hi1
   rw [wd,show (ee==w.2.2)=true by rw [hee];simp,wd]
   refine aS (ok8 m nx h.nb) (by simp [aJ,aU,aV,bO,wkL,wk,wkR,Md.v]) rfl dZ ?_
   rw [decide_eq_true hnx.symm]
   simp -implicitDefEqProofs only [rX,↓rY,↓reduceIte,Nat.reduceEqDiff]
   exact Yv hn rfl trivial ⟨rfl,hi1,h.g⟩
  | false =>
   have hw':w.2.2=0:=by simpa using hw
   rw [we]
   obtain ⟨hp1,hp2⟩:=hwp hw' h.ev h.l0 h.n1
   have hp2':ee≠0→m.l.length<nx.length:=hp2
   have hM2:=hwx hw'
   intro hm1 hm2
   refine ahU ?_ (fun _ _=>?_) (fun _=>?_)
   ·by_cases he:ee=0
    ·rw [show (ee != 0)=false by rw [he];rfl,Bool.and_false]
    ·rw [decide_eq_false (by have:=hp2' he;omega),yaU]
   all_goals
    refine aS (akF nx l k m.l.length ee h.nb h.lb) ⟨⟨trivial,hlv.lo _ _,trivial,trivial,trivial,trivial⟩,⟨⟨rfl,rfl⟩,hlv.ld _ _,rfl,rfl,rfl,trivial⟩⟩ rfl dZ ?_
    rw [hp1]
    unfold rnX
    simp -implicitDefEqProofs only [rX,↓rY,aA,cells?,splice,↓reduceIte,Nat.reduceEqDiff,Nat.reduceAdd,aE,isC,yar,yau,fX,xV,Ii,Hk,Rb,Ra,Nat.reduceEqDiff,Pl.enc]
    simp only [dY,cI]
    rw [show (w.1 != w.1)=false by simp,we,show (w.2.1 != w.2.1)=false by simp,we]
    refine ⟨⟨by omega,by omega⟩,hk2,⟨by omega,by omega⟩,hk2,?_⟩
    refine aS (Zh m w.1 w.2.1 (q0+k+1) old[k].c.key old[k].data (by omega) hwn) (by simp [aJ,aU,aV,bO,wkL,wk,wkR,Md.v]) rfl dZ ?_
    unfold rnX Md.v
    simp -implicitDefEqProofs only [rX,↓rY,aA,cells?,splice,↓reduceIte,Nat.reduceEqDiff,Nat.reduceAdd,reduceCtorEq,leE,leH,leB,leV,cN,aF,aC,wfE,wfB,wfV,wfL,isC,fX,vH,Nat.reduceEqDiff]
    simp only [dY,cI]
    have hkp:=dZ (r:=⟨m0,L⟩) (X:=[.var [.ro 5 ((m.put w.1 w.2.1 (q0+k+1) old[k].c.key old[k].data).l.map It.enc),.i (m.put w.1 w.2.1 (q0+k+1) old[k].c.key old[k].data).segs,.i (m.put w.1 w.2.1 (q0+k+1) old[k].c.key old[k].data).seg,.i (m.put w.1 w.2.1 (q0+k+1) old[k].c.key old[k].data).next]])
    have hw2:=Wo (r:=⟨m0,L⟩) (X:=[.var [.ro 5 ((m.put w.1 w.2.1 (q0+k+1) old[k].c.key old[k].data).l.map It.enc),.i (m.put w.1 w.2.1 (q0+k+1) old[k].c.key old[k].data).segs,.i (m.put w.1 w.2.1 (q0+k+1) old[k].c.key old[k].data).seg,.i (m.put w.1 w.2.1 (q0+k+1) old[k].c.key old[k].data).next]]) ⟨⟨trivial,trivial,trivial,trivial,trivial⟩,trivial⟩
    exact ⟨⟨by simp only [Fx.lo];omega,by simp only [hi];omega⟩,(k+1,_,_),⟨hM2,by show _-(k+1)<_;omega⟩,(by show (k:Int)+1=((k+1:Nat):Int);omega),xH ⟨aK _,trivial⟩,⟨hkp.2.1,hkp.2.2.1,hkp.2.2.2.1,hkp.2.2.2.2.1,hkp.2.2.2.2.2.1⟩,hlv.wf _,⟨hkp.2.2.2.1,hkp.2.1⟩,hw2.2⟩
end
set_option maxRecDepth 20000
section
variable {N:St→Prop} {Xx:Nat→St→Prop} {n bb:Nat}
theorem acR {r:Rn} {B:Nat} {s q0 ee:Int} {m0 m:Md} {old:List It} {L:Lg} {l out:List Pl} {nx:List Ck} {lv:V} {e:Env} (h:M24 r B s m0 q0 old L ee l nx) (hlv:Lv lv l ee) (hn:L.n=n) (hM:Mo m0 q0 old old.length m out)
  (g0:get e 0=.ptr 0 0 0) (g1:get e 1=.i s) (g7:get e 7=.ro 5 (old.map It.enc)) (g8:get e 8=lv) (g9:get e 9=.i ee) (g10:get e 10=.ro 4 (nx.map Ck.enc)) (g11:get e 11=.ptr ((L.bs 1).length+1) 0 0) :
  aw (cxN Tryz.prog fx6) (pt 9 c24) (fun s'=>aw (cxN Tryz.prog fx6) (rt 10 c24) N Xx (Tk n (RA r (B+40))) s') Xx (Tk n (RA r (B+40))) ⟨e,rnX ⟨m0,L⟩ [.var [.ro 5 (m.l.map It.enc),.i m.segs,.i m.seg,.i m.next]],bb⟩:=by
 have hd:=hM.done
 have hol:=h.ol
 have hml:=hM.ml
 have hm0:=h.ml
 have he:ee=0:=by rw [h.ev,hd]
 have hl:l=out:=by rw [h.l0 he,hd]
 have hnx:nx=(m.wo s).l.map It.c:=by rw [h.n0 he,hd]
 have hi:=h.i0 he
 rw [hd] at hi
 have hlen:=hM.len
 subst hl
 have hlv0:=hlv.ro he
 subst hlv0
 subst he
 conv=>arg 2;whnf
 unfold rnX
 simp -implicitDefEqProofs only [rX,↓rY,↓reduceIte,Nat.reduceEqDiff,Nat.reduceAdd,cxN,fX,Nat.reduceEqDiff,g0,g1,g11]
 simp only [dY,cI]
 refine aS (afF m s (by omega)) (by simp [aJ,aU,aV,bO,wkL,wk,wkR,Md.v]) rfl dZ ?_
 unfold rnX Md.v
 simp -implicitDefEqProofs only [rX,↓rY,cells?,splice,↓reduceIte,Nat.reduceEqDiff,Nat.reduceAdd,isC,Nat.reduceLeDiff,Nat.reduceEqDiff]
 simp only [dY,cI]
 conv=>arg 2;whnf
 unfold rnX
 simp -implicitDefEqProofs only [rX,↓rY,aA,↓reduceIte,Nat.reduceEqDiff,Nat.reduceAdd,reduceCtorEq,Nat.reduceLeDiff,Nat.reduceEqDiff,g0,g9,g8,g7,g10]
 simp only [dY,cI]
 rw [show ((0:Int)==0)=true from rfl,wd]
 intro _ _
 rw [show ((l.length:Int)==(old.length:Int))=true by rw [hlen];simp,wd]
 refine aS (ok8 (m.wo s) nx h.nb) (by simp [aJ,aU,aV,bO,wkL,wk,wkR,Md.v]) rfl dZ ?_
 rw [decide_eq_true hnx.symm]
 simp -implicitDefEqProofs only [rX,↓rY,↓reduceIte,Nat.reduceEqDiff]
 exact Yv hn rfl trivial ⟨rfl,hi,h.g⟩
theorem acZ {r:Rn} {B:Nat} {s:Int} {e:Env} (h:Inv r.m r.L B) (hs:0≤s) (hB:B≤80000) (hn:r.L.n=n) (g0:get e 0=.ptr 0 0 0) (g1:get e 1=.i s) (hN:s<r.m.segs→∀ e b',get e 0=.ptr 0 0 0→get e 1=.i s→N ⟨e,rnX r [],b'⟩) :
  aw (cxN Tryz.prog fx6) (pt 1 c24) N Xx (Tk n (RA r (B+40))) ⟨e,rnX r [],bb⟩:=by
 have hsg:=h.sgs
 have m0':=uD (r.L.n+1) 0 (by omega)
 have m1':=uD (r.L.n+1) 1 (by omega)
 conv=>arg 2;whnf
 unfold rnX
 simp -implicitDefEqProofs only [rX,↓rY,↓reduceIte,Nat.reduceEqDiff,Nat.reduceAdd,reduceCtorEq,cxN,Nat.reduceEqDiff,g0,g1]
 simp only [dY,cI]
 cases hd:decide (r.m.segs≤s) with
 | false =>
  have hd':=of_decide_eq_false hd
  rw [we]
  exact hN (by omega) _ _ g0 g1
 | true =>
  have hd':=of_decide_eq_true hd
  rw [wd]
  refine mL r [] [.i s] [.i s] _ (afE h (by omega) s) (fun _ _=>⟨⟨trivial,trivial⟩,rfl,trivial⟩) rfl rfl rfl ?_
  rintro v L2 hn2 (⟨h1,rfl,rfl⟩|⟨h1,-⟩)
  ·refine ⟨fun f=>rfl,?_⟩
   simp -implicitDefEqProofs only [rX,↓rY,aA,↓reduceIte,Nat.reduceEqDiff,aB,kill,St.kill]
   exact Yv hn rfl trivial ⟨rfl,h.mono (by omega),rfl⟩
  ·omega
theorem acY {r:Rn} {B:Nat} {s:Int} {e:Env} {Rr:St→Prop} (h:Inv r.m r.L B) (hB:B≤80000) (g0:get e 0=.ptr 0 0 0) (g1:get e 1=.i s) (hN:∀ e b',get e 0=.ptr 0 0 0→get e 1=.i s→get e 7=.ro 5 ((itF r.m.l s).map It.enc)→N ⟨e,rnX r [],b'⟩) :
  aw (cxN Tryz.prog fx6) (pt 2 c24) N Xx Rr ⟨e,rnX r [],bb⟩:=by
 have hfl:=h.fl
 conv=>arg 2;whnf
 unfold rnX
 simp -implicitDefEqProofs only [rX,↓rY,↓reduceIte,Nat.reduceEqDiff,Nat.reduceAdd,Nat.reduceLeDiff,cxN,Nat.reduceEqDiff,g0,g1]
 simp only [dY,cI]
 refine aS (akG r.m s (by omega)) (by simp [aJ,aU,aV,bO,wkL,wk,wkR,Md.v]) rfl dZ ?_
 simp -implicitDefEqProofs only [rX,↓reduceIte]
 exact hN _ _ g0 g1 rfl
theorem acX {r:Rn} {s:Int} {e:Env} {v:V} {Rr:St→Prop} (g0:get e 0=.ptr 0 0 0) (g1:get e 1=.i s) (g7:get e 7=v) (hN:∀ e b',get e 0=.ptr 0 0 0→get e 1=.i s→get e 7=v→N ⟨e,rnX ⟨r.m.cut s,r.L⟩ [],b'⟩) :
  aw (cxN Tryz.prog fx6) (pt 3 c24) N Xx Rr ⟨e,rnX r [],bb⟩:=by
 conv=>arg 2;whnf
 unfold rnX
 simp -implicitDefEqProofs only [rX,↓rY,aA,cells?,splice,↓reduceIte,Nat.reduceEqDiff,Nat.reduceAdd,reduceCtorEq,isC,Nat.reduceLeDiff,cxN,Nat.reduceEqDiff,g0,g1]
 unfold Md.cut at hN
 cases hd:r.m.seg==s with
 | true =>
  have hd':r.m.seg=s:=by simpa using hd
  rw [wd]
  simp only [if_pos hd'] at hN
  exact cast (congrArg (fun h=>N ⟨_,h,_⟩) (cI (m:={ r.m with seg:=-1 }) (L:=r.L)).symm) (hN _ _ g0 g1 g7)
 | false =>
  have hd':¬r.m.seg=s:=by simpa using hd
  rw [we]
  simp only [if_neg hd'] at hN
  exact cast (congrArg (fun h=>N ⟨_,h,_⟩) (cI (m:=r.m) (L:=r.L)).symm) (hN _ _ g0 g1 g7)
theorem acV {m:Md} {L L0:Lg} {B:Nat} {s ee:Int} {m0:Md} {e:Env} {lv:V} {v:V} {Rr:St→Prop} (h:Inv m L B) (hB:B≤90000) (hlv:∀ M,kill M lv=lv) (g0:get e 0=.ptr 0 0 0) (g1:get e 1=.i s) (g7:get e 7=v) (hv:∀ M,kill M v=v) (g8:get e 8=lv) (g9:get e 9=.i ee) (hN:∀ e b',get e 0=.ptr 0 0 0→get e 1=.i s→get e 7=v→get e 8=lv→get e 9=.i ee→get e 10=.ro 4 ((m.l.map It.c).map Ck.enc)→N ⟨e,rnX ⟨m0,L⟩ [],b'⟩) :
  aw (cxN Tryz.prog fx6) (pt 5 c24) N Xx Rr ⟨e,rnX ⟨m0,L⟩ [],bb⟩:=by
 have hfl:=h.fl
 have k0:get (aB (yaa 6 (L.n+1)) e) 0=.ptr 0 0 0:=by rw [aH,g0];simp only [kill];rw [if_neg fun hm=>by have:=yac.1 hm;omega]
 have k1:get (aB (yaa 6 (L.n+1)) e) 1=.i s:=by rw [aH,g1];rfl
 have k7:get (aB (yaa 6 (L.n+1)) e) 7=v:=by rw [aH,g7,hv]
 have k8:get (aB (yaa 6 (L.n+1)) e) 8=lv:=by rw [aH,g8,hlv]
 have k9:get (aB (yaa 6 (L.n+1)) e) 9=.i ee:=by rw [aH,g9];rfl
 conv=>arg 2;whnf
 unfold rnX
 simp -implicitDefEqProofs only [rX,↓rY,↓reduceIte,cxN,g0]
 simp only [dY,cI]
 refine mL ⟨m0,L⟩ [] [] [] _ (ok9 L (by rw [h.fnd,yag];omega)) (fun _ _=>⟨trivial,trivial⟩) rfl rfl rfl ?_
 rintro w L2-⟨rfl,rfl⟩
 refine ⟨fun f=>rfl,?_⟩
 simp -implicitDefEqProofs only [rX,↓reduceIte,aB,kill,St.kill]
 rw [h.fnd]
 exact hN _ _ k0 k1 k7 k8 k9 rfl
theorem acU {r:Rn} {s ee:Int} {e:Env} {lv w:V} {rows:List (List V)} {Rr:St→Prop} (he:ee≠130) (g0:get e 0=.ptr 0 0 0) (g1:get e 1=.i s) (g7:get e 7=.ro 5 rows) (g8:get e 8=lv) (g9:get e 9=.i ee) (g10:get e 10=w) (hN:∀ e b',get e 0=.ptr 0 0 0→get e 1=.i s→get e 7=.ro 5 rows→get e 8=lv→get e 9=.i ee→get e 10=w→N ⟨e,rnX r [],b'⟩) :
  aw (cxN Tryz.prog fx6) (pt 6 c24) N Xx Rr ⟨e,rnX r [],bb⟩:=by
 conv=>arg 2;whnf
 simp -implicitDefEqProofs only [rX,↓rY,aA,↓reduceIte,Nat.reduceEqDiff,reduceCtorEq,cxN,g9]
 rw [show (ee==130)=false by simpa using he,we]
 exact hN _ _ g0 g1 g7 g8 g9 g10
theorem acT {r:Rn} {s ee:Int} {e:Env} {lv w:V} {rows:List (List V)} {Rr:St→Prop} (g0:get e 0=.ptr 0 0 0) (g1:get e 1=.i s) (g7:get e 7=.ro 5 rows) (g8:get e 8=lv) (g9:get e 9=.i ee) (g10:get e 10=w) (hN:∀ e b',get e 0=.ptr 0 0 0→get e 1=.i s→get e 7=.ro 5 rows→get e 8=lv→get e 9=.i ee→get e 10=w→get e 11=.ptr ((r.L.bs 1).length+1) 0 0→N ⟨e,rnX r [.var [.ro 5 (r.m.l.map It.enc),.i r.m.segs,.i r.m.seg,.i r.m.next]],b'⟩) :
  aw (cxN Tryz.prog fx6) (pt 7 c24) N Xx Rr ⟨e,rnX r [],bb⟩:=by
 conv=>arg 2;whnf
 unfold rnX
 simp -implicitDefEqProofs only [rX,↓rY,aA,cells?,splice,↓reduceIte,Nat.reduceEqDiff,Nat.reduceAdd,aE,isC,Nat.reduceLeDiff,cxN,fX,vH,Nat.reduceEqDiff,g0]
 simp only [dY,cI]
 exact hN _ _ g0 g1 g7 g8 g9 g10 rfl
end
set_option maxRecDepth 20000
theorem abJ {m:Md} {key data:Bs}:(m.whr key data).2.2=2∨(m.whr key data).2.2=140∨(m.whr key data).2.2=0:=by
 unfold Md.whr
 split
 ·exact .inl rfl
 ·split
  ·exact .inr (.inr rfl)
  ·split
   ·exact .inr (.inr rfl)
   ·exact .inr (.inl rfl)
theorem Xf:∀ {l:List It} {m:Md} {q:Int},(m.mvs q l).2.2≠130
 | [],m,q=>by simp [Md.mvs]
 | x::r,m,q=>by
  unfold Md.mvs
  split
  ·rcases abJ (m:=m) (key:=x.c.key) (data:=x.data) with h|h|h<;>rw [h]<;>decide
  ·exact Xf (l:=r)
theorem Kb:∀ {l:List It} {m:Md} {q:Int},(m.mvs q l).2.1.length≤l.length
 | [],m,q=>by simp [Md.mvs]
 | x::r,m,q=>by
  unfold Md.mvs
  split
  ·simp
  ·have:=Kb (l:=r) (m:=m.put (m.whr x.c.key x.data).1 (m.whr x.c.key x.data).2.1 (q+1) x.c.key x.data) (q:=q+1)
   simp only [yao]
   omega
section
variable {N:St→Prop} {Xx:Nat→St→Prop} {n bb:Nat}
theorem acW {r:Rn} {B:Nat} {s:Int} {e:Env} {rows:List (List V)} {Rr:St→Prop} (h:Inv r.m r.L B) (hB:B≤80000) (hs:0≤s∧s<r.m.segs) (g0:get e 0=.ptr 0 0 0) (g1:get e 1=.i s) (g7:get e 7=.ro 5 rows)
  (hN:∀ L' lv l m' e b',L'.n=r.L.n→Inv m' L' (B+40)→M24 r B s (r.m.cut s) r.L.seq (itF r.m.l s) L' ((r.m.cut s).mvs r.L.seq (itF r.m.l s)).2.2 l (m'.l.map It.c)→Lv lv l ((r.m.cut s).mvs r.L.seq (itF r.m.l s)).2.2→get e 0=.ptr 0 0 0→get e 1=.i s→get e 7=.ro 5 rows→get e 8=lv→get e 9=.i ((r.m.cut s).mvs r.L.seq (itF r.m.l s)).2.2→N ⟨e,rnX ⟨r.m.cut s,L'⟩ [],b'⟩) :
  aw (cxN Tryz.prog fx6) (pt 4 c24) N Xx Rr ⟨e,rnX ⟨r.m.cut s,r.L⟩ [],bb⟩:=by
 have hsg:=h.sgs
 have hgl:=h.gl
 have hfl:=h.fl
 have hol:(itF r.m.l s).length≤16:=h.cnt s
 have hmo:=Kb (l:=itF r.m.l s) (m:=r.m.cut s) (q:=r.L.seq)
 have k0:get (aB (yaa 6 (r.L.n+1)) e) 0=.ptr 0 0 0:=by rw [aH,g0];simp only [kill];rw [if_neg fun hm=>by have:=yac.1 hm;omega]
 have k1:get (aB (yaa 6 (r.L.n+1)) e) 1=.i s:=by rw [aH,g1];rfl
 have k7:get (aB (yaa 6 (r.L.n+1)) e) 7=.ro 5 rows:=by rw [aH,g7];rfl
 have hnn:0≤(r.m.cut s).seg→0≤(r.m.cut s).next:=by
  intro h0
  have h1:0≤r.m.seg:=by
   unfold Md.cut at h0
   simp only at h0
   split at h0
   ·omega
   ·exact h0
  have:=h.nxt h1
  have:=h.nx
  show 0≤r.m.next
  omega
 conv=>arg 2;whnf
 unfold rnX
 simp -implicitDefEqProofs only [rX,↓rY,↓reduceIte,Nat.reduceEqDiff,cxN,Nat.reduceEqDiff,g0,g1]
 simp only [dY,cI]
 refine mL ⟨r.m.cut s,r.L⟩ [] [.i s] [.i s] _ (afE h (by omega) s) (fun _ _=>⟨⟨trivial,trivial⟩,rfl,trivial⟩) rfl rfl rfl ?_
 rintro v L2 hn2 (⟨h1,-⟩|⟨h1,hg,⟨h2,rfl,h3⟩|⟨h2,rfl,h3⟩⟩)
 ·omega
 ·refine ⟨fun f=>rfl,?_⟩
  simp -implicitDefEqProofs only [rX,↓rY,↓reduceIte,Nat.reduceEqDiff,aB,kill,St.kill]
  refine hN L2 .nil [] _ _ _ hn2 h3 ⟨rfl,fun h0=>absurd h0 h2,fun _=>rfl,fun h0=>absurd h0 h2,fun _=>h3,fun h0=>absurd h0 h2,hg,hol,by show r.m.l.length≤_;omega,by show 0≤r.m.segs∧r.m.segs≤_;omega,by simp,by rw [yag];have:=h3.fl;omega,hnn⟩ (Lv.nil h2) k0 k1 k7 rfl rfl
 ·refine ⟨fun f=>rfl,?_⟩
  simp -implicitDefEqProofs only [rX,↓rY,↓reduceIte,Nat.reduceEqDiff,aB,kill,St.kill]
  refine hN L2 _ (((r.m.cut s).mvs r.L.seq (itF r.m.l s)).2.1) _ _ _ hn2 h3 ⟨rfl,fun _=>rfl,fun h0=>absurd h2 h0,fun _=>rfl,fun h0=>absurd h2 h0,fun _=>h3,hg,hol,by show r.m.l.length≤_;omega,by show 0≤r.m.segs∧r.m.segs≤_;omega,by omega,by rw [yag];have:=h3.fl;omega,hnn⟩ Lv.mk' k0 k1 k7 rfl (by rw [h2];rfl)
end
theorem akN (r:Rn) (B:Nat) (h:Inv r.m r.L B) (hB:B≤80000) (s:Int) (hs:0≤s):OkR 24 [.ptr 0 0 0,.i s] r (RA r (B+40)):=by
 refine v7 lw24 (by simp) ?_
 rw [c24_parts,zb]
 conv=>arg 2;whnf
 simp -implicitDefEqProofs only [rX,aA,cxN,aR]
 refine acZ h hs hB rfl rfl rfl fun hss e b' g0 g1=>?_
 rw [zb]
 refine acY h hB g0 g1 fun e b' g0 g1 g7=>?_
 rw [zb]
 refine acX g0 g1 g7 fun e b' g0 g1 g7=>?_
 rw [zb]
 refine acW h hB ⟨hs,hss⟩ g0 g1 g7 fun L2 lv l m' e b' hn2 hi2 hM hlv g0 g1 g7 g8 g9=>?_
 rw [zb]
 refine acV (m0:=r.m.cut s) (L0:=L2) hi2 (by omega) hlv.ki g0 g1 g7 (fun M=>rfl) g8 g9 fun e b' g0 g1 g7 g8 g9 g10=>?_
 rw [zb]
 refine acU Xf g0 g1 g7 g8 g9 g10 fun e b' g0 g1 g7 g8 g9 g10=>?_
 rw [zb]
 refine acT g0 g1 g7 g8 g9 g10 fun e b' g0 g1 g7 g8 g9 g10 g11=>?_
 rw [zb]
 refine acS hM hlv hn2 g0 g1 g7 g8 g9 g10 g11 fun m out e b' hMo g0 g1 g7 g8 g9 g10 g11=>?_
 rw [zb]
 exact acR hM hlv hn2 hMo g0 g1 g7 g8 g9 g10 g11
set_option maxRecDepth 20000
structure Op.Fit (x:Op):Prop where
 k:x.kind<256
 s:x.seg<256
 key:x.key.length≤400
 dat:x.data.length≤400
section
variable {cx:Cx} {f:FuncId} {e:Env} {b:Nat} {K:V→St→Prop}
theorem u0 (r:Rn) (B:List Blk) (args xs:List V) (Q:V→Rn→Prop) (hC:cx.C f (.ptr 0 0 0::xs) (r.bs 0) (yaa 6 (r.L.n+1)) (QF Rn.bs (6+(r.L.n+1)) Q))
  (ha:∀ (H:List Blk) (g:Nat→Option Nat),aJ H g args∧wkL xs (aV H g args))
  (hbn:cx.bn=[]) (hfx:∀ k∈cx.fx,k<6∨6+(r.L.n+1)≤k) (hkp:∀ r':Rn,r'.L.n=r.L.n→aF cx.fx (rnX r' B))
  (hB:B.map (aD (yaa 6 (r.L.n+1)))=B)
  (h3:∀ (v:V) (r':Rn),r'.L.n=r.L.n→Q v r'→(∀ f,ren f v=v)∧K v ⟨aB (yaa 6 (r.L.n+1)) e,rnX r' B,b⟩):cF cx f (.ptr 0 0 0::args) ⟨e,rnX r B,b⟩ K:=by
 refine fD Rn.bs 6 (r.L.n+1) (fun g hg p q f hf=>Pb (by
  have h1:=hg 0
  rw [g.len] at h1
  intro j hj
  exact hf j (by omega))) [] B r (fun p=>r.len) (by decide) args xs Q hC (ha _ _) (by rw [hbn];simp) (fun k hk=>by have:=hfx k hk;simp only [yas,yaC];omega) rfl (by simpa using hB) (fun v r' hn hq=>?_)
 have hn':r'.L.n=r.L.n:=by have:=hn 0;rw [r'.len] at this;omega
 obtain ⟨q1,q2⟩:=h3 v r' hn' hq
 refine ⟨q1,hkp r' hn',?_⟩
 simp only [yas,yaC]
 exact q2
end
theorem ok7 (r:Rn) (B:Nat) (h:Inv r.m r.L B) (hB:B≤80000) (x:Op) (hx:x.Fit) (hk:x.kind%6<4):OkR 7 [.ptr 0 0 0,.agg x.enc] r (RA r (B+40)):=by
 have hfit:=hx.k
 have hseg:=hx.s
 have htm:(x.kind:Int).tmod 6=((x.kind%6:Nat):Int):=by rw [yaN (by omega)];omega
 have hts:(x.seg:Int).tmod 6=((x.seg%6:Nat):Int):=by rw [yaN (by omega)];omega
 have m0:=uD r.L.n 0 (by omega)
 have m3:=uD r.L.n 3 (by omega)
 have mT:((r.L.bs 1).length+1∈yaa 6 r.L.n)=False:=eq_false fun hm=>by
  have:=yac.1 hm
  have:=r.L.len (p:=1)
  omega
 refine v7 lw7 (by simp) ?_
 unfold c7 rnX
 simp -implicitDefEqProofs only [rX,↓rY,aA,cells?,↓reduceIte,Nat.reduceEqDiff,reduceCtorEq,aE,cxN,fX,vH,aeP,ajW,ajV,aR,Nat.reduceEqDiff]
 simp only [dY,cI]
 rw [htm,hts]
 generalize x.seg%6=s
 have hj:x.kind%6=0∨x.kind%6=1∨x.kind%6=2∨x.kind%6=3:=by omega
 refine ⟨⟨by simp only [lo];omega,by simp only [hi];omega⟩,by decide,by decide,?_⟩
 have hend:∀ {e:Env} {v:V} {r':Rn} {bb:Nat} {X:List Blk},r'.L.n=r.L.n→get e 4=.b true→RA r (B+40) v r'→cK fx6 (6+(r.L.n+1)) [.tmp 4] (QF Rn.bs (6+(r.L.n+1)) (RA r (B+40))) ⟨e,rnX r' X,bb⟩:=by
  intro e v r' bb X hn g hra
  refine tN r' hn ?_
  simp -implicitDefEqProofs only [rX,aQ,aT,wfV,aQ,aT,g]
  exact ⟨rfl,hra.i,hra.g⟩
 rcases hj with hj|hj|hj|hj<;>rw [hj]
 ·rw [show (((0:Nat):Int)==0)=true from rfl,wd]
  refine u4 r [.var x.enc] [] [] _ (oS (Pw r.L.S)) (fun _ _=>⟨trivial,trivial⟩) rfl rfl rfl (fun v S' hq=>hq.1) ?_
  rintro v ⟨-,rfl⟩
  refine ⟨fun f=>rfl,?_⟩
  unfold rnX
  simp -implicitDefEqProofs only [rX,↓rY,aA,↓reduceIte,Nat.reduceEqDiff,reduceCtorEq,aB,kill,St.kill,fX,aeO,aeN,Cr,Nat.reduceEqDiff,m0,m3,mT]
  simp only [dY,cI]
  rw [show r.L.S.D.dead=false from rfl]
  simp only [we]
  refine u0 r [.var x.enc] [sv x.key,sv x.data] [sv x.key,sv x.data] _ (akP r B h hB x.key x.data ⟨hx.key,hx.dat⟩) (fun _ _=>⟨⟨trivial,trivial,trivial⟩,rfl,rfl,trivial⟩) rfl (fun k hk=>by left;simp at hk;omega) (fun r' _=>dZ) rfl ?_
  rintro v r' hn hra
  have hv:=hra.v
  subst hv
  refine ⟨fun f=>rfl,?_⟩
  simp -implicitDefEqProofs only [rX,↓rY,↓reduceIte,Nat.reduceEqDiff,aB,kill,St.kill]
  exact hend hn rfl hra
 ·rw [show (((1:Nat):Int)==0)=false from rfl,we]
  rw [show (((1:Nat):Int)==1)=true from rfl,wd]
  refine u0 r [.var x.enc] [] [] _ (afY r B h hB) (fun _ _=>⟨trivial,trivial⟩) rfl (fun k hk=>by left;simp at hk;omega) (fun r' _=>dZ) rfl ?_
  rintro v r' hn ⟨rfl,rfl⟩
  refine ⟨fun f=>rfl,?_⟩
  simp -implicitDefEqProofs only [rX,↓reduceIte,aB,kill,St.kill]
  exact hend hn rfl ⟨rfl,h.mono (by omega),rfl⟩
 ·rw [show (((2:Nat):Int)==0)=false from rfl,we]
  rw [show (((2:Nat):Int)==1)=false from rfl,we]
  rw [show (((2:Nat):Int)==2)=true from rfl,wd]
  refine u4 r [.var x.enc] [] [] _ (oS (Pw r.L.S)) (fun _ _=>⟨trivial,trivial⟩) rfl rfl rfl (fun v S' hq=>hq.1) ?_
  rintro v ⟨-,rfl⟩
  refine ⟨fun f=>rfl,?_⟩
  unfold rnX
  simp -implicitDefEqProofs only [rX,↓rY,aA,↓reduceIte,Nat.reduceEqDiff,reduceCtorEq,aB,kill,St.kill,Cr,Nat.reduceEqDiff,m0,m3,mT]
  simp only [dY,cI]
  rw [show r.L.S.D.dead=false from rfl]
  simp only [we]
  refine u0 r [.var x.enc] [.i (s:Int)] [.i (s:Int)] _ (akO r B h hB s (by omega)) (fun _ _=>⟨⟨trivial,trivial⟩,rfl,trivial⟩) rfl (fun k hk=>by left;simp at hk;omega) (fun r' _=>dZ) rfl ?_
  rintro v r' hn hra
  have hv:=hra.v
  subst hv
  refine ⟨fun f=>rfl,?_⟩
  simp -implicitDefEqProofs only [rX,↓rY,↓reduceIte,Nat.reduceEqDiff,aB,kill,St.kill]
  exact hend hn rfl hra
 ·rw [show (((3:Nat):Int)==0)=false from rfl,we]
  rw [show (((3:Nat):Int)==1)=false from rfl,we]
  rw [show (((3:Nat):Int)==2)=false from rfl,we]
  rw [show (((3:Nat):Int)==3)=true from rfl,wd]
  refine u4 r [.var x.enc] [] [] _ (oS (Pw r.L.S)) (fun _ _=>⟨trivial,trivial⟩) rfl rfl rfl (fun v S' hq=>hq.1) ?_
  rintro v ⟨-,rfl⟩
  refine ⟨fun f=>rfl,?_⟩
  unfold rnX
  simp -implicitDefEqProofs only [rX,↓rY,aA,↓reduceIte,Nat.reduceEqDiff,reduceCtorEq,aB,kill,St.kill,Cr,Nat.reduceEqDiff,m0,m3,mT]
  simp only [dY,cI]
  rw [show r.L.S.D.dead=false from rfl]
  simp only [we]
  refine u0 r [.var x.enc] [.i (s:Int)] [.i (s:Int)] _ (akN r B h hB s (by omega)) (fun _ _=>⟨⟨trivial,trivial⟩,rfl,trivial⟩) rfl (fun k hk=>by left;simp at hk;omega) (fun r' _=>dZ) rfl ?_
  rintro v r' hn hra
  have hv:=hra.v
  subst hv
  refine ⟨fun f=>rfl,?_⟩
  simp -implicitDefEqProofs only [rX,↓rY,↓reduceIte,Nat.reduceEqDiff,aB,kill,St.kill]
  exact hend hn rfl hra
end Go.Fx.K
namespace Go.Fx
open Go Go.Fx Go.Proofs Go.Sort Go.RowKit
section
variable {α:Type} [Inhabited α] (en:α→List Value) (k:Nat)
def enV (x:α):List V:=(en x).map V.v
theorem Bn {S:Nat→Prop} {w:World} {b:Nat}:∀ {vs:List Value} {off:Nat},gW S w b off (vs.map V.v)→∀ j (h:j<vs.length),w.cell? ⟨b,off+j,none⟩=some vs[j]
 | [],_,_,j,h=>by simp at h
 | x::r,off,hr,j,h=>by
  obtain ⟨⟨val,h1,h2⟩,h3⟩:=hr
  cases j with
  | zero =>
   have:val=x:=h2.1
   subst this;exact h1
  | succ j =>
   have:=Bn h3 j (by simpa using h)
   rw [show off+(j+1)=off+1+j by omega]
   exact this
theorem Gq {S:Nat→Prop} {w:World} {b:Nat}:∀ {vs:List Value} {off:Nat},(∀ z∈vs,isD (.v z)=true)→(∀ j (h:j<vs.length),w.cell? ⟨b,off+j,none⟩=some vs[j])→gW S w b off (vs.map V.v)
 | [],_,_,_=>trivial
 | x::r,off,hd,h=>⟨⟨x,h 0 (by simp),rfl,hd x (by simp)⟩,Gq (fun z hz=>hd z (by simp [hz])) fun j hj=>by
   have:=h (j+1) (by simpa using hj)
   rw [show off+1+j=off+(j+1) by omega]
   exact this⟩
variable {en k}
theorem Ew {S:Nat→Prop} {w:World} {b:Nat} (hk:∀ x,(en x).length=k):∀ {l:List α} {off:Nat},b7 S w k b off (l.map (enV en))→∀ i (h:i<l.length) j (hj:j<(en l[i]).length),w.cell? ⟨b,off+i*k+j,none⟩=some (en l[i])[j]
 | [],_,_,i,h,_,_=>by simp at h
 | x::r,off,hr,i,h,j,hj=>by
  obtain ⟨⟨_,h2⟩,h3⟩:=hr
  cases i with
  | zero =>
   have:=Bn h2 j hj
   simpa using this
  | succ i =>
   have:=Ew hk h3 i (by simpa using h) j hj
   rw [show off+(i+1)*k+j=off+k+i*k+j by rw [yaV];omega]
   exact this
theorem Jn {S:Nat→Prop} {w:World} {b:Nat} (hk:∀ x,(en x).length=k) (hd:∀ x,∀ z∈en x,isD (.v z)=true):∀ {l:List α} {off:Nat},(∀ i (h:i<l.length) j (hj:j<(en l[i]).length),w.cell? ⟨b,off+i*k+j,none⟩=some (en l[i])[j])→b7 S w k b off (l.map (enV en))
 | [],_,_=>trivial
 | x::r,off,h=>⟨⟨by simp [enV,hk],Gq (hd x) fun j hj=>by
   have:=h 0 (by simp) j hj
   simpa using this⟩,Jn hk hd fun i hi j hj=>by
   have:=h (i+1) (by simpa using hi) j hj
   rw [show off+k+i*k+j=off+(i+1)*k+j by rw [yaV];omega]
   exact this⟩
structure ahZ (lt:α→α→Bool) (l d:List α):Prop where
 p:d.Perm l
 s:d.Pairwise fun x y=>lt y x=false
theorem Rv {P:Program} {f g:FuncId} (hc:fP P f) (hk:∀ x,(en x).length=k) (h0:0<k) (hd:∀ x,∀ z∈en x,isD (.v z)=true) {lt:α→α→Bool}
  (hsort:∀ blk off cap (d:Array α) (w:World),HoldsK en k w blk off d→blk<w.heap.size→d.size<4611686018427387904 →
   Calls P f #[.slice (some ⟨blk,off,none⟩) d.size cap,.func (.func g) #[] #[]] w fun e w'=>e=.returned (.tuple #[])∧∃ d' n os,PermIn 0 d.size d d'∧SortedIn lt 0 d.size d'∧w'=sortWorldK en k w blk off n d' os)
  (hnone:∀ a (w:World),Calls P f #[.slice a 0 0,.func (.func g) #[] #[]] w fun e w'=>e=.returned (.tuple #[])∧w'=w)
  (l:List α) (hl:l.length<4611686018427387904):OkN P f [.sl 0 0 l.length,.clo g []] [.arr k (l.map (enV en))] [] (IsQ (ahZ lt l) (fun _=>.tup []) (fun d=>[.arr k (d.map (enV en))])):=by
 refine ⟨hc,?_⟩
 intro ρ X w vals hr ha
 match vals,ha with
 | [val,cv],⟨hv,hcv,_⟩ =>
 obtain ⟨arr,rfl,harr⟩:=hcv
 have harr0:arr=#[]:=by
  cases h:arr.toList with
  | nil=>exact Array.toList_eq_nil_iff.1 h
  | cons a r=>rw [h] at harr;exact harr.elim
 subst harr0
 obtain ⟨cap,h1,h2,h3⟩:=hv
 rcases h3 with ⟨h4,a,rfl⟩|⟨hre,rfl,hroom⟩
 ·have hl0:l=[]:=ybj.1 (by omega)
  subst hl0
  refine (hnone a w).mono ?_
  rintro e w' ⟨rfl,rfl⟩
  exact ⟨_,.tup [],[.arr k []],ρ,rfl,⟨⟨[],⟨.nil,.nil⟩,rfl,rfl⟩,yam _⟩,Fr.refl _ _,hr,⟨#[],rfl,trivial⟩,fun _ _ _=>rfl⟩
 ·have hb:=hr.blk 0 _ rfl
  obtain ⟨⟨hsz,_⟩,hb|⟨_,c,T,hcc,hcs,hlen,hels⟩⟩:=hb
  ·rw [hb.1] at hre;cases hre
  have hoff:(ρ 0).off+0*(ρ 0).sz=(ρ 0).off:=by omega
  rw [hoff]
  rw [yag] at hlen
  have hg:=fun i hi j hj=>Ew hk hels i hi j hj
  have hdiv:∀ t,t<l.length*k→t/k<l.length∧t%k<k∧t/k*k+t%k=t:=fun t ht =>
   ⟨Nat.div_lt_of_lt_mul (by rwa [yaO] at ht),Nat.mod_lt _ h0,by have:=Nat.div_add_mod t k;rw [yaO] at this;exact this⟩
  have hfl:∀ (d:List α) t,t<d.length*k→∀ (h1:t/k<d.length) (h2:t%k<(en d[t/k]).length),(flatK en k d.toArray)[t]! = (en d[t/k])[t%k]:=by
   intro d t ht h1 h2
   rw [get_flatK _ _ _ _ (by simpa using ht)]
   rw [getElem!_pos d.toArray (t/k) (by simpa using h1),getElem!_pos _ (t%k) (by simpa using h2)]
   simp
  have hH:HoldsK en k w (ρ 0).blk (ρ 0).off l.toArray:=by
   intro t ht
   have ht':t<l.length*k:=by simpa using ht
   obtain ⟨q1,q2,q3⟩:=hdiv t ht'
   have q4:t%k<(en l[t/k]).length:=by rw [hk];exact q2
   refine ⟨?_,by simp [World.frozen?,hcc]⟩
   have:=hg (t/k) q1 (t%k) q4
   rw [show (ρ 0).off+t/k*k+t%k=(ρ 0).off+t by omega] at this
   rw [this]
   exact congrArg some (hfl l t ht' q1 q4).symm
  refine (hsort (ρ 0).blk (ρ 0).off cap l.toArray w hH (hr.lt 0 hre) (by simpa using hl)).mono ?_
  rintro e w' ⟨rfl,d',n,os,⟨p1,p2,p3⟩,hs,rfl⟩
  have hdl:d'.toList.length=l.length:=by simpa using p1
  have hperm:d'.toList.Perm l:=by
   have e1:(d'.extract 0 l.toArray.size).toList=d'.toList:=by rw [←p1];simp
   have e2:(l.toArray.extract 0 l.toArray.size).toList=l:=by simp
   rw [e1,e2] at p3
   exact p3
  have hsorted:d'.toList.Pairwise fun x y=>lt y x=false:=by
   rw [List.pairwise_iff_getElem]
   intro i j hi hj hij
   have:=hs i j (yaw _) hij (by simpa [hdl] using hj)
   rw [getElem!_pos d' j (by simpa using hj),getElem!_pos d' i (by simpa using hi)] at this
   simpa using this
  have hbl:=hr.lt 0 hre
  have hsl:l.length=d'.toList.length:=hdl.symm
  generalize hD:d'.toList=D at *
  have hda:d'=D.toArray:=by rw [←hD]
  subst hda
  have hw1:(sortWorldK en k w (ρ 0).blk (ρ 0).off n D.toArray os).heap[(ρ 0).blk]?=some (.cells (putCells id (ρ 0).off (flatK en k D.toArray) c) T (0,0)):=by
   simp only [sortWorldK,Sort.grow,putRowK,Sort.putRow,Sort.mapBlock,Sort.ahead]
   rw [ybk (by simpa using hbl),ybl,if_pos rfl,hcc]
   rfl
  have hw2:∀ b,b<w.heap.size→b≠(ρ 0).blk→(sortWorldK en k w (ρ 0).blk (ρ 0).off n D.toArray os).heap[b]?=w.heap[b]?:=by
   intro b hb hne
   simp only [sortWorldK,Sort.grow,putRowK,Sort.putRow,Sort.mapBlock,Sort.ahead]
   rw [ybk (by simpa using hb),ybl,if_neg (fun h=>hne h.symm)]
  have hsize:w.heap.size≤(sortWorldK en k w (ρ 0).blk (ρ 0).off n D.toArray os).heap.size:=by
   simp [sortWorldK,Sort.grow,putRowK,Sort.putRow,Sort.mapBlock,Sort.ahead]
  have hfr:Fr ρ w ρ (sortWorldK en k w (ρ 0).blk (ρ 0).off n D.toArray os):=⟨rfl,rfl,rfl,hsize,fun b hb ho=>⟨hw2 b hb fun h=>ho ⟨0,hre,h.symm⟩,ho⟩⟩
  have hcell:∀ t (ht:t<l.length*k),(sortWorldK en k w (ρ 0).blk (ρ 0).off n D.toArray os).cell? ⟨(ρ 0).blk,(ρ 0).off+t,none⟩=some ((flatK en k D.toArray)[t]!):=by
   intro t ht
   have htc:(ρ 0).off+t<c.size:=by rw [hcs];omega
   have hts:t<(flatK en k D.toArray).size:=by simpa [←hsl] using ht
   simp only [World.cell?,hw1]
   have htD:t<D.length*k:=by rw [←hsl];exact ht
   simp [Sort.putCells,htc,htD]
  refine ⟨_,.tup [],[.arr k (D.map (enV en))],ρ,rfl,⟨⟨D,⟨hperm,hsorted⟩,rfl,rfl⟩,yam _⟩,hfr,⟨hr.inj,hr.out,fun q b hq=>?_,hr.disj,fun q hq=>Nat.lt_of_lt_of_le (hr.lt q hq) hsize,hr.xfr hfr⟩,⟨#[],rfl,trivial⟩,fun _ _ _=>rfl⟩
  cases q with
  | succ q=>simp at hq
  | zero =>
   simp only [List.getElem?_cons_zero,yaP] at hq
   subst hq
   refine ⟨⟨hsz,h0⟩,.inr ⟨hre,_,T,hw1,by simp [Sort.putCells,hcs],by rw [yag,←hsl];exact hlen,Jn hk hd fun i hi j hj=>?_⟩⟩
   have hj':j<k:=by rw [←hk D[i]];exact hj
   have hlt:i*k+j<l.length*k:=by
    have:(i+1)*k≤l.length*k:=Nat.mul_le_mul_right k (by omega)
    rw [yaV] at this
    omega
   have hdv:(i*k+j)/k=i:=by rw [yaO,Nat.mul_add_div h0,Nat.div_eq_of_lt hj',yaW]
   have hmd:(i*k+j)%k=j:=by rw [yaO,Nat.mul_add_mod,Nat.mod_eq_of_lt hj']
   have:=hcell (i*k+j) hlt
   rw [hfl D (i*k+j) (by rw [←hsl];exact hlt) (by rw [hdv];exact hi) (by simp only [hdv,hmd];exact hj)] at this
   simp only [hdv,hmd] at this
   rw [yaQ]
   exact this
end
end Go.Fx
namespace Go.Proofs
open Go.Shelf
def Tryz.sortCk_ren:Go.Shelf.Ren:=⟨fun|6=>36|15=>69|14=>68|28=>90|29=>91|20=>82|21=>83|22=>84|23=>85|24=>86|25=>87|26=>88|27=>89|46=>96|47=>97|48=>98|49=>99|50=>100|57=>112|n=>n,fun|22=>38|24=>56|25=>88|3=>3|39=>113|0=>0|53=>131|55=>133|4=>4|46=>146|45=>145|50=>150|5=>5|9=>9|66=>157|70=>161|76=>174|77=>175|n=>n,fun|n=>n⟩
theorem Tryz.sortCk:Go.Proofs.SlLaysF0.n6 Tryz.prog Tryz.sortCk_ren:={
 mixed:=by kernel_rfl
 f6:=⟨Tryz.f36.name,by decide,Tryz.func36.trans (congrArg some (by kernel_rfl))⟩
 f14:=⟨Tryz.f68.name,by decide,Tryz.func68.trans (congrArg some (by kernel_rfl))⟩
 f15:=Tryz.func69.trans (congrArg some (by kernel_rfl))
 f20:=⟨Tryz.f82.name,by decide,Tryz.func82.trans (congrArg some (by kernel_rfl))⟩
 f21:=⟨Tryz.f83.name,by decide,Tryz.func83.trans (congrArg some (by kernel_rfl))⟩
 f22:=⟨Tryz.f84.name,by decide,Tryz.func84.trans (congrArg some (by kernel_rfl))⟩
 f23:=⟨Tryz.f85.name,by decide,Tryz.func85.trans (congrArg some (by kernel_rfl))⟩
 f24:=⟨Tryz.f86.name,by decide,Tryz.func86.trans (congrArg some (by kernel_rfl))⟩
 f25:=⟨Tryz.f87.name,by decide,Tryz.func87.trans (congrArg some (by kernel_rfl))⟩
 f26:=⟨Tryz.f88.name,by decide,Tryz.func88.trans (congrArg some (by kernel_rfl))⟩
 f27:=⟨Tryz.f89.name,by decide,Tryz.func89.trans (congrArg some (by kernel_rfl))⟩
 f28:=Tryz.func90.trans (congrArg some (by kernel_rfl))
 f29:=Tryz.func91.trans (congrArg some (by kernel_rfl))
 f46:=⟨Tryz.f96.name,by decide,Tryz.func96.trans (congrArg some (by kernel_rfl))⟩
 f47:=Tryz.func97.trans (congrArg some (by kernel_rfl))
 f48:=Tryz.func98.trans (congrArg some (by kernel_rfl))
 f49:=⟨Tryz.f99.name,by decide,Tryz.func99.trans (congrArg some (by kernel_rfl))⟩
 f50:=⟨Tryz.f100.name,by decide,Tryz.func100.trans (congrArg some (by kernel_rfl))⟩
 f57:=⟨Tryz.f112.name,by decide,Tryz.func112.trans (congrArg some (by kernel_rfl))⟩
 t0:=Tryz.underlying0
 a0:=Tryz.isAgg0
 z0:=Tryz.sizeOf0
 v0:=Tryz.zeroValue0
 t3:=Tryz.underlying3
 a3:=Tryz.isAgg3
 z3:=Tryz.sizeOf3
 v3:=Tryz.zeroValue3
 t4:=Tryz.underlying4
 a4:=Tryz.isAgg4
 z4:=Tryz.sizeOf4
 v4:=Tryz.zeroValue4
 t5:=Tryz.underlying5
 a5:=Tryz.isAgg5
 z5:=Tryz.sizeOf5
 v5:=Tryz.zeroValue5
 t9:=Tryz.underlying9
 a9:=Tryz.isAgg9
 z9:=Tryz.sizeOf9
 v9:=Tryz.zeroValue9
 t22:=Tryz.underlying38
 a22:=Tryz.isAgg38
 z22:=Tryz.sizeOf38
 v22:=Tryz.zeroValue38
 t25:=Tryz.underlying88
 a25:=Tryz.isAgg88
 z25:=Tryz.sizeOf88
 v25:=Tryz.zeroValue88
 t39:=Tryz.underlying113
 a39:=Tryz.isAgg113
 z39:=Tryz.sizeOf113
 v39:=Tryz.zeroValue113
 t45:=Tryz.underlying145
 a45:=Tryz.isAgg145
 z45:=Tryz.sizeOf145
 v45:=Tryz.zeroValue145
 t46:=Tryz.underlying146
 a46:=Tryz.isAgg146
 z46:=Tryz.sizeOf146
 v46:=Tryz.zeroValue146
 t50:=Tryz.underlying150
 a50:=Tryz.isAgg150
 z50:=Tryz.sizeOf150
 v50:=Tryz.zeroValue150
 t53:=Tryz.underlying131
 a53:=Tryz.isAgg131
 z53:=Tryz.sizeOf131
 v53:=Tryz.zeroValue131
 t55:=Tryz.underlying133
 a55:=Tryz.isAgg133
 z55:=Tryz.sizeOf133
 v55:=Tryz.zeroValue133
 t66:=Tryz.underlying157
 a66:=Tryz.isAgg157
 z66:=Tryz.sizeOf157
 v66:=Tryz.zeroValue157
 t70:=Tryz.underlying161
 a70:=Tryz.isAgg161
 z70:=Tryz.sizeOf161
 v70:=Tryz.zeroValue161
 t76:=Tryz.underlying174
 a76:=Tryz.isAgg174
 z76:=Tryz.sizeOf174
 v76:=Tryz.zeroValue174
 t77:=Tryz.underlying175
 a77:=Tryz.isAgg175
 z77:=Tryz.sizeOf175
 v77:=Tryz.zeroValue175 }
def Tryz.lays189_ren:Go.Shelf.Ren:=⟨fun|189=>74|125=>69|257=>93|128=>90|129=>91|294=>101|295=>102|296=>103|297=>104|298=>105|299=>106|216=>107|300=>108|301=>109|328=>113|329=>97|330=>98|331=>114|332=>115|215=>70|343=>117|n=>n,fun|28=>65|3=>3|46=>113|0=>0|51=>131|53=>133|4=>4|183=>146|182=>145|131=>150|5=>5|9=>9|218=>157|222=>161|228=>174|229=>175|n=>n,fun|n=>n⟩
theorem Tryz.lays189:Go.Proofs.Lays.n189 Tryz.prog Tryz.lays189_ren:={
 mixed:=by kernel_rfl
 f125:=Tryz.func69.trans (congrArg some (by kernel_rfl))
 f128:=Tryz.func90.trans (congrArg some (by kernel_rfl))
 f129:=Tryz.func91.trans (congrArg some (by kernel_rfl))
 f189:=Tryz.func74.trans (congrArg some (by kernel_rfl))
 f215:=Tryz.func70.trans (congrArg some (by kernel_rfl))
 f216:=Tryz.func107.trans (congrArg some (by kernel_rfl))
 f257:=Tryz.func93.trans (congrArg some (by kernel_rfl))
 f294:=Tryz.func101.trans (congrArg some (by kernel_rfl))
 f295:=Tryz.func102.trans (congrArg some (by kernel_rfl))
 f296:=Tryz.func103.trans (congrArg some (by kernel_rfl))
 f297:=Tryz.func104.trans (congrArg some (by kernel_rfl))
 f298:=Tryz.func105.trans (congrArg some (by kernel_rfl))
 f299:=Tryz.func106.trans (congrArg some (by kernel_rfl))
 f300:=Tryz.func108.trans (congrArg some (by kernel_rfl))
 f301:=Tryz.func109.trans (congrArg some (by kernel_rfl))
 f328:=Tryz.func113.trans (congrArg some (by kernel_rfl))
 f329:=Tryz.func97.trans (congrArg some (by kernel_rfl))
 f330:=Tryz.func98.trans (congrArg some (by kernel_rfl))
 f331:=Tryz.func114.trans (congrArg some (by kernel_rfl))
 f332:=Tryz.func115.trans (congrArg some (by kernel_rfl))
 f343:=Tryz.func117.trans (congrArg some (by kernel_rfl))
 t0:=Tryz.underlying0
 a0:=Tryz.isAgg0
 z0:=Tryz.sizeOf0
 v0:=Tryz.zeroValue0
 t3:=Tryz.underlying3
 a3:=Tryz.isAgg3
 z3:=Tryz.sizeOf3
 v3:=Tryz.zeroValue3
 t4:=Tryz.underlying4
 a4:=Tryz.isAgg4
 z4:=Tryz.sizeOf4
 v4:=Tryz.zeroValue4
 t5:=Tryz.underlying5
 a5:=Tryz.isAgg5
 z5:=Tryz.sizeOf5
 v5:=Tryz.zeroValue5
 t9:=Tryz.underlying9
 a9:=Tryz.isAgg9
 z9:=Tryz.sizeOf9
 v9:=Tryz.zeroValue9
 t28:=Tryz.underlying65
 a28:=Tryz.isAgg65
 z28:=Tryz.sizeOf65
 v28:=Tryz.zeroValue65
 t46:=Tryz.underlying113
 a46:=Tryz.isAgg113
 z46:=Tryz.sizeOf113
 v46:=Tryz.zeroValue113
 t51:=Tryz.underlying131
 a51:=Tryz.isAgg131
 z51:=Tryz.sizeOf131
 v51:=Tryz.zeroValue131
 t53:=Tryz.underlying133
 a53:=Tryz.isAgg133
 z53:=Tryz.sizeOf133
 v53:=Tryz.zeroValue133
 t131:=Tryz.underlying150
 a131:=Tryz.isAgg150
 z131:=Tryz.sizeOf150
 v131:=Tryz.zeroValue150
 t182:=Tryz.underlying145
 a182:=Tryz.isAgg145
 z182:=Tryz.sizeOf145
 v182:=Tryz.zeroValue145
 t183:=Tryz.underlying146
 a183:=Tryz.isAgg146
 z183:=Tryz.sizeOf146
 v183:=Tryz.zeroValue146
 t218:=Tryz.underlying157
 a218:=Tryz.isAgg157
 z218:=Tryz.sizeOf157
 v218:=Tryz.zeroValue157
 t222:=Tryz.underlying161
 a222:=Tryz.isAgg161
 z222:=Tryz.sizeOf161
 v222:=Tryz.zeroValue161
 t228:=Tryz.underlying174
 a228:=Tryz.isAgg174
 z228:=Tryz.sizeOf174
 v228:=Tryz.zeroValue174
 t229:=Tryz.underlying175
 a229:=Tryz.isAgg175
 z229:=Tryz.sizeOf175
 v229:=Tryz.zeroValue175 }
open Go.RowKit Go.Sort in
theorem Tryz.slices_Sort_int_none (p:Option Addr) (cap:Nat) (w:World) :
  Calls Tryz.prog 74 #[.slice p 0 cap] w fun e w'=>e=.returned (.tuple #[])∧w'=w:=Any.slices_Sort_int_none Tryz.lays189 p cap w
end Go.Proofs
namespace Go.Fx.K
open Go Go.Fx Go.Proofs Go.Sort
set_option maxRecDepth 20000
def uG (a b:Int):Int:=if a<b then -1 else if b<a then 1 else 0
theorem aaR {a b:Int} (h:a<b):uG a b=-1:=by unfold uG;rw [if_pos h]
theorem aaS {a b:Int} (h:b<a):uG a b=1:=by unfold uG;rw [if_neg (by omega),if_pos h]
theorem cmp_eq {a b:Int} (h1:b≤a) (h2:a≤b):uG a b=0:=by unfold uG;rw [if_neg (by omega),if_neg (by omega)]
def enK (c:Ck):List Value:=[.int .i64 c.seg,.int .i64 c.slot,.int .i64 c.seq,.string (sb c.key)]
instance:Inhabited Ck:=⟨⟨0,0,0,[]⟩⟩
set_option maxHeartbeats 1000000 in
theorem alK (x y:Ck) (W:World):Calls Tryz.prog 37 #[.agg #[.int .i64 x.seg,.int .i64 x.slot,.int .i64 x.seq,.string (sb x.key)],.agg #[.int .i64 y.seg,.int .i64 y.slot,.int .i64 y.seq,.string (sb y.key)]] W fun e w'=>e=.returned (.int .i64 (uG x.seq y.seq))∧∃ q os',w'=Sort.grow (W.drewN q) os':=by
 go_enter Tryz.func37,Tryz.ntmps37
 go_wp2
 all_goals (go_ret;refine ⟨?_,0,_,by rw [Go.Sort.alloc_eq_grow,Go.Sort.alloc_eq_grow,Go.Sort.grow_grow];rfl⟩;first|(rw [aaR (by omega)];rfl)|(rw [aaS (by omega)];rfl)|(rw [cmp_eq (by omega) (by omega)];rfl))
theorem uZ {a b:Int}:uG a b<0↔a<b:=by
 unfold uG
 split
 ·simp;omega
 ·split
  ·simp;omega
  ·simp;omega
theorem ajE:SWO (ltOf fun x y:Ck=>uG x.seq y.seq) where
 irrefl x:=by unfold ltOf;simp [uZ]
 trans x y z h1 h2:=by unfold ltOf at *;simp [uZ] at *;omega
 ntrans x y z h1 h2:=by unfold ltOf at *;simp [uZ] at *;omega
theorem Zr (a:Option Addr) (w:World):Calls Tryz.prog 36 #[.slice a 0 0,.func (.func 37) #[] #[]] w fun e w'=>e=.returned (.tuple #[])∧w'=w :=
 AnyF.slices_SortFunc_none Tryz.sortCk a 0 _ w
theorem Yd (l:List Ck) (hl:l.length<4611686018427387904):OkN Tryz.prog 36 [.sl 0 0 l.length,.clo 37 []] [.arr 4 (l.map (enV enK))] [] (IsQ (ahZ (ltOf fun x y:Ck=>uG x.seq y.seq) l) (fun _=>.tup []) (fun d=>[.arr 4 (d.map (enV enK))])):=by
 refine Rv (en:=enK) (k:=4) (cal Tryz.func36 (by kernel_rfl) (by kernel_rfl)) (fun _=>rfl) (by decide) (fun x z hz=>by simp [enK] at hz;rcases hz with rfl|rfl|rfl|rfl<;>rfl) ?_ Zr l hl
 intro blk off cap d w hH hb hs
 exact AnyQ.slices_SortFunc Tryz.sortCk 4 Tryz.isAgg56 Tryz.sizeOf56 enK (fun _=>rfl) (fun x v hv=>by simp [enK] at hv;rcases hv with rfl|rfl|rfl|rfl<;>rfl) (fun x y=>uG x.seq y.seq) ajE 37 #[] blk off cap d w
  (enters_of Tryz.func37 (by kernel_rfl) rfl) (fun _ _ _ _ x y=>alK x y _) hH hb hs
theorem Ld {l:List Ck}:l.map (enV enK)=l.map Ck.enc:=by
 refine ybm fun f _=>rfl
structure yQ (l d:List Ck):Prop where
 p:d.Perm l
 s:d.Pairwise fun x y=>x.seq≤y.seq
theorem akK (l:List Ck) (hl:l.length≤4398046511104):OkN Tryz.prog 36 [.sl 0 0 l.length,.clo 37 []] [.arr 4 (l.map Ck.enc)] [] (IsQ (yQ l) (fun _=>.tup []) (fun d=>[.arr 4 (d.map Ck.enc)])):=by
 have h:=Yd l (by omega)
 rw [Ld] at h
 refine iR h ?_
 rintro r hs ⟨d,⟨h1,h2⟩,rfl,rfl⟩
 refine ⟨d,⟨h1,?_⟩,rfl,by simp only [Ld]⟩
 refine h2.imp fun {x y} h=>?_
 unfold ltOf at h
 simp [uZ] at h
 omega
set_option maxRecDepth 20000
def Lg.hg (L:Lg) (k:Nat):Int:=cP (((nE (L.cells.getD (k*129) zC).s).drop 4).take 8)
def Lg.hok (L:Lg) (k:Nat):Bool:=decide (0<L.hg k)&&(decide (L.hg k≤1152921504606846976)&&decide ((L.cells.getD (k*129) zC).s=hdS k (L.hg k)))
def Lg.hd (L:Lg) (k:Nat):Lg:=if L.hok k=true then { L with gens:=L.gens.set k (L.hg k),top:=max L.top (L.hg k) } else L
def Lg.slo (L:Lg) (k j:Nat):Lg:=match j8 k j (L.bts k j) with
 | some x=>{ L with top:=max L.top x.gen,seq:=max L.seq x.seq,found:=if x.gen=L.gens.getD k 0 then L.found++[⟨k,j,x.seq,x.key⟩] else L.found }
 | none=>L
def Lg.slos (L:Lg) (k:Nat):Nat→Lg
 | 0=>L
 | j+1=>(Lg.slos L k j).slo k j
def Lg.scan (L:Lg):Nat→Lg
 | 0=>L
 | k+1=>((Lg.scan L k).hd k).slos k 16
structure Sc (L0 L:Lg) (f:Nat):Prop where
 cells:L.cells=L0.cells
 steps:L.steps=L0.steps
 c:L.c=L0.c
 gl:L.gens.length=L0.gens.length
 seg:L.seg=L0.seg
 next:L.next=L0.next
 fl:L.found.length≤L0.found.length+f
theorem Sc.refl {L:Lg}:Sc L L 0:=⟨rfl,rfl,rfl,rfl,rfl,rfl,yam _⟩
theorem Sc.hd {L0 L:Lg} {f k:Nat} (h:Sc L0 L f):Sc L0 (L.hd k) f:=by
 unfold Lg.hd
 split
 ·exact ⟨h.cells,h.steps,h.c,by rw [yaM];exact h.gl,h.seg,h.next,h.fl⟩
 ·exact h
theorem Sc.slo {L0 L:Lg} {f k j:Nat} (h:Sc L0 L f):Sc L0 (L.slo k j) (f+1):=by
 have:=h.fl
 unfold Lg.slo
 split
 ·refine ⟨h.cells,h.steps,h.c,h.gl,h.seg,h.next,?_⟩
  simp only
  split
  ·rw [yaj,ybn];omega
  ·omega
 ·exact ⟨h.cells,h.steps,h.c,h.gl,h.seg,h.next,by omega⟩
theorem Sc.slos {L0 L:Lg} {f k:Nat} (h:Sc L0 L f):∀ {j:Nat},Sc L0 (L.slos k j) (f+j)
 | 0=>h
 | j+1=>(Sc.slos h (j:=j)).slo
theorem Sc.scan {L0:Lg}:∀ {k:Nat},Sc L0 (L0.scan k) (16*k)
 | 0=>Sc.refl
 | k+1=>by
  have:=(Sc.scan (L0:=L0) (k:=k)).hd (k:=k)
  exact this.slos (j:=16)
structure Lg.Cln (L:Lg):Prop where
 c:129*L.gens.length≤L.cells.length
 n:L.cells.length≤70000
 g:∀ c∈L.cells,c.bad=false
theorem Lg.Cln.getD {L:Lg} (h:L.Cln) {i:Nat} (hi:i<L.cells.length):(L.cells.getD i zC).bad=false:=by
 rw [yai,yaI hi]
 exact h.g _ (yaL hi)
theorem Lg.Cln.rd {L:Lg} (h:L.Cln) {k:Nat} (hk:k<L.gens.length):L.D.rd ((k:Int)*129)=((L.cells.getD (k*129) zC).s,0):=by
 have hc:=h.c
 have e1:(k:Int)*129=((k*129:Nat):Int):=by omega
 have hk2:L.D.chk ((k*129:Nat):Int)=0:=by
  unfold Dk.chk
  rw [if_neg (by show ¬(false=true);decide),if_neg (by show ¬(_∨(L.cells.length:Int)≤_);omega)]
 rw [e1]
 unfold Dk.rd
 rw [if_neg (by rw [hk2];simp),yau,L.op]
 show (if (L.cells.getD (k*129) zC).bad=true then _ else _)=_
 rw [if_neg (by rw [h.getD (by omega)];decide)]
 rfl
theorem Lg.Cln.rdb {L:Lg} (h:L.Cln) {k j:Nat} (hk:k<L.gens.length) (hj:j<16):L.Rdb k j:=by
 have hc:=h.c
 have hn:=h.n
 have hlt:cM k j+8≤L.cells.length:=by unfold cM;omega
 exact ⟨by omega,by omega,hlt,fun i hi=>h.getD (by omega)⟩
theorem Sc.cln {L0 L:Lg} {f:Nat} (h:Sc L0 L f) (hc:L0.Cln):L.Cln:=⟨by rw [h.gl,h.cells];exact hc.c,by rw [h.cells];exact hc.n,by rw [h.cells];exact hc.g⟩
theorem Sc.D {L0 L:Lg} {f:Nat} (h:Sc L0 L f):L.D=L0.D:=by
 unfold Lg.D
 rw [h.cells,h.steps]
def op3 (T:Nat) (L:Lg):List Blk:=[.arr 1 (L.gens.map encI),.var [.ptr 0 0 0,.sl (T+3) 0 L.gens.length,.i L.top,.i L.seq,.sl (T+5) 0 L.found.length,.i L.seg,.i L.next],.arr 4 (L.found.map Ck.enc)]
def c15ol1:LCode :=
 .seq
 (.reg 0 [
 ⟨(some 74),.bin .lss false (.tmp 73) (.const (.int .i64 16)),none⟩])
 (.seq
 (.cond (.tmp 74)
 .skip
 (.exit 3))
 (.seq
 (.block 4
 (.seq
 (.reg 0 [
 ⟨(some 75),.mov (.tmp 73),none⟩,
 ⟨(some 10),.mov (.tmp 75),none⟩])
 (.seq
 (.reg 1 [
 ⟨(some 77),.mov (.tmp 0),none⟩,
 ⟨(some 78),.mov (.tmp 6),none⟩,
 ⟨(some 79),.mov (.tmp 10),none⟩,
 ⟨(some 80),.call 34 [(.tmp 77),(.tmp 78),(.tmp 79)],none⟩,
 ⟨(some 76),.mov (.tmp 80),none⟩,
 ⟨(some 81),.ext (.tmp 76) 0,none⟩,
 ⟨(some 82),.ext (.tmp 76) 1,none⟩,
 ⟨(some 11),.alloc 0 (.agg (yaX 512 (.int .u8 0))),none⟩,
 ⟨none,.store 512 (.tmp 11) (.tmp 81),none⟩,
 ⟨(some 12),.mov (.tmp 82),none⟩])
 (.seq
 (.seq
 (.reg 0 [
 ⟨(some 83),.mov (.tmp 12),none⟩,
 ⟨(some 84),.bin .neq false (.tmp 83) (.const (.int .i64 0)),none⟩])
 (.cond (.tmp 84)
 (.exit 4)
 .skip))
 (.seq
 (.reg 1 [
 ⟨(some 86),.mov (.tmp 6),none⟩,
 ⟨(some 87),.mov (.tmp 10),none⟩,
 ⟨(some 88),.load (some 512) (.tmp 11),none⟩,
 ⟨(some 89),.call 35 [(.tmp 86),(.tmp 87),(.tmp 88)],none⟩,
 ⟨(some 85),.mov (.tmp 89),none⟩,
 ⟨(some 90),.ext (.tmp 85) 0,none⟩,
 ⟨(some 91),.ext (.tmp 85) 1,none⟩,
 ⟨(some 13),.alloc 0 (.agg #[.int .i64 0,.int .i64 0,.string ⟨#[]⟩,.string ⟨#[]⟩]),none⟩,
 ⟨none,.store 4 (.tmp 13) (.tmp 90),none⟩,
 ⟨(some 14),.mov (.tmp 91),none⟩])
 (.seq
 (.reg 0 [
 ⟨(some 92),.mov (.tmp 14),none⟩])
 (.cond (.tmp 92)
 (.seq
 (.tree 0
 (.take 0 [16,17,18,19,20,21] ⟨(some 93),.mov (.tmp 5),none⟩
 (.take 1 [19,20,21] ⟨(some 94),.mov (.tmp 5),none⟩
 (.take 2 [3,4,5,8,16,17,18,19,20,21] ⟨(some 95),.mov (.tmp 5),none⟩
 (.take 3 [4,5,8,16,17,18,19,20,21] ⟨(some 96),.nilc (.tmp 95),none⟩
 (.take 4 [5,8,16,17,18,19,20,21] ⟨(some 97),.fld 2 (.tmp 96),none⟩
 (.take 5 [8,16,17,18,19,20,21] ⟨(some 98),.load none (.tmp 97),none⟩
 (.take 6 [7,8,16,17,18,19,20,21] ⟨(some 99),.fld 0 (.tmp 13),none⟩
 (.take 7 [8,16,17,18,19,20,21] ⟨(some 100),.load none (.tmp 99),none⟩
 (.take 8 [16,17,18,19,20,21] ⟨(some 101),.minmax true (.tmp 98) (.tmp 100),none⟩
 (.take 9 [10,11,12,15,16,17,18,19,20,21] ⟨(some 102),.mov (.tmp 5),none⟩
 (.take 10 [11,12,15,16,17,18,19,20,21] ⟨(some 103),.nilc (.tmp 102),none⟩
 (.take 11 [12,15,16,17,18,19,20,21] ⟨(some 104),.fld 3 (.tmp 103),none⟩
 (.take 12 [15,16,17,18,19,20,21] ⟨(some 105),.load none (.tmp 104),none⟩
 (.take 13 [14,15,19,20,21] ⟨(some 106),.fld 1 (.tmp 13),none⟩
 (.take 16 [17,18,19,20,21] ⟨(some 109),.nilc (.tmp 93),none⟩
 (.take 17 [18,19,20,21] ⟨(some 110),.fld 2 (.tmp 109),none⟩
 (.alt 14 ⟨(some 107),.load none (.tmp 106),none⟩ true
 (.take 15 [19,20,21] ⟨(some 108),.minmax true (.tmp 105) (.tmp 107),none⟩
 (.alt 18 ⟨none,.store 1 (.tmp 110) (.tmp 101),none⟩ false
 (.take 19 [20,21] ⟨(some 111),.nilc (.tmp 94),none⟩
 (.take 20 [21] ⟨(some 112),.fld 3 (.tmp 111),none⟩
 (.alt 21 ⟨none,.store 1 (.tmp 112) (.tmp 108),none⟩ false
 .done
 .none)))
 .none))
 (.alt 18 ⟨none,.store 1 (.tmp 110) (.tmp 101),none⟩ false
 (.take 14 [15,19,20,21] ⟨(some 107),.load none (.tmp 106),none⟩
 (.take 15 [19,20,21] ⟨(some 108),.minmax true (.tmp 105) (.tmp 107),none⟩
 (.take 19 [20,21] ⟨(some 111),.nilc (.tmp 94),none⟩
 (.take 20 [21] ⟨(some 112),.fld 3 (.tmp 111),none⟩
 (.alt 21 ⟨none,.store 1 (.tmp 112) (.tmp 108),none⟩ false
 .done
 .none)))))
 .none)))))))))))))))))))
 (.seq
 (.qui 0 [
 ⟨(some 113),.fld 0 (.tmp 13),none⟩,
 ⟨(some 114),.load none (.tmp 113),none⟩,
 ⟨(some 115),.mov (.tmp 5),none⟩,
 ⟨(some 116),.nilc (.tmp 115),none⟩,
 ⟨(some 117),.fld 1 (.tmp 116),none⟩,
 ⟨(some 118),.load none (.tmp 117),none⟩,
 ⟨(some 119),.mov (.tmp 6),none⟩,
 ⟨(some 120),.idx 1 (.tmp 118) (.tmp 119),none⟩,
 ⟨(some 121),.load none (.tmp 120),none⟩,
 ⟨(some 122),.bin .eql false (.tmp 114) (.tmp 121),none⟩])
 (.cond (.tmp 122)
 (.tree 2
 (.take 0 [15,16,17] ⟨(some 123),.mov (.tmp 5),none⟩
 (.take 1 [2,3,4,14,15,16,17] ⟨(some 124),.mov (.tmp 5),none⟩
 (.take 2 [3,4,14,15,16,17] ⟨(some 125),.nilc (.tmp 124),none⟩
 (.take 3 [4,14,15,16,17] ⟨(some 126),.fld 4 (.tmp 125),none⟩
 (.take 5 [9,12,13,14,15,16,17] ⟨(some 128),.mov (.tmp 6),none⟩
 (.take 6 [9,12,13,14,15,16,17] ⟨(some 129),.mov (.tmp 10),none⟩
 (.take 7 [8,9,12,13,14,15,16,17] ⟨(some 130),.fld 1 (.tmp 13),none⟩
 (.take 8 [9,12,13,14,15,16,17] ⟨(some 131),.load none (.tmp 130),none⟩
 (.take 9 [12,13,14,15,16,17] ⟨(some 132),.build [.int .i64 0,.int .i64 0,.int .i64 0] [(0,1,(.tmp 128)),(1,1,(.tmp 129)),(2,1,(.tmp 131))],none⟩
 (.take 10 [11,12,13,14,15,16,17] ⟨(some 133),.fld 2 (.tmp 13),none⟩
 (.take 11 [12,13,14,15,16,17] ⟨(some 134),.load none (.tmp 133),none⟩
 (.take 12 [13,14,15,16,17] ⟨(some 135),.build [.int .i64 0,.int .i64 0,.int .i64 0,.string ⟨#[]⟩] [(0,3,(.tmp 132)),(3,1,(.tmp 134))],none⟩
 (.alt 4 ⟨(some 127),.load none (.tmp 126),none⟩ true
 (.alt 13 ⟨(some 136),.lits 0 4 1 [.int .i64 0,.int .i64 0,.int .i64 0,.string ⟨#[]⟩] [(0,(.tmp 135))],none⟩ false
 (.alt 14 ⟨(some 137),.append 1 4 40 (.tmp 127) (.tmp 136),none⟩ false
 (.take 15 [16,17] ⟨(some 138),.nilc (.tmp 123),none⟩
 (.take 16 [17] ⟨(some 139),.fld 4 (.tmp 138),none⟩
 (.alt 17 ⟨none,.store 1 (.tmp 139) (.tmp 137),none⟩ false
 .done
 .none)))
 .none)
 .none)
 (.alt 13 ⟨(some 136),.lits 0 4 1 [.int .i64 0,.int .i64 0,.int .i64 0,.string ⟨#[]⟩] [(0,(.tmp 135))],none⟩ false
 (.take 4 [14,15,16,17] ⟨(some 127),.load none (.tmp 126),none⟩
 (.alt 14 ⟨(some 137),.append 1 4 40 (.tmp 127) (.tmp 136),none⟩ false
 (.take 15 [16,17] ⟨(some 138),.nilc (.tmp 123),none⟩
 (.take 16 [17] ⟨(some 139),.fld 4 (.tmp 138),none⟩
 (.alt 17 ⟨none,.store 1 (.tmp 139) (.tmp 137),none⟩ false
 .done
 .none)))
 .none))
 .none)))))))))))))))
 .skip)))
 .skip)))))))
 (.reg 0 [
 ⟨(some 140),.bin .add true (.tmp 73) (.const (.int .i64 1)),none⟩,
 ⟨(some 73),.mov (.tmp 140),none⟩])))
def c15ol0:LCode :=
 .seq
 (.reg 0 [
 ⟨(some 31),.bin .lss false (.tmp 30) (.tmp 29),none⟩])
 (.seq
 (.cond (.tmp 31)
 .skip
 (.exit 1))
 (.seq
 (.block 2
 (.seq
 (.reg 0 [
 ⟨(some 32),.mov (.tmp 30),none⟩,
 ⟨(some 6),.mov (.tmp 32),none⟩])
 (.seq
 (.seq
 (.reg 1 [
 ⟨(some 34),.mov (.tmp 0),none⟩,
 ⟨(some 35),.mov (.tmp 6),none⟩,
 ⟨(some 36),.bin .mul true (.tmp 35) (.const (.int .i64 129)),none⟩,
 ⟨(some 37),.call 31 [(.tmp 34),(.tmp 36)],none⟩,
 ⟨(some 33),.mov (.tmp 37),none⟩,
 ⟨(some 38),.ext (.tmp 33) 0,none⟩,
 ⟨(some 39),.ext (.tmp 33) 1,none⟩,
 ⟨(some 7),.alloc 0 (.agg (yaX 64 (.int .u8 0))),none⟩,
 ⟨none,.store 64 (.tmp 7) (.tmp 38),none⟩,
 ⟨(some 8),.mov (.tmp 39),none⟩])
 (.seq
 (.reg 0 [
 ⟨(some 40),.mov (.tmp 8),none⟩,
 ⟨(some 41),.bin .eql false (.tmp 40) (.const (.int .i64 0)),none⟩])
 (.cond (.tmp 41)
 (.seq
 (.reg 0 [
 ⟨(some 42),.prim (.pslc 64 true true false) [(.tmp 7),(.const (.int .i64 4)),(.const (.int .i64 12))],none⟩,
 ⟨(some 43),.call 32 [(.tmp 42)],none⟩,
 ⟨(some 9),.mov (.tmp 43),none⟩])
 (.seq
 (.tree 0
 (.take 0 [1,2,3,4,5,6,7,8,9,10,11,12] ⟨(some 44),.mov (.tmp 9),none⟩
 (.take 1 [2,3,4,5,6,7,8,9,10,11,12] ⟨(some 45),.bin .gtr false (.tmp 44) (.const (.int .i64 0)),none⟩
 (.take 2 [3,4,5,6,7,8,9,10,11,12] ⟨(some 46),.mov (.tmp 45),none⟩
 (.take 3 [4,5,6,7,8,9,10,11,12] ⟨(some 47),.mov (.tmp 9),(some (46,true))⟩
 (.take 4 [5,6,7,8,9,10,11,12] ⟨(some 48),.bin .leq false (.tmp 47) (.const (.int .i64 1152921504606846976)),(some (46,true))⟩
 (.take 5 [6,7,8,9,10,11,12] ⟨(some 49),.pick (.tmp 46) (.tmp 48) (.const (.bool false)),none⟩
 (.take 6 [7,8,9,10,11,12] ⟨(some 50),.mov (.tmp 49),none⟩
 (.take 8 [10,11,12] ⟨(some 52),.mov (.tmp 6),(some (50,true))⟩
 (.take 9 [10,11,12] ⟨(some 53),.mov (.tmp 9),(some (50,true))⟩
 (.alt 7 ⟨(some 51),.load (some 64) (.tmp 7),(some (50,true))⟩ true
 (.alt 10 ⟨(some 54),.call 33 [(.tmp 52),(.tmp 53)],(some (50,true))⟩ false
 (.take 11 [12] ⟨(some 55),.prim (.aeq false ((yaa 0 64).map fun i=>(i,(.int .u8)))) [(.tmp 51),(.tmp 54)],(some (50,true))⟩
 (.take 12 [] ⟨(some 56),.pick (.tmp 50) (.tmp 55) (.const (.bool false)),none⟩
 .done))
 .none)
 (.alt 10 ⟨(some 54),.call 33 [(.tmp 52),(.tmp 53)],(some (50,true))⟩ false
 (.take 7 [11,12] ⟨(some 51),.load (some 64) (.tmp 7),(some (50,true))⟩
 (.take 11 [12] ⟨(some 55),.prim (.aeq false ((yaa 0 64).map fun i=>(i,(.int .u8)))) [(.tmp 51),(.tmp 54)],(some (50,true))⟩
 (.take 12 [] ⟨(some 56),.pick (.tmp 50) (.tmp 55) (.const (.bool false)),none⟩
 .done)))
 .none))))))))))))
 (.cond (.tmp 56)
 (.tree 0
 (.take 0 [1,2,3,13,14,15,16,17] ⟨(some 57),.mov (.tmp 5),none⟩
 (.take 1 [2,3,13,14,15,16,17] ⟨(some 58),.nilc (.tmp 57),none⟩
 (.take 2 [3,13,14,15,16,17] ⟨(some 59),.fld 1 (.tmp 58),none⟩
 (.take 3 [13,14,15,16,17] ⟨(some 60),.load none (.tmp 59),none⟩
 (.take 4 [13,14,15,16,17] ⟨(some 61),.mov (.tmp 6),none⟩
 (.take 5 [15,16,17] ⟨(some 62),.mov (.tmp 5),none⟩
 (.take 6 [13,14,15,16,17] ⟨(some 63),.mov (.tmp 9),none⟩
 (.take 7 [8,9,10,12,13,14,15,16,17] ⟨(some 64),.mov (.tmp 5),none⟩
 (.take 8 [9,10,12,13,14,15,16,17] ⟨(some 65),.nilc (.tmp 64),none⟩
 (.take 9 [10,12,13,14,15,16,17] ⟨(some 66),.fld 2 (.tmp 65),none⟩
 (.take 10 [12,13,14,15,16,17] ⟨(some 67),.load none (.tmp 66),none⟩
 (.take 11 [12,15,16,17] ⟨(some 68),.mov (.tmp 9),none⟩
 (.take 12 [15,16,17] ⟨(some 69),.minmax true (.tmp 67) (.tmp 68),none⟩
 (.take 13 [14,15,16,17] ⟨(some 70),.idx 1 (.tmp 60) (.tmp 61),none⟩
 (.alt 14 ⟨none,.store 1 (.tmp 70) (.tmp 63),none⟩ false
 (.take 15 [16,17] ⟨(some 71),.nilc (.tmp 62),none⟩
 (.take 16 [17] ⟨(some 72),.fld 2 (.tmp 71),none⟩
 (.alt 17 ⟨none,.store 1 (.tmp 72) (.tmp 69),none⟩ false
 .done
 .none)))
 .none))))))))))))))))
 .skip)))
 .skip)))
 (.seq
 (.reg 0 [
 ⟨(some 73),.mov (.const (.int .i64 0)),none⟩])
 (.block 3
 (.loop c15ol1))))))
 (.reg 0 [
 ⟨(some 141),.bin .add true (.tmp 30) (.const (.int .i64 1)),none⟩,
 ⟨(some 30),.mov (.tmp 141),none⟩])))
def c15o:LCode :=
 (.seq
 (.reg 0 [
 ⟨(some 2),.mov (.const (.pointer none)),none⟩,
 ⟨(some 3),.mov (.const (.int .i64 0)),none⟩])
 (.seq
 (.reg 0 [
 ⟨(some 15),.mov (.tmp 0),none⟩,
 ⟨(some 16),.call 30 [(.tmp 15)],none⟩,
 ⟨(some 17),.bin .quo true (.tmp 16) (.const (.int .i64 129)),none⟩,
 ⟨(some 4),.mov (.tmp 17),none⟩])
 (.seq
 (.block 0
 (.seq
 (.reg 0 [
 ⟨(some 19),.mov (.tmp 4),none⟩,
 ⟨(some 20),.bin .eql false (.tmp 19) (.const (.int .i64 0)),none⟩,
 ⟨(some 18),.mov (.tmp 20),none⟩])
 (.cond (.tmp 18)
 (.seq
 (.reg 0 [
 ⟨(some 2),.mov (.const (.pointer none)),none⟩,
 ⟨(some 3),.mov (.const (.int .i64 1)),none⟩])
 .ret)
 (.seq
 (.reg 0 [
 ⟨(some 22),.mov (.tmp 0),none⟩,
 ⟨(some 23),.call 21 [(.tmp 22)],none⟩,
 ⟨(some 21),.mov (.tmp 23),none⟩])
 (.cond (.tmp 21)
 (.seq
 (.reg 0 [
 ⟨(some 2),.mov (.const (.pointer none)),none⟩,
 ⟨(some 3),.mov (.const (.int .i64 130)),none⟩])
 .ret)
 .skip)))))
 (.seq
 (.reg 2 [
 ⟨(some 24),.mov (.tmp 0),none⟩,
 ⟨(some 25),.mov (.tmp 4),none⟩,
 ⟨(some 26),.mk 0 1 8 [.int .i64 0] (.tmp 25) (.tmp 25),none⟩,
 ⟨(some 27),.build [.pointer none,.slice none 0 0,.int .i64 0,.int .i64 0,.slice none 0 0,.int .i64 0,.int .i64 0] [(0,1,(.tmp 24)),(1,1,(.tmp 26)),(5,1,(.const (.int .i64 (-1))))],none⟩,
 ⟨(some 28),.box 1 (.tmp 27),none⟩,
 ⟨(some 5),.mov (.tmp 28),none⟩])
 (.seq
 (.seq
 (.reg 0 [
 ⟨(some 29),.mov (.tmp 4),none⟩,
 ⟨(some 30),.mov (.const (.int .i64 0)),none⟩])
 (.block 1
 (.loop c15ol0)))
 (.seq
 (.reg 0 [
 ⟨(some 142),.mov (.tmp 5),none⟩,
 ⟨(some 143),.nilc (.tmp 142),none⟩,
 ⟨(some 144),.fld 4 (.tmp 143),none⟩,
 ⟨(some 145),.load none (.tmp 144),none⟩,
 ⟨(some 146),.call 36 [(.tmp 145),(.func 37)],none⟩])
 (.seq
 (.reg 0 [
 ⟨(some 147),.mov (.tmp 5),none⟩,
 ⟨(some 2),.mov (.tmp 147),none⟩,
 ⟨(some 3),.mov (.const (.int .i64 0)),none⟩])
 .ret)))))))
theorem lw15o:rlF Tryz.prog 15 c15o=some (c15o,[.tmp 2,.tmp 3],148):=by kernel_rfl
set_option maxRecDepth 20000
def dkX (S:MS) (X:List Blk):List Blk:=dkV 0 S.D::dkC S.D::.map (bR 0 S.D S.L) S.c::(dkT S.D++X)
theorem gG {S:MS}:∀ X,(Blk.var [.sl (0+1) 0 S.D.n,.mp (0+2),.i S.D.steps,.i S.D.after,.b S.D.dead]::Blk.arr 65 (S.D.cells.map Cl.enc)::Blk.map (bR 0 S.D S.L) S.c::(dkT S.D++X))=dkX S X:=fun X=>rfl
theorem pF {S:MS} {X:List Blk}:dkX S X=S.bs 0++X:=rfl
theorem j2 {S:MS} {X:List Blk}:aF [0,1,2] (dkX S X):=⟨trivial,trivial,trivial,trivial⟩
theorem Ni {S:MS} {X:List Blk} (hX:wfB (dkX S X) X):wfB (dkX S X) (dkX S X):=by
 have:=S.wf (p:=0) [] X rfl (C:=X) (by rw [pF] at hX;exact hX)
 exact this
theorem Kh {S:MS} {h Y:List Blk} {e p:Env} {b b':Nat} (he:leE e p) (hh:leH h (dkX S Y)) (hwe:wfE (dkX S Y) p) (hwb:wfB (dkX S Y) Y):leS [0,1,2] ⟨e,h,b⟩ ⟨p,dkX S Y,b'⟩:=⟨he,hh,j2,hwe,Ni hwb⟩
theorem Fp {S:MS} {X:List Blk} {j:Nat} (hj:∃ B,X[j]?=some B∧B≠.dead):aC (dkX S X) ((dkT S.D).length+(j+3)):=by
 obtain ⟨B,h1,h2⟩:=hj
 refine lN h2 ?_
 show (_::_::_::(dkT S.D++X))[(dkT S.D).length+j+1+1+1]?=_
 rw [yaq,yaq,yaq,yaf (by omega),yaF,h1]
theorem v6 {S:MS} {L:Lg} {X:List Blk} (hX:wfB (dkX S (op3 (dkT S.D).length L++X)) X):wfB (dkX S (op3 (dkT S.D).length L++X)) (op3 (dkT S.D).length L++X):=by
 refine ⟨⟨trivial,?_,trivial,trivial,?_,trivial,trivial,trivial⟩,hX⟩
 ·exact Fp (j:=0) ⟨_,rfl,by simp⟩
 ·exact Fp (j:=2) ⟨_,rfl,by simp⟩
section
variable {cx:Cx} {f:FuncId} {e:Env} {b:Nat} {K:V→St→Prop}
theorem rP (B:List Blk) (S:MS) (args xs:List V) (Q:V→MS→Prop) (hC:cx.C f (.ptr 0 0 0::xs) (S.bs 0) (yaa 3 S.n) (QF MS.bs (3+S.n) Q))
  (ha:aJ (dkX S B) (pos (yaa 0 (3+S.n))) args∧wkL xs (aV (dkX S B) (pos (yaa 0 (3+S.n))) args))
  (hbn:cx.bn=[]) (hfx:cx.fx=[0,1,2])
  (hB:B.map (aD (yaa 3 S.n))=B)
  (h3:∀ (v:V) (S':MS),S'.n=S.n→Q v S'→(∀ f,ren f v=v)∧K v ⟨aB (yaa 3 S.n) e,dkX S' B,b⟩):cF cx f (.ptr 0 0 0::args) ⟨e,dkX S B,b⟩ K:=by
 refine fD MS.bs 3 S.n (fun g hg p q f hf=>fN g.ok (by
  have h1:=hg 0
  rw [g.len] at h1
  intro j hj
  have hj2:j<3+g.n:=hj
  exact hf j (by omega))) [] B S (fun p=>S.len) (by decide) args xs Q hC ha (by rw [hbn];simp) (by rw [hfx];intro k hk;left;simp at hk;simp;omega) rfl (by simpa using hB) fun v S' h1 h2=>?_
 have hn':S'.n=S.n:=by have:=h1 0;rw [S'.len] at this;omega
 obtain ⟨q1,q2⟩:=h3 v S' hn' h2
 refine ⟨q1,by rw [hfx];exact j2,?_⟩
 simp only [yas,yaC]
 exact q2
end
theorem ahD {L:Lg} {f:Value × V × Nat→Value × V × Nat}:(bR 0 L.S.D L.S.L).map f=bR 0 L.S.D L.S.L:=rfl
abbrev ajG (S:MS) (k:Nat) (L:Lg) (N:Nat) (j:Nat):St:=⟨[(73,.i j),(6,.i k),(5,.ptr ((dkT S.D).length+4) 0 0),(29,.i N),(30,.i k),(0,.ptr 0 0 0),(4,.i N)],dkX S (op3 (dkT S.D).length L),0⟩
section
variable {N R:St→Prop} {Xx:Nat→St→Prop} {bb:Nat}
theorem Fk (S:MS) (j:Nat) (h:3≤j):((dkT S.D).length+j∈yaa 3 S.n)=False:=eq_false fun hm=>by
 have:=yac.1 hm
 have:=S.T_len
 omega
theorem xA (S:MS):(0∈yaa 3 S.n)=False:=eq_false fun hm=>by
 have:=yac.1 hm
 omega
theorem adV {L0 L:Lg} {k j f nn:Nat} {e:Env} (g73:get e 73=.i j) (g6:get e 6=.i k) (g5:get e 5=.ptr ((dkT L0.S.D).length+4) 0 0) (g29:get e 29=.i nn) (g30:get e 30=.i k) (g0:get e 0=.ptr 0 0 0) (g4:get e 4=.i nn) (hs:Sc L0 L f) (hc:L0.Cln) (hk:k<L0.gens.length) (hj:j<16) (hf:L0.found.length+f≤20000) (hN:∀ e b',get e 73=.i j→get e 6=.i k→get e 5=.ptr ((dkT L0.S.D).length+4) 0 0→get e 29=.i nn→get e 30=.i k→get e 0=.ptr 0 0 0→get e 4=.i nn→∀ X,N ⟨e,dkX L0.S (op3 (dkT L0.S.D).length (L.slo k j)++X),b'⟩) :
  aw (cxN Tryz.prog [0,1,2]) (Wi (pt 0 (rt 2 c15ol1))) N Xx R ⟨e,dkX L0.S (op3 (dkT L0.S.D).length L),bb⟩:=by
 have hcl:=hs.cln hc
 have hrb:=hcl.rdb (by rw [hs.gl];exact hk) hj
 have hD:L0.D=L.D:=hs.D.symm
 have hgl:=hs.gl
 have hfl:=hs.fl
 have hkb:k≤600:=by have:=hc.c;have:=hc.n;omega
 have hrd:∀ (i:Nat) (h:i<8),L0.S.D.rd ((k:Int)*129+1+(j:Int)*8+(i:Int))=((L.secs k j)[i]'(by rw [nI];exact h),0):=by
  intro i h
  show L0.D.rd _=_
  rw [hD]
  exact hrb.rd i h
 have h64:In64 [(k:Int),(j:Int)]:=by
  intro x hx
  simp only [yaY,yaZ,or_false] at hx
  rcases hx with rfl|rfl<;>omega
 have hb:=mP (L:=L) (a:=k) (b:=j)
 obtain ⟨u1,u2,u3⟩:=pP hb
 have u1':(us (flB (L.secs k j))).length=512:=u1
 have d4:=Fk L0.S 4 (by omega)
 have d0:=xA L0.S
 have ki:∀ {i:Nat} {x:Int},get e i=.i x→get (aB (yaa 3 L0.S.n) e) i=.i x:=fun g=>by rw [aH,g];rfl
 have k0:get (aB (yaa 3 L0.S.n) e) 0=.ptr 0 0 0:=by rw [aH,g0];simp only [kill,d0,if_false]
 have k5:get (aB (yaa 3 L0.S.n) e) 5=.ptr ((dkT L0.S.D).length+4) 0 0:=by rw [aH,g5];simp only [kill,d4,if_false]
 have k6:=ki g6
 have k73:=ki g73
 have k29:=ki g29
 have k30:=ki g30
 have k4:=ki g4
 conv=>arg 2;whnf
 unfold dkX op3
 simp -implicitDefEqProofs only [rX,↓reduceIte,Nat.reduceEqDiff,Nat.reduceAdd,reduceCtorEq,cxN,dM,dkV,dkC,i5,g73,g6,g0]
 simp only [gG]
 have d3:=Fk L0.S 3 (by omega)
 have d5:=Fk L0.S 5 (by omega)
 have d6:=Fk L0.S 6 (by omega)
 have hz:us (flB (L.secs k j))++yaR 512 (yah V.v (yaX 512 (Value.int IntKind.u8 0)).toList)=us (L.bts k j):=zD 512 mP
 refine rP _ L0.S [.i k,.i j] [.i k,.i j] _ (oS (afO L0.S k j (L.secs k j) (by omega) (by omega) nI hrd)) ⟨⟨trivial,trivial,trivial⟩,rfl,rfl,trivial⟩ rfl rfl (by simp only [yae,yak,aD,bB,kill,d3,d5,d0,if_false]) ?_
 rintro v S'-⟨rfl,rfl⟩
 refine ⟨fun g=>by simp [ren,dO,cU],?_⟩
 unfold dkX
 simp -implicitDefEqProofs only [rX,↓rY,aA,cells?,splice,↓reduceIte,Nat.reduceEqDiff,Nat.reduceAdd,aE,aB,kill,St.kill,xU,Hj,dkV,dkC,i5,n61,d0,u1',pQ,k6]
 refine ⟨by simp,?_⟩
 rw [hz]
 rw [show ((0:Int) != 0)=false from rfl,we]
 simp only [gG]
 refine ⟨Nat.le_add_right _ _,?_⟩
 rw [u2]
 refine aS (afN k j (L.bts k j) hb h64) ⟨⟨trivial,trivial,nZ.1,trivial⟩,rfl,rfl,nZ.2,trivial⟩ ?_ j2 ?_
 ·simp [ren,dO,Ep]
 cases ho:j8 k j (L.bts k j) with
 | none =>
  have hL:L.slo k j=L:=by unfold Lg.slo;rw [ho]
  rw [hL] at hN
  unfold dkX
  simp -implicitDefEqProofs only [rX,↓rY,aA,cells?,splice,↓reduceIte,Nat.reduceEqDiff,Nat.reduceAdd,aE,Rm,Ot,dkV,dkC,n61,Jj,Wx,Option.isSome]
  simp only [gG]
  exact hN _ _ (by exact k73) (by exact k6) (by exact k5) (by exact k29) (by exact k30) (by exact k0) (by exact k4) _
 | some x =>
  have hL:L.slo k j={ L with top:=max L.top x.gen,seq:=max L.seq x.seq,found:=if x.gen=L.gens.getD k 0 then L.found++[⟨k,j,x.seq,x.key⟩] else L.found }:=by unfold Lg.slo;rw [ho]
  rw [hL] at hN
  unfold dkX
  simp -implicitDefEqProofs only [rX,↓rY,qk,rdK,aA,cells?,splice,↓reduceIte,Nat.reduceEqDiff,eG,Nat.reduceAdd,reduceCtorEq,aE,bK,cE,aB,aD,kill,bB,St.kill,isD,isC,Nat.reduceLT,Nat.reduceLeDiff,yar,yau,pE,d1,nQ,o4,sW,Ci,Rm,Ot,dkV,dkC,i5,Bk,aaH,Yf,n61,slE,b6.enc,Option.isSome,k5,k6,ahD,iL,Nat.add_left_cancel_iff,Nat.reduceEqDiff]
  simp only [gG]
  have hk':k<L.gens.length:=by omega
  have hgd:L.gens.getD k 0=L.gens[k]:=by rw [yai,yaI hk'];rfl
  rw [hgd] at hN
  refine ⟨⟨by omega,by omega⟩,hk',?_⟩
  cases he:x.gen==L.gens[k] with
  | true =>
   rw [if_pos (by simpa using he)] at hN
   rw [wd,yaH (by rw [yag];exact yam _)]
   simp only [op3,yal,yaj,yae,yak,ybn,yax,yaB] at hN
   have j73:get (aB [(dkT L0.S.D).length+5] (aB (yaa 3 L0.S.n) e)) 73=.i j:=by rw [aH,k73];rfl
   have j6:get (aB [(dkT L0.S.D).length+5] (aB (yaa 3 L0.S.n) e)) 6=.i k:=by rw [aH,k6];rfl
   have j5:get (aB [(dkT L0.S.D).length+5] (aB (yaa 3 L0.S.n) e)) 5=.ptr ((dkT L0.S.D).length+4) 0 0:=by rw [aH,k5];simp [kill]
   have j29:get (aB [(dkT L0.S.D).length+5] (aB (yaa 3 L0.S.n) e)) 29=.i nn:=by rw [aH,k29];rfl
   have j30:get (aB [(dkT L0.S.D).length+5] (aB (yaa 3 L0.S.n) e)) 30=.i k:=by rw [aH,k30];rfl
   have j0:get (aB [(dkT L0.S.D).length+5] (aB (yaa 3 L0.S.n) e)) 0=.ptr 0 0 0:=by rw [aH,k0];simp [kill]
   have j4:get (aB [(dkT L0.S.D).length+5] (aB (yaa 3 L0.S.n) e)) 4=.i nn:=by rw [aH,k4];rfl
   exact ⟨⟨by omega,hN _ _ (by exact j73) (by exact j6) (by exact j5) (by exact j29) (by exact j30) (by exact j0) (by exact j4) _⟩,by omega,hN _ _ (by exact j73) (by exact j6) (by exact j5) (by exact j29) (by exact j30) (by exact j0) (by exact j4) _⟩
  | false =>
   rw [if_neg (by simpa using he)] at hN
   rw [we]
   exact hN _ _ (by exact k73) (by exact k6) (by exact k5) (by exact k29) (by exact k30) (by exact k0) (by exact k4) _
end
set_option maxRecDepth 20000
theorem ahV {S:MS} {X:List Blk} {j:Nat} {B:Blk} (hj:X[j]?=some B):blk (dkX S X) ((dkT S.D).length+(j+3))=B:=by
 rw [blk,yai]
 show ((_::_::_::(dkT S.D++X))[(dkT S.D).length+j+1+1+1]?).getD .dead=_
 rw [yaq,yaq,yaq,yaf (by omega),yaF,hj]
 rfl
section
variable {N R:St→Prop} {Xx:Nat→St→Prop} {bb:Nat}
theorem adW {L0 L:Lg} {k f nn:Nat} {e:Env} (g6:get e 6=.i k) (g5:get e 5=.ptr ((dkT L0.S.D).length+4) 0 0) (g29:get e 29=.i nn) (g30:get e 30=.i k) (g0:get e 0=.ptr 0 0 0) (g4:get e 4=.i nn) (hs:Sc L0 L f) (hc:L0.Cln) (hk:k<L0.gens.length) (hN:∀ e b',get e 6=.i k→get e 5=.ptr ((dkT L0.S.D).length+4) 0 0→get e 29=.i nn→get e 30=.i k→get e 0=.ptr 0 0 0→get e 4=.i nn→∀ X,N ⟨e,dkX L0.S (op3 (dkT L0.S.D).length (L.hd k)++X),b'⟩) :
  aw (cxN Tryz.prog [0,1,2]) (pt 0 (rt 1 (Wi (pt 0 (rt 2 c15ol0))))) N Xx R ⟨e,dkX L0.S (op3 (dkT L0.S.D).length L),bb⟩:=by
 have hcl:=hs.cln hc
 have hD:L0.D=L.D:=hs.D.symm
 have hgl:=hs.gl
 have hkb:k≤600:=by have:=hc.c;have:=hc.n;omega
 have hrd:L0.S.D.rd ((k:Int)*129)=((L.cells.getD (k*129) zC).s,0):=by
  show L0.D.rd _=_
  rw [hD]
  exact hcl.rd (by omega)
 have d4:=Fk L0.S 4 (by omega)
 have d3:=Fk L0.S 3 (by omega)
 have d5:=Fk L0.S 5 (by omega)
 have d6:=Fk L0.S 6 (by omega)
 have d0:=xA L0.S
 obtain ⟨sc,hsc⟩:∃ sc,sc=(L.cells.getD (k*129) zC).s:=⟨_,rfl⟩
 have hg:L.hg k=cP (((nE sc).drop 4).take 8):=by unfold Lg.hg;rw [←hsc]
 have hok:L.hok k=(decide (0<L.hg k)&&(decide (L.hg k≤1152921504606846976)&&decide (sc=hdS k (L.hg k)))):=by unfold Lg.hok;rw [←hsc]
 rw [←hsc] at hrd
 have ki:∀ {i:Nat} {x:Int},get e i=.i x→get (aB (yaa 3 L0.S.n) e) i=.i x:=fun g=>by rw [aH,g];rfl
 have k0:get (aB (yaa 3 L0.S.n) e) 0=.ptr 0 0 0:=by rw [aH,g0];simp only [kill,d0,if_false]
 have k5:get (aB (yaa 3 L0.S.n) e) 5=.ptr ((dkT L0.S.D).length+4) 0 0:=by rw [aH,g5];simp only [kill,d4,if_false]
 have k6:=ki g6
 have k29:=ki g29
 have k30:=ki g30
 have k4:=ki g4
 conv=>arg 2;whnf
 unfold dkX op3
 simp -implicitDefEqProofs only [rX,↓rY,aA,↓reduceIte,Nat.reduceEqDiff,Nat.reduceAdd,cxN,dkV,dkC,i5,g6,g0]
 simp only [gG]
 refine ⟨⟨by simp only [lo];omega,by simp only [hi];omega⟩,?_⟩
 refine rP _ L0.S [.i ((k:Int)*129)] [.i ((k:Int)*129)] _ (oS (afR L0.S ((k:Int)*129))) ⟨⟨trivial,trivial⟩,rfl,trivial⟩ rfl rfl (by simp only [yae,yak,aD,bB,kill,d3,d5,d0,if_false]) ?_
 rintro v S'-⟨rfl,rfl⟩
 rw [hrd]
 refine ⟨fun g=>by simp [ren,dO,Jk],?_⟩
 unfold dkX
 simp -implicitDefEqProofs only [rX,↓rY,kf,aA,cells?,splice,↓reduceIte,Nat.reduceEqDiff,Nat.reduceAdd,aE,bW,aB,kill,St.kill,Lq,bV,Ai,xU,Hj,dkV,dkC,lA,n61,d0]
 rw [show ((0:Int)==0)=true from rfl,wd]
 simp only [gG]
 refine ⟨⟨⟨by decide,by decide⟩,by decide,by decide⟩,?_⟩
 refine aS (afQ (((nE sc).drop 4).take 8)) ?_ rfl j2 ?_
 ·have hb:=ahV (S:=L0.S) (X:=[Blk.arr 1 (yah encI L.gens),Blk.var [V.ptr 0 0 0,V.sl ((dkT L0.S.D).length+3) 0 L.gens.length,V.i L.top,V.i L.seq,V.sl ((dkT L0.S.D).length+5) 0 L.found.length,V.i L.seg,V.i L.next],Blk.arr 4 (yah Ck.enc L.found),Blk.var sc.enc]) (j:=3) rfl
  have hx:bO (dkX L0.S [Blk.arr 1 (yah encI L.gens),Blk.var [V.ptr 0 0 0,V.sl ((dkT L0.S.D).length+3) 0 L.gens.length,V.i L.top,V.i L.seq,V.sl ((dkT L0.S.D).length+5) 0 L.found.length,V.i L.seg,V.i L.next],Blk.arr 4 (yah Ck.enc L.found),Blk.var sc.enc]) (fun _=>none) (V.sl ((dkT L0.S.D).length+6) (yaD 4) (yaD 12-yaD 4))=byV (((nE sc).drop 4).take 8):=by
   simp only [bO]
   rw [hb]
   simp only
   have h1:yaA 8 (yaR 4 sc.enc)=us (((nE sc).drop 4).take 8):=by rw [←uM,Cd,uL]
   rw [show yaD 4=4 from rfl,show yaD 12-4=8 from rfl,bV,h1,Ty]
   rw [if_pos (by decide)]
   unfold byV us
   rw [yba]
   rfl
  refine ⟨⟨?_,trivial⟩,?_,trivial⟩
  ·simp only [aU]
   rw [hb]
   trivial
  ·rw [hx]
   exact ⟨rfl,rfl⟩
 rw [←hg]
 have h64:In64 [(k:Int),L.hg k]→L.hg k=L.hg k:=fun _=>rfl
 unfold dkX
 simp -implicitDefEqProofs only [rX,↓rY,rdK,aA,↓reduceIte,Nat.reduceEqDiff,Nat.reduceAdd,bV,fJ,xU,dkV,dkC,n61,k6]
 simp only [gG]
 have hno:L.hok k=false→L.hd k=L:=fun h=>by unfold Lg.hd;rw [h];rfl
 have hyes:L.hok k=true→L.hd k={ L with gens:=L.gens.set k (L.hg k),top:=max L.top (L.hg k) }:=fun h=>by unfold Lg.hd;rw [if_pos h]
 cases h1:decide (0<L.hg k) with
 | false =>
  rw [h1,yaU] at hok
  rw [hno hok] at hN
  rw [we]
  first|exact hN _ _ (by exact k6) (by exact k5) (by exact k29) (by exact k30) (by exact k0) (by exact k4) _|exact ⟨hN _ _ (by exact k6) (by exact k5) (by exact k29) (by exact k30) (by exact k0) (by exact k4) _,hN _ _ (by exact k6) (by exact k5) (by exact k29) (by exact k30) (by exact k0) (by exact k4) _⟩
 | true =>
 rw [h1,Bool.true_and] at hok
 rw [wd]
 cases h2:decide (L.hg k≤1152921504606846976) with
 | false =>
  rw [h2,yaU] at hok
  rw [hno hok] at hN
  rw [we]
  first|exact hN _ _ (by exact k6) (by exact k5) (by exact k29) (by exact k30) (by exact k0) (by exact k4) _|exact ⟨hN _ _ (by exact k6) (by exact k5) (by exact k29) (by exact k30) (by exact k0) (by exact k4) _,hN _ _ (by exact k6) (by exact k5) (by exact k29) (by exact k30) (by exact k0) (by exact k4) _⟩
 | true =>
 rw [h2,Bool.true_and] at hok
 rw [wd]
 have h1':=of_decide_eq_true h1
 have h2':=of_decide_eq_true h2
 have h64:In64 [(k:Int),L.hg k]:=by
  intro x hx
  simp only [yaY,yaZ,or_false] at hx
  rcases hx with rfl|rfl<;>omega
 have hk':k<L.gens.length:=by omega
 constructor
 all_goals
  refine aS (afP k (L.hg k) h64) ⟨⟨trivial,trivial,trivial⟩,rfl,rfl,trivial⟩ (by simp [ren,cU]) j2 ?_
  rw [Kr]
  unfold dkX
  simp -implicitDefEqProofs only [rX,↓rY,qk,rdK,cells?,splice,↓reduceIte,Nat.reduceEqDiff,eG,Nat.reduceAdd,isD,isC,Nat.reduceLeDiff,yar,yau,lS,bV,fJ,d1,fU,nQ,o4,xU,dkV,dkC,n61,k5,k6,Vs,Nat.reduceEqDiff]
  simp only [gG]
  cases h3:decide (sc=hdS (k:Int) (L.hg k)) with
  | false =>
   rw [h3] at hok
   rw [hno hok] at hN
   rw [we]
   exact hN _ _ (by exact k6) (by exact k5) (by exact k29) (by exact k30) (by exact k0) (by exact k4) _
  | true =>
   rw [h3] at hok
   rw [hyes hok] at hN
   rw [wd]
   refine ⟨⟨by omega,by omega⟩,hk',?_⟩
   simp only [op3,List.map_set,yaM] at hN
   exact hN _ _ (by exact k6) (by exact k5) (by exact k29) (by exact k30) (by exact k0) (by exact k4) _
end
set_option maxRecDepth 20000
abbrev B15:LCode:=Wi (pt 0 (rt 2 c15ol0))
theorem Qv:c15ol0=.seq (pt 0 c15ol0) (.seq (pt 1 c15ol0) (.seq (.block 2 (.seq (pt 0 B15) (.seq (pt 0 (rt 1 B15)) (.seq (pt 0 (rt 2 B15)) (rt 3 B15))))) (rt 3 c15ol0))):=by rfl
theorem Qu:c15ol1=.seq (pt 0 c15ol1) (.seq (pt 1 c15ol1) (.seq (.block 4 (Wi (pt 0 (rt 2 c15ol1)))) (rt 3 c15ol1))):=by rfl
section
variable {N R:St→Prop} {Xx:Nat→St→Prop} {bb:Nat}
theorem nJ {S:MS} {L:Lg} {X:List Blk}:aC (dkX S (op3 (dkT S.D).length L++X)) ((dkT S.D).length+4):=Fp (j:=1) ⟨_,rfl,by simp⟩
theorem adU {L0 L:Lg} {k f nn:Nat} {e:Env} {X:List Blk} (hs:Sc L0 L f) (hc:L0.Cln) (hk:k<L0.gens.length) (hf:L0.found.length+f+16≤20000) (g73:get e 73=.i 0) (g6:get e 6=.i k) (g5:get e 5=.ptr ((dkT L0.S.D).length+4) 0 0) (g29:get e 29=.i nn) (g30:get e 30=.i k) (g0:get e 0=.ptr 0 0 0) (g4:get e 4=.i nn)
  (hN:∀ e b',get e 5=.ptr ((dkT L0.S.D).length+4) 0 0→get e 29=.i nn→get e 30=.i k→get e 0=.ptr 0 0 0→get e 4=.i nn→N ⟨e,dkX L0.S (op3 (dkT L0.S.D).length (L.slos k 16)),b'⟩) :
  aw (cxN Tryz.prog [0,1,2]) (.block 3 (.loop c15ol1)) N Xx R ⟨e,dkX L0.S (op3 (dkT L0.S.D).length L++X),bb⟩:=by
 simp -implicitDefEqProofs only [rX,cxN]
 refine a8 (fun j:Nat=>ajG L0.S k (L.slos k j) nn j) (fun j=>j≤16) (fun j=>16-j) 0 (yaw _) ?_ ?_
 ·refine Kh ⟨g73,g6,g5,g29,g30,g0,g4,trivial⟩ ?_ ⟨trivial,trivial,?_,trivial,trivial,trivial,trivial,trivial⟩ ?_
  ·show leH (L0.S.bs 0++(op3 _ L++X)) (L0.S.bs 0++op3 _ L)
   rw [←yap]
   exact cL
  ·have:=nJ (S:=L0.S) (L:=L) (X:=[])
   rw [yad] at this
   exact this
  ·have:=v6 (S:=L0.S) (L:=L) (X:=[]) trivial
   rw [yad] at this
   exact this
 intro j hj
 rw [Qu,zb]
 conv=>arg 2;whnf
 simp -implicitDefEqProofs only [rX,↓rY,aA,↓reduceIte]
 conv=>arg 2;whnf
 simp -implicitDefEqProofs only [rX,↓reduceIte]
 cases hd:decide ((j:Int)<16) with
 | true =>
  have hj2:j<16:=by have:=of_decide_eq_true hd;omega
  rw [wd]
  have hsj:=hs.slos (k:=k) (j:=j)
  refine adV (nn:=nn) rfl rfl rfl rfl rfl rfl rfl hsj hc hk hj2 (by omega) fun e b' g73 g6 g5 g29 g30 g0 g4 X=>?_
  conv=>arg 2;whnf
  simp -implicitDefEqProofs only [rX,↓rY,aA,↓reduceIte,Nat.reduceEqDiff,reduceCtorEq,leE,aF,aC,wfE,wfV,g73]
  refine ⟨⟨by simp only [lo];omega,by simp only [hi];omega⟩,j+1,⟨by omega,by omega⟩,?_⟩
  have hkp:=j2 (S:=L0.S) (X:=op3 (dkT L0.S.D).length (L.slos k (j+1)))
  have hlv:=nJ (S:=L0.S) (L:=L.slos k (j+1)) (X:=[])
  have hw:=v6 (S:=L0.S) (L:=L.slos k (j+1)) (X:=[]) trivial
  rw [yad] at hlv hw
  refine ⟨⟨by rw [Int.natCast_add];rfl,g6,g5,g29,g30,g0,g4⟩,?_,⟨hkp.1,hkp.2.1,hkp.2.2.1⟩,⟨hlv,hkp.1⟩,Ni hw⟩
  show leH (L0.S.bs 0++(op3 _ _++X)) (L0.S.bs 0++op3 _ _)
  rw [←yap]
  exact cL
 | false =>
  have hj2:j=16:=by have:=of_decide_eq_false hd;omega
  subst hj2
  rw [we]
  try simp -implicitDefEqProofs only [rX,↓rY,qg,qi,qk,ql,qm,qp,qq,qt,qw,qx,qy,qz,qA,qC,qD,qE,qF,qG,qH,qI,qO,rdK,zF,zI,zR,zV,zW,zX,zY,zZ,kf,kg,kh,kj,kp,kq,kv,kw,kD,kL,kM,kX,aA,cells?,splice,↓reduceIte,Nat.reduceEqDiff,eG,Nat.reduceAdd,reduceCtorEq,aE,bW,bK,cE,aQ,aT,leE,leH,leB,leV,cN,aF,aC,wfE,wfB,wfV,wfL,aB,aD,kill,bB,St.kill,isD,isC,Nat.reduceLT,Nat.reduceLeDiff,wX,wY,jb,jc,jg,jh,jl,jm,jq,jr,jx,jy,jC,jD,jH,jI,jS,jT,jU,jV,jW,jX,jY,jZ,qaa,qab,qac,qad,qae,qaf,qag,qah,qai,qaj,qak,qal,qam,qan,qao,qap,↓qas,↓qaL,↓qaM,↓qaQ,↓qaR,↓qaV,↓qbc,↓qbd,↓qbj,↓qbk,↓qbm,↓qbn,↓qbo,↓qbr,↓qbs,↓qbv,↓qbx,↓qbz,↓qbA,↓qbB,↓qbF,↓qbG,↓qbI,↓qbJ,↓qbK,↓qbL,↓qbO,↓qbP,↓qbQ,↓qbU,↓qbW,↓qbZ,↓qca,↓qcb,↓qcc,↓qcd,↓qce,↓qcf,↓qcg,↓qch,↓qci,↓qcj,↓qck,↓qcl,yar,yau,cxN,Qx,Du,Bp,Nat.mul_one,dX,iX,Hl,Dh,x8,So,Sn,Sl,Sk,yA,x9,Di,Sq,yB,x7,pE,lS,Sb,dM,less]
  exact hN _ _ rfl rfl rfl rfl rfl
abbrev Oj (S:MS) (nn:Nat) (L:Lg) (k:Nat):St:=⟨[(30,.i k),(29,.i nn),(5,.ptr ((dkT S.D).length+4) 0 0),(0,.ptr 0 0 0),(4,.i nn)],dkX S (op3 (dkT S.D).length L),0⟩
theorem adT {L0:Lg} (hc:L0.Cln) (h0:L0.found=[]) (k:Nat) (hk:k≤L0.gens.length)
  (hN:k=L0.gens.length→∀ e b',get e 5=.ptr ((dkT L0.S.D).length+4) 0 0→get e 0=.ptr 0 0 0→Xx 1 ⟨e,dkX L0.S (op3 (dkT L0.S.D).length (L0.scan L0.gens.length)),b'⟩) :
  aw (cxN Tryz.prog [0,1,2]) c15ol0 (fun s'=>∃ g':Nat,(g'≤L0.gens.length∧L0.gens.length-g'<L0.gens.length-k)∧leS [0,1,2] s' (Oj L0.S L0.gens.length (L0.scan g') g')) Xx R (Oj L0.S L0.gens.length (L0.scan k) k):=by
 have hs:=Sc.scan (L0:=L0) (k:=k)
 have hcc:=hc.c
 have hcn:=hc.n
 rw [Qv,zb]
 conv=>arg 2;whnf
 simp -implicitDefEqProofs only [rX,↓rY,↓reduceIte,Nat.reduceEqDiff,cxN]
 conv=>arg 2;whnf
 simp -implicitDefEqProofs only [rX,↓reduceIte]
 cases hd:decide ((k:Int)<(L0.gens.length:Int)) with
 | false =>
  have hk2:k=L0.gens.length:=by have:=of_decide_eq_false hd;omega
  rw [we]
  have:=hN hk2
  rw [←hk2] at this
  first|exact this _ _ rfl rfl
 | true =>
  have hk2:k<L0.gens.length:=by have:=of_decide_eq_true hd;omega
  have hf0:L0.found.length=0:=by rw [h0];rfl
  rw [wd]
  conv=>arg 2;whnf
  simp -implicitDefEqProofs only [rX,↓reduceIte,Nat.reduceEqDiff]
  refine adW (nn:=L0.gens.length) rfl rfl rfl rfl rfl rfl hs hc hk2 fun e b' g6 g5 g29 g30 g0 g4 X=>?_
  rw [zb]
  conv=>arg 2;whnf
  simp -implicitDefEqProofs only [rX,aA]
  have hs2:=hs.hd (k:=k)
  refine adU (nn:=L0.gens.length) (X:=X) hs2 hc hk2 (by omega) rfl g6 g5 g29 g30 g0 g4 fun e b' g5 g29 g30 g0 g4=>?_
  conv=>arg 2;whnf
  simp -implicitDefEqProofs only [rX,↓rY,aA,↓reduceIte,Nat.reduceEqDiff,reduceCtorEq,leE,aF,aC,wfE,wfV,g30]
  have hkp:=j2 (S:=L0.S) (X:=op3 (dkT L0.S.D).length (L0.scan (k+1)))
  have hlv:=nJ (S:=L0.S) (L:=L0.scan (k+1)) (X:=[])
  have hw:=v6 (S:=L0.S) (L:=L0.scan (k+1)) (X:=[]) trivial
  rw [yad] at hlv hw
  refine ⟨⟨by simp only [lo];omega,by simp only [hi];omega⟩,k+1,⟨by omega,by omega⟩,⟨by rw [Int.natCast_add];rfl,g29,g5,g0,g4⟩,aG _,⟨hkp.1,hkp.2.1,hkp.2.2.1⟩,⟨hlv,hkp.1⟩,Ni hw⟩
end
set_option maxRecDepth 20000
def Lg.blank (L:Lg):Lg:=⟨yab (L.cells.length/129) 0,0,0,[],-1,0,L.cells,L.steps,L.c⟩
def opB (L:Lg) (p:Nat):List Blk:=L.S.bs p++[.arr 1 (L.gens.map encI),.var [.ptr p 0 0,.sl (p+L.cells.length+3) 0 L.gens.length,.i L.top,.i L.seq,.sl (p+L.cells.length+5) 0 L.found.length,.i L.seg,.i L.next],.arr 4 (L.found.map Ck.enc)]
def Lg.opn (L:Lg) (fd:List Ck):Lg:={ L.blank.scan (L.cells.length/129) with found:=fd }
def R15 (L:Lg):V→List Blk→Prop:=fun r h =>
 (L.cells.length<129∧r=.tup [.v (.pointer none),.i 1]∧h=L.S.bs 0) ∨
 (129≤L.cells.length∧∃ fd,yQ (L.blank.scan (L.cells.length/129)).found fd∧r=.tup [.ptr (L.cells.length+4) 0 0,.i 0]∧h=opB (L.opn fd) 0)
theorem c15_parts:c15o=.seq (pt 0 c15o) (.seq (pt 1 c15o) (.seq (pt 2 c15o) (.seq (pt 3 c15o) (.seq (.seq (pt 0 (pt 4 c15o)) (.block 1 (.loop c15ol0))) (.seq (pt 5 c15o) (rt 6 c15o)))))):=by rfl
section
variable {N R:St→Prop} {Xx:Nat→St→Prop} {bb n:Nat} {e:Env} {L:Lg}
abbrev aiA (n:Nat) (R:V→List Blk→Prop):St→Prop:=cK [0,1,2] (3+n) [.tmp 2,.tmp 3] R
theorem aeB (g0:get e 0=.ptr 0 0 0) (hl:L.cells.length≤70000) (hN:∀ e b',get e 0=.ptr 0 0 0→get e 4=.i ((L.cells.length/129:Nat):Int)→N ⟨e,dkX L.S [],b'⟩) :
  aw (cxN Tryz.prog [0,1,2]) (pt 1 c15o) N Xx R ⟨e,dkX L.S [],bb⟩:=by
 have d0:=xA L.S
 have k0:get (aB (yaa 3 L.S.n) e) 0=.ptr 0 0 0:=by rw [aH,g0];simp only [kill,d0,if_false]
 conv=>arg 2;whnf
 simp -implicitDefEqProofs only [rX,↓reduceIte,cxN,g0]
 refine rP [] L.S [] [] _ (oS (akL L.S)) ⟨trivial,trivial⟩ rfl rfl rfl ?_
 rintro v S'-⟨rfl,rfl⟩
 refine ⟨fun g=>rfl,?_⟩
 simp -implicitDefEqProofs only [rX,↓rY,aA,↓reduceIte,aB,kill,St.kill]
 have e1:((L.S.n:Nat):Int).tdiv 129=((L.cells.length/129:Nat):Int):=by
  rw [Int.tdiv_eq_ediv_of_nonneg (by omega)]
  have:L.S.n=L.cells.length:=rfl
  omega
 rw [e1]
 exact ⟨by decide,⟨by simp only [lo];omega,by simp only [hi];omega⟩,hN _ _ (by exact k0) rfl⟩
theorem aeA {Rr:V→List Blk→Prop} (g0:get e 0=.ptr 0 0 0) (g4:get e 4=.i ((L.cells.length/129:Nat):Int)) (hR:L.cells.length<129→Rr (.tup [.v (.pointer none),.i 1]) (L.S.bs 0)) (hn:L.cells.length=n)
  (hN:129≤L.cells.length→∀ e b',get e 0=.ptr 0 0 0→get e 4=.i ((L.cells.length/129:Nat):Int)→N ⟨e,dkX L.S [],b'⟩) :
  aw (cxN Tryz.prog [0,1,2]) (pt 2 c15o) N Xx (aiA n Rr) ⟨e,dkX L.S [],bb⟩:=by
 have d0:=xA L.S
 have k0:get (aB (yaa 3 L.S.n) e) 0=.ptr 0 0 0:=by rw [aH,g0];simp only [kill,d0,if_false]
 have k4:get (aB (yaa 3 L.S.n) e) 4=.i ((L.cells.length/129:Nat):Int):=by rw [aH,g4];rfl
 conv=>arg 2;whnf
 simp -implicitDefEqProofs only [rX,↓rY,aA,↓reduceIte,reduceCtorEq,cxN,g0,g4]
 cases hd:(((L.cells.length/129:Nat):Int)==0) with
 | true =>
  have h0:((L.cells.length/129:Nat):Int)=0:=by simpa using hd
  rw [wd]
  unfold aiA
  rw [cJ]
  simp only [aQ,aT,ybb,ybc,yaB,yax]
  refine ⟨L.S.bs 0,⟨?_,⟨trivial,trivial,trivial,trivial⟩,by rw [L.S.len];show 3+n≤3+L.cells.length;omega,⟨trivial,trivial,trivial⟩,?_⟩,hR (by omega)⟩
  ·rw [pF,yad];exact aG _
  ·have:=Ni (S:=L.S) (X:=[]) trivial
   rw [pF,yad] at this
   exact this
 | false =>
  have h0:¬((L.cells.length/129:Nat):Int)=0:=by simpa using hd
  rw [we]
  refine rP [] L.S [] [] _ (oS (Pw L.S)) ⟨trivial,trivial⟩ rfl rfl rfl ?_
  rintro v S'-⟨rfl,rfl⟩
  refine ⟨fun g=>rfl,?_⟩
  simp -implicitDefEqProofs only [rX,aA,↓reduceIte,aB,kill,St.kill]
  rw [show L.S.D.dead=false from rfl,we]
  exact hN (by omega) _ _ (by exact k0) (by exact k4)
theorem adZ (g0:get e 0=.ptr 0 0 0) (g4:get e 4=.i ((L.cells.length/129:Nat):Int)) (hl:L.cells.length≤70000)
  (hN:∀ e b',get e 0=.ptr 0 0 0→get e 4=.i ((L.cells.length/129:Nat):Int)→get e 5=.ptr ((dkT L.S.D).length+4) 0 0→N ⟨e,dkX L.S [.arr 1 (L.blank.gens.map encI),.var [.ptr 0 0 0,.sl ((dkT L.S.D).length+3) 0 L.blank.gens.length,.i 0,.i 0,.nil,.i (-1),.i 0]],b'⟩) :
  aw (cxN Tryz.prog [0,1,2]) (pt 3 c15o) N Xx R ⟨e,dkX L.S [],bb⟩:=by
 conv=>arg 2;whnf
 unfold dkX
 simp -implicitDefEqProofs only [rX,↓rY,aA,cells?,splice,↓reduceIte,Nat.reduceEqDiff,Nat.reduceAdd,aE,bK,Nat.reduceLeDiff,yau,cxN,d1,fU,nQ,o4,dkV,dkC,n61,g0,g4]
 have hg:yah encI L.blank.gens=yab (L.cells.length/129) [V.v (Value.int IntKind.i64 0)]:=by
  unfold Lg.blank
  rw [yaG];rfl
 have hgl:L.blank.gens.length=L.cells.length/129:=by unfold Lg.blank;exact yan ..
 rw [hg,hgl] at hN
 refine ⟨⟨⟨by omega,by omega⟩,by omega,by omega⟩,hN _ _ (by exact g0) (by exact g4) rfl⟩
theorem Dl {S:MS} {X Y:List Blk}:dkX S X++Y=dkX S (X++Y):=by
 unfold dkX
 simp only [yax,yap]
theorem Vx {S:MS} {X:List Blk} {j:Nat}:(dkX S X)[(dkT S.D).length+(j+3)]?=X[j]?:=by
 show (_::_::_::(dkT S.D++X))[(dkT S.D).length+j+1+1+1]?=_
 rw [yaq,yaq,yaq,yaf (by omega),yaF]
theorem Lh {S:MS} {X:List Blk} {j:Nat} {B:Blk}:(dkX S X).set ((dkT S.D).length+(j+3)) B=dkX S (X.set j B):=by
 show (_::_::_::(dkT S.D++X)).set ((dkT S.D).length+j+1+1+1) B=_
 rw [yaE,yaE,yaE,yav _ _ (by omega),yaF]
 rfl
theorem akX {a b c d e f:V} {k:Nat}:Cu [a,b,c,d,.nil,e,f] [a,b,c,d,.sl k 0 0,e,f]:=⟨rfl,fun i x y h1 h2=>by
 rcases i with _|_|_|_|_|_|_|i
 all_goals simp at h1 h2
 all_goals first|exact .inl (h2.symm.trans h1)|exact .inr ⟨h1.symm,k,h2.symm⟩⟩
theorem adY (g0:get e 0=.ptr 0 0 0) (g4:get e 4=.i ((L.cells.length/129:Nat):Int)) (g5:get e 5=.ptr ((dkT L.S.D).length+4) 0 0) (hl:L.cells.length≤70000) (hb:∀ c∈L.cells,c.bad=false)
  (hN:∀ e b',get e 5=.ptr ((dkT L.S.D).length+4) 0 0→get e 0=.ptr 0 0 0→N ⟨e,dkX L.S (op3 (dkT L.S.D).length (L.blank.scan (L.cells.length/129))),b'⟩) :
  aw (cxN Tryz.prog [0,1,2]) (.seq (pt 0 (pt 4 c15o)) (.block 1 (.loop c15ol0))) N Xx R ⟨e,dkX L.S [.arr 1 (L.blank.gens.map encI),.var [.ptr 0 0 0,.sl ((dkT L.S.D).length+3) 0 L.blank.gens.length,.i 0,.i 0,.nil,.i (-1),.i 0]],bb⟩:=by
 have hgl:L.blank.gens.length=L.cells.length/129:=by unfold Lg.blank;exact yan ..
 have hc:L.blank.Cln:=⟨by rw [hgl];show _≤L.cells.length;omega,hl,hb⟩
 rw [zb]
 conv=>arg 2;whnf
 simp -implicitDefEqProofs only [rX,aA,cxN,g4]
 refine dV (.virt 1 4 (by decide) (.nilB ((dkT L.S.D).length+4) [.ptr 0 0 0,.sl ((dkT L.S.D).length+3) 0 L.blank.gens.length,.i 0,.i 0,.nil,.i (-1),.i 0] [.ptr 0 0 0,.sl ((dkT L.S.D).length+3) 0 L.blank.gens.length,.i 0,.i 0,.sl ((dkT L.S.D).length+5) 0 0,.i (-1),.i 0] ?_ akX (.refl _))) (fun k:Nat=>Oj L.S L.blank.gens.length (L.blank.scan k) k) (fun k=>k≤L.blank.gens.length) (fun k=>L.blank.gens.length-k) 0 (yaw _) ?_ ?_
 ·show (dkX L.S _++_)[(dkT L.S.D).length+(1+3)]?=_
  rw [Dl,Vx]
  rfl
 ·have hw:=v6 (S:=L.S) (L:=L.blank) (X:=[]) trivial
  have hlv:=nJ (S:=L.S) (L:=L.blank) (X:=[])
  rw [yad] at hlv hw
  refine Kh ⟨rfl,?_,g5,g0,?_,trivial⟩ ?_ ⟨trivial,trivial,hlv,trivial,trivial,trivial⟩ hw
  ·rw [hgl];rfl
  ·rw [hgl];exact g4
  ·show leH ((dkX L.S _++_).set ((dkT L.S.D).length+(1+3)) _) _
   rw [Dl,Lh]
   exact aG _
 ·intro k hk
  refine adT (L0:=L.blank) hc rfl k hk fun hk2 e b' g5 g0=>?_
  rw [if_pos rfl]
  have:=hN e b' g5 g0
  rw [←hgl] at this
  exact this
theorem adX {L1:Lg} (hl:L1.found.length≤100000) (g5:get e 5=.ptr ((dkT L.S.D).length+4) 0 0)
  (hN:∀ fd e b',yQ L1.found fd→get e 5=.ptr ((dkT L.S.D).length+4) 0 0→N ⟨e,dkX L.S (op3 (dkT L.S.D).length { L1 with found:=fd }),b'⟩) :
  aw (cxN Tryz.prog [0,1,2]) (pt 5 c15o) N Xx R ⟨e,dkX L.S (op3 (dkT L.S.D).length L1),bb⟩:=by
 conv=>arg 2;whnf
 unfold dkX op3
 simp -implicitDefEqProofs only [rX,↓rY,↓reduceIte,Nat.reduceAdd,cxN,nQ,dkV,dkC,g5]
 simp only [gG]
 have hb:blk (dkX L.S [Blk.arr 1 (L1.gens.map encI),.var [.ptr 0 0 0,.sl ((dkT L.S.D).length+3) 0 L1.gens.length,.i L1.top,.i L1.seq,.sl ((dkT L.S.D).length+5) 0 L1.found.length,.i L1.seg,.i L1.next],.arr 4 (L1.found.map Ck.enc)]) ((dkT L.S.D).length+5)=.arr 4 (L1.found.map Ck.enc):=ahV (j:=2) rfl
 have hlen:(dkT L.S.D).length+5<(dkX L.S [Blk.arr 1 (L1.gens.map encI),.var [.ptr 0 0 0,.sl ((dkT L.S.D).length+3) 0 L1.gens.length,.i L1.top,.i L1.seq,.sl ((dkT L.S.D).length+5) 0 L1.found.length,.i L1.seg,.i L1.next],.arr 4 (L1.found.map Ck.enc)]).length:=by
  unfold dkX
  simp only [yao,yaj,yas]
  omega
 refine Sz (yQ L1.found) [(dkT L.S.D).length+5] [] [] [.sl 0 0 L1.found.length,.clo 37 []] (fun _=>.tup []) [.arr 4 (L1.found.map Ck.enc)] (fun d=>[.arr 4 (d.map Ck.enc)]) (akK L1.found (by omega)) ⟨by simp,fun k hk=>⟨by rw [yaJ] at hk;subst hk;exact hlen,by simp⟩⟩ ⟨rfl,by simp⟩ ?_ ?_ fun fd hfd=>?_
 ·simp only [yae,yak,hb]
  rfl
 ·refine ⟨⟨?_,?_,trivial⟩,?_,?_,trivial⟩
  ·simp [aU,pos]
  ·simp [aU,aJ]
  ·simp [bO,pos,wk]
  ·simp [bO,aV,wk,wkL]
 ·have hfl:fd.length=L1.found.length:=hfd.p.length_eq
  have hH:aY [(dkT L.S.D).length+5] (yah (bD (back [(dkT L.S.D).length+5] (dkX L.S [Blk.arr 1 (L1.gens.map encI),.var [.ptr 0 0 0,.sl ((dkT L.S.D).length+3) 0 L1.gens.length,.i L1.top,.i L1.seq,.sl ((dkT L.S.D).length+5) 0 L1.found.length,.i L1.seg,.i L1.next],.arr 4 (L1.found.map Ck.enc)]).length)) [Blk.arr 4 (yah Ck.enc fd)]) (yah (aD []) (dkX L.S [Blk.arr 1 (L1.gens.map encI),.var [.ptr 0 0 0,.sl ((dkT L.S.D).length+3) 0 L1.gens.length,.i L1.top,.i L1.seq,.sl ((dkT L.S.D).length+5) 0 L1.found.length,.i L1.seg,.i L1.next],.arr 4 (L1.found.map Ck.enc)]))=dkX L.S (op3 (dkT L.S.D).length { L1 with found:=fd }):=by
   rw [oG]
   simp only [yae,yak,bD,aY,yad]
   rw [show (dkT L.S.D).length+5=(dkT L.S.D).length+(2+3) from rfl,Lh]
   unfold op3
   simp only [hfl]
   rfl
  rw [hH]
  refine ⟨j2,?_⟩
  rw [iF]
  simp -implicitDefEqProofs only [rX]
  exact hN fd _ _ hfd (by exact g5)
end
theorem Yj {L:Lg} {fd:List Ck}:(L.opn fd).S=L.S:=by
 have hs:=Sc.scan (L0:=L.blank) (k:=L.cells.length/129)
 have h1:(L.opn fd).cells=L.cells:=hs.cells
 have h2:(L.opn fd).steps=L.steps:=hs.steps
 have h3:(L.opn fd).c=L.c:=hs.c
 have hD:(L.opn fd).D=L.D:=by unfold Lg.D;rw [h1,h2]
 show (⟨(L.opn fd).D,[],(L.opn fd).c,_⟩:MS)=⟨L.D,[],L.c,_⟩
 congr 1
theorem akR (L:Lg) (hl:L.cells.length≤70000) (hb:∀ c∈L.cells,c.bad=false):OkN Tryz.prog 15 [.ptr 0 0 0] (L.S.bs 0) (yaa 3 L.S.n) (R15 L):=by
 have e0:dkX L.S []=L.S.bs 0:=by rw [pF,yad]
 have hT:=L.S.T_len
 refine e6 pol [0,1,2] lw15o (by simp) ⟨trivial,trivial,trivial,trivial⟩ (fun k hk hm=>?_) ?_
 ·rw [L.S.len] at hk
  have:¬(3≤k∧k<3+L.S.n):=fun h2=>hm (yac.2 h2)
  have h3:k=0∨k=1∨k=2:=by omega
  rcases h3 with rfl|rfl|rfl<;>simp
 rw [L.S.len,←e0,c15_parts,zb]
 conv=>arg 2;whnf
 simp -implicitDefEqProofs only [rX,aA,cxN,aR]
 refine aeB rfl hl fun e b' g0 g4=>?_
 rw [zb]
 refine aeA (n:=L.S.n) g0 g4 (fun h=>.inl ⟨h,rfl,rfl⟩) rfl fun h129 e b' g0 g4=>?_
 rw [zb]
 refine adZ g0 g4 hl fun e b' g0 g4 g5=>?_
 rw [zb]
 refine adY g0 g4 g5 hl hb fun e b' g5 g0=>?_
 have hs:=Sc.scan (L0:=L.blank) (k:=L.cells.length/129)
 have hfl:=hs.fl
 have hf0:L.blank.found.length=0:=rfl
 rw [zb]
 refine adX (L1:=L.blank.scan (L.cells.length/129)) (by omega) g5 fun fd e b' hfd g5=>?_
 conv=>arg 2;whnf
 simp -implicitDefEqProofs only [rX,aA,↓reduceIte,g5]
 have hH:dkX L.S (op3 (dkT L.S.D).length (L.opn fd))=opB (L.opn fd) 0:=by
  rw [pF]
  unfold opB
  rw [Yj,hT]
  have h1:(L.opn fd).cells=L.cells:=hs.cells
  rw [h1]
  unfold op3
  simp only [yaC]
  rfl
 have hw:=v6 (S:=L.S) (L:=L.opn fd) (X:=[]) trivial
 rw [yad] at hw
 have hlv:=nJ (S:=L.S) (L:=L.opn fd) (X:=[])
 rw [yad] at hlv
 have hw2:=Ni hw
 rw [cJ]
 simp only [aQ,aT,ybb,ybc,yaB,yax]
 refine ⟨dkX L.S (op3 (dkT L.S.D).length (L.opn fd)),⟨aG _,j2,?_,⟨hlv,trivial,trivial⟩,hw2⟩,.inr ⟨h129,fd,hfd,?_,hH⟩⟩
 ·rw [pF,yaj,L.S.len];omega
 ·rw [hT];rfl
set_option maxRecDepth 20000
theorem q7:∀ {l r:List Nat} {k:Nat},pos (l++r) k=match pos l k with
  | some j=>some j
  | none=>(pos r k).map (·+l.length)
 | [],r,k=>by
  simp only [yaB,pos,yas]
  cases pos r k<;>rfl
 | x::l,r,k=>by
  simp only [yax,pos]
  by_cases h:k=x
  ·simp [h]
  ·simp only [if_neg h]
   rw [q7 (l:=l)]
   cases pos l k with
   | some j=>rfl
   | none =>
    simp only
    cases pos r k with
    | some j=>simp;omega
    | none=>rfl
theorem mD:∀ {l r:List Nat} {X Y:List Blk} {h:List Blk},l.length=X.length→aY (l++r) (X++Y) h=aY r Y (aY l X h)
 | [],r,[],Y,h,_=>by simp [aY]
 | x::l,r,b::X,Y,h,hl=>by
  simp only [yax,aY]
  exact mD (l:=l) (by simpa using hl)
def oI (p n:Nat):List Nat:=[p+n+4,p+n+3]++(yaa p (3+n)++[p+n+5])
theorem akV {p n:Nat}:pos (oI p n) (p+n+4)=some 0:=by simp [oI,pos]
theorem akU {p n:Nat}:pos (oI p n) (p+n+3)=some 1:=by simp [oI,pos]
theorem agC {p n j:Nat} (h:j<3+n):pos (oI p n) (p+j)=some (2+j):=by
 unfold oI
 rw [q7]
 have e:pos [p+n+4,p+n+3] (p+j)=none:=by
  simp only [pos]
  rw [if_neg (by omega),if_neg (by omega)];rfl
 rw [e]
 simp only
 rw [q7,dI,if_pos (by omega)]
 simp
 omega
theorem akT {p n:Nat}:pos (oI p n) (p+n+5)=some (n+5):=by
 unfold oI
 rw [q7]
 have e:pos [p+n+4,p+n+3] (p+n+5)=none:=by
  simp only [pos]
  rw [if_neg (by omega),if_neg (by omega)];rfl
 rw [e]
 simp only
 rw [q7,dI,if_neg (by omega)]
 simp [pos]
 omega
theorem Zn {p n:Nat}:(oI p n).Nodup:=by
 unfold oI
 rw [List.nodup_append]
 refine ⟨by simp,?_,?_⟩
 ·rw [List.nodup_append]
  refine ⟨ybd,by simp,?_⟩
  intro a ha b hb
  rw [yac] at ha
  simp at hb
  omega
 ·intro a ha b hb
  simp at ha
  rw [yaK,yac] at hb
  simp at hb
  omega
theorem Zo {p n k:Nat} (h:k∈oI p n):p≤k∧k<p+n+6:=by
 unfold oI at h
 simp only [yaK,yaY,yaZ,or_false,yac] at h
 omega
theorem Ct {p n j:Nat}:(oI p n)[j]?=if j=0 then some (p+n+4) else if j=1 then some (p+n+3) else if j<5+n then some (p+(j-2)) else if j=5+n then some (p+n+5) else none:=by
 unfold oI
 rcases j with _|_|j
 ·rfl
 ·rfl
 ·show (yaa p (3+n)++[p+n+5])[j]?=_
  rw [if_neg (by omega),if_neg (by omega)]
  by_cases h:j<3+n
  ·rw [yaS (by rw [yaz];exact h),ybo h,if_pos (by omega)]
   congr 1;omega
  ·rw [yaf (by rw [yaz];omega),yaz,if_neg (by omega)]
   by_cases h2:j=3+n
   ·subst h2
    rw [yay,if_pos (by omega)];rfl
   ·rw [if_neg (by omega),ybp (by simp;omega)]
theorem uP {p n N j:Nat} (h:j<5+(n+1)):back (oI p n) N j=if j=0 then some (p+n+4) else if j=1 then some (p+n+3) else if j<5+n then some (p+(j-2)) else some (p+n+5):=by
 unfold back
 rw [Ct]
 by_cases h0:j=0
 ·simp [h0]
 by_cases h1:j=1
 ·simp [h1]
 by_cases h2:j<5+n
 ·simp [h0,h1,h2]
 ·have h3:j=5+n:=by omega
  have h4:¬5+n=1:=by omega
  simp [h3,h4]
theorem agB {p n:Nat}:(yaa 5 (n+1)).filterMap ((oI p n)[·]?)=yaa (p+3) n++[p+n+5]:=by
 have h:∀ (m a:Nat),2≤a→a+m≤5+n→(yaa a m).filterMap ((oI p n)[·]?)=yaa (p+(a-2)) m:=by
  intro m
  induction m with
  | zero=>intro a _ _;rfl
  | succ m ih =>
   intro a h2 ha
   rw [List.range'_succ,ybq,Ct,if_neg (by omega),if_neg (by omega),if_pos (by omega)]
   simp only
   rw [ih (a+1) (by omega) (by omega),List.range'_succ]
   congr 2
   omega
 rw [List.range'_concat,List.filterMap_append,h n 5 (by omega) (by omega)]
 congr 1
 simp only [ybq,List.filterMap_nil,Nat.one_mul]
 rw [Ct,if_neg (by omega),if_neg (by omega),if_neg (by omega),if_pos rfl]
def o3 (L:Lg) (p:Nat):List Blk:=[.arr 1 (L.gens.map encI),.var [.ptr p 0 0,.sl (p+L.cells.length+3) 0 L.gens.length,.i L.top,.i L.seq,.sl (p+L.cells.length+5) 0 L.found.length,.i L.seg,.i L.next],.arr 4 (L.found.map Ck.enc)]
theorem iQ {L:Lg} {p:Nat}:opB L p=L.S.bs p++o3 L p:=rfl
theorem Cs {L:Lg} {p:Nat}:(opB L p).length=L.n+6:=by
 rw [iQ,yaj,L.S.len]
 show 3+L.n+3=_
 omega
theorem Px {A D X:List Blk} {B:Blk} {p n j:Nat} (hp:A.length=p) (hD:D.length=3+n):(A++(D++X)).set (p+n+(3+j)) B=A++(D++X.set j B):=by
 rw [yav _ _ (by omega),yav _ _ (by omega)]
 congr 3
 omega
theorem Py {A D X:List Blk} {p n j:Nat} (hp:A.length=p) (hD:D.length=3+n):blk (A++(D++X)) (p+n+(3+j))=blk X j:=by
 rw [blk,blk,yai,yai,yaf (by omega),yaf (by omega)]
 congr 2
 omega
theorem Ly {A D X D':List Blk} {g l f:Blk} {p n:Nat} (hp:A.length=p) (hD:D.length=3+n) (hD':D'.length=3+n) {g0 l0 f0:Blk}:aY (oI p n) (l::g::(D'++[f])) (A++(D++(g0::l0::f0::X)))=A++(D'++(g::l::f::X)):=by
 have e1:(A++(D++(g0::l0::f0::X))).set (p+n+4) l=A++(D++(g0::l::f0::X)):=by
  rw [show p+n+4=p+n+(3+1) by omega,Px hp hD];rfl
 have e2:(A++(D++(g0::l::f0::X))).set (p+n+3) g=A++(D++(g::l::f0::X)):=by
  rw [show p+n+3=p+n+(3+0) by omega,Px hp hD];rfl
 have e3:aY (oI p n) (l::g::(D'++[f])) (A++(D++(g0::l0::f0::X)))=aY (yaa p (3+n)++[p+n+5]) (D'++[f]) (((A++(D++(g0::l0::f0::X))).set (p+n+4) l).set (p+n+3) g):=rfl
 rw [e3,e1,e2,mD (by rw [yaz,hD'])]
 have e4:aY (yaa p (3+n)) D' (A++(D++(g::l::f0::X)))=A++(D'++(g::l::f0::X)):=by
  have:=fI (X:=D) (Y:=D') (B:=g::l::f0::X) (A:=A) (by rw [hD,hD'])
  rw [hp,hD] at this
  exact this
 rw [e4]
 show ((A++(D'++(g::l::f0::X))).set (p+n+5) f)++[]=_
 rw [yad,show p+n+5=p+n+(3+2) by omega,Px hp hD'];rfl
section
variable {cx:Cx} {f:FuncId} {e:Env} {b:Nat} {K:V→St→Prop}
theorem Wd (A B:List Blk) (L:Lg) (args xs:List V) (Q:V→Lg→Prop) (hC:cx.C f (.ptr 0 0 0::xs) (L.bs 0) (yaa 5 (L.n+1)) (QF Lg.bs (5+(L.n+1)) Q))
  (ha:aJ (A++(opB L A.length++B)) (pos (oI A.length L.n)) args∧wkL xs (aV (A++(opB L A.length++B)) (pos (oI A.length L.n)) args))
  (hbn:∀ k∈cx.bn,k<A.length∨A.length+(L.n+6)≤k) (hfx:∀ k∈cx.fx,k<A.length+3∨k=A.length+L.n+3∨k=A.length+L.n+4∨A.length+L.n+6≤k)
  (hA:A.map (aD (yaa (A.length+3) L.n++[A.length+L.n+5]))=A) (hB:B.map (aD (yaa (A.length+3) L.n++[A.length+L.n+5]))=B)
  (h3:∀ (r:V) (L':Lg),L'.n=L.n→Q r L'→(∀ f,ren f r=r)∧aF cx.fx (A++(opB L' A.length++B))∧K r ⟨aB (yaa (A.length+3) L.n++[A.length+L.n+5]) e,A++(opB L' A.length++B),b⟩):cF cx f (.ptr (A.length+L.n+4) 0 0::args) ⟨e,A++(opB L A.length++B),b⟩ K:=by
 have hl:=Cs (L:=L) (p:=A.length)
 have hSl:(L.S.bs A.length).length=3+L.n:=L.S.len
 have hH:∀ L':Lg,A++(opB L' A.length++B)=A++(L'.S.bs A.length++(o3 L' A.length++B)):=fun L'=>by rw [iQ,yap]
 refine ⟨oI A.length L.n,.ptr 0 0 0::xs,yaa 5 (L.n+1),QF Lg.bs (5+(L.n+1)) Q,⟨⟨Zn,fun k hk=>?_⟩,fun j hj k hk hkf=>?_⟩,?_,?_,?_,?_⟩
 ·have:=Zo hk
  refine ⟨by simp only [yaj,hl];omega,fun hb=>?_⟩
  have:=hbn k hb
  omega
 ·rw [yac] at hj
  have:=hfx k hkf
  rw [Ct,if_neg (by omega),if_neg (by omega)] at hk
  split at hk
  ·simp only [yaP] at hk;omega
  ·split at hk
   ·simp only [yaP] at hk;omega
   ·cases hk
 ·refine ⟨?_,ha.1⟩
  simp only [aU]
 ·refine ⟨?_,ha.2⟩
  simp only [bO,akV]
  exact rfl
 ·have e1:(oI A.length L.n).map (fun k=>bD (pos (oI A.length L.n)) (blk (A++(opB L A.length++B)) k))=L.bs 0:=by
   rw [hH]
   have b4:blk (A++(L.S.bs A.length++(o3 L A.length++B))) (A.length+L.n+4)=.var [.ptr A.length 0 0,.sl (A.length+L.cells.length+3) 0 L.gens.length,.i L.top,.i L.seq,.sl (A.length+L.cells.length+5) 0 L.found.length,.i L.seg,.i L.next]:=by
    rw [show A.length+L.n+4=A.length+L.n+(3+1) by omega,Py rfl hSl];rfl
   have b3:blk (A++(L.S.bs A.length++(o3 L A.length++B))) (A.length+L.n+3)=.arr 1 (L.gens.map encI):=by
    rw [show A.length+L.n+3=A.length+L.n+(3+0) by omega,Py rfl hSl];rfl
   have b5:blk (A++(L.S.bs A.length++(o3 L A.length++B))) (A.length+L.n+5)=.arr 4 (L.found.map Ck.enc):=by
    rw [show A.length+L.n+5=A.length+L.n+(3+2) by omega,Py rfl hSl];rfl
   have hd:(yaa A.length (3+L.n)).map (fun k=>bD (pos (oI A.length L.n)) (blk (A++(L.S.bs A.length++(o3 L A.length++B))) k))=L.S.bs 2:=by
    have h1:(L.S.bs A.length).map (bD (pos (oI A.length L.n)))=L.S.bs 2:=fN L.S.ok fun j hj=>by
     have hj2:j<3+L.n:=hj
     exact agC hj2
    rw [←h1]
    apply ybe
    ·rw [yag,yag,yaz,hSl]
    ·intro j h2 h3
     have hj:j<(L.S.bs A.length).length:=by rw [yag] at h3;exact h3
     simp only [yar,ybf,blk]
     congr 1
     rw [yai,yaf (by omega),show A.length+1*j-A.length=j by omega,yaS hj,yaI hj];rfl
   unfold oI
   rw [yal,yal]
   show [bD (pos (oI A.length L.n)) (blk _ (A.length+L.n+4)),bD (pos (oI A.length L.n)) (blk _ (A.length+L.n+3))]++((yaa A.length (3+L.n)).map (fun k=>bD (pos (oI A.length L.n)) (blk (A++(L.S.bs A.length++(o3 L A.length++B))) k))++[bD (pos (oI A.length L.n)) (blk _ (A.length+L.n+5))])=L.bs 0
   rw [hd,b4,b3,b5]
   have p0:pos (oI A.length L.n) A.length=some 2:=agC (j:=0) (by omega)
   have p3:pos (oI A.length L.n) (A.length+L.cells.length+3)=some 1:=akU
   have p5:pos (oI A.length L.n) (A.length+L.cells.length+5)=some (L.cells.length+5):=akT
   simp only [bD,dO,ren,p0,p3,p5]
   rw [Lg.bs]
   simp only [lgV,lgG,lgF,yaC]
   rfl
  rw [e1];exact hC
 ·rintro r h' ⟨L',⟨hn,hq⟩,rfl⟩ _
  have hn':L'.n=L.n:=by have:=hn 0;rw [L'.len] at this;omega
  obtain ⟨q1,q2,q3⟩:=h3 r L' hn' hq
  have hSl':(L'.S.bs A.length).length=3+L.n:=by rw [L'.S.len];show 3+L'.n=_;rw [hn']
  have e2:(L'.bs 0).map (bD (back (oI A.length L.n) (A++(opB L A.length++B)).length))=.var [.ptr A.length 0 0,.sl (A.length+L'.cells.length+3) 0 L'.gens.length,.i L'.top,.i L'.seq,.sl (A.length+L'.cells.length+5) 0 L'.found.length,.i L'.seg,.i L'.next]::.arr 1 (L'.gens.map encI)::(L'.S.bs A.length++[.arr 4 (L'.found.map Ck.enc)]):=by
   generalize (A++(opB L A.length++B)).length=NN
   have h1:(L'.S.bs 2).map (bD (back (oI A.length L.n) NN))=L'.S.bs A.length:=fN L'.S.ok fun j hj=>by
    have hj2:j<3+L.n:=by rw [←hn'];exact hj
    rw [uP (by omega),if_neg (by omega),if_neg (by omega),if_pos (by omega)]
    congr 1;omega
   have hc:L'.cells.length=L.n:=hn'
   have p2:back (oI A.length L.n) NN 2=some A.length:=by rw [uP (by omega),if_neg (by omega),if_neg (by omega),if_pos (by omega)];rfl
   have p1:back (oI A.length L.n) NN 1=some (A.length+L.n+3):=by rw [uP (by omega),if_neg (by omega),if_pos rfl]
   have p5:back (oI A.length L.n) NN (L.n+5)=some (A.length+L.n+5):=by rw [uP (by omega),if_neg (by omega),if_neg (by omega),if_neg (by omega)]
   rw [Lg.bs,yae,yae,yal,h1]
   simp only [lgV,lgG,lgF,yaC,hc,bD,dO,ren,p2,p1,p5,yae,yak]
  rw [agB,e2,hH L,yal,yal,yal,hA,hB,q1]
  have e3:=Ly (A:=A) (D:=(L.S.bs A.length).map (aD (yaa (A.length+3) L.n++[A.length+L.n+5]))) (X:=B) (D':=L'.S.bs A.length) (g:=.arr 1 (L'.gens.map encI)) (l:=.var [.ptr A.length 0 0,.sl (A.length+L'.cells.length+3) 0 L'.gens.length,.i L'.top,.i L'.seq,.sl (A.length+L'.cells.length+5) 0 L'.found.length,.i L'.seg,.i L'.next]) (f:=.arr 4 (L'.found.map Ck.enc)) (p:=A.length) (n:=L.n) rfl (by rw [yag,hSl]) hSl' (g0:=aD (yaa (A.length+3) L.n++[A.length+L.n+5]) (.arr 1 (L.gens.map encI))) (l0:=aD (yaa (A.length+3) L.n++[A.length+L.n+5]) (.var [.ptr A.length 0 0,.sl (A.length+L.cells.length+3) 0 L.gens.length,.i L.top,.i L.seq,.sl (A.length+L.cells.length+5) 0 L.found.length,.i L.seg,.i L.next])) (f0:=aD (yaa (A.length+3) L.n++[A.length+L.n+5]) (.arr 4 (L.found.map Ck.enc)))
  have e4:A++((L.S.bs A.length).map (aD (yaa (A.length+3) L.n++[A.length+L.n+5]))++((o3 L A.length).map (aD (yaa (A.length+3) L.n++[A.length+L.n+5]))++B))=A++((L.S.bs A.length).map (aD (yaa (A.length+3) L.n++[A.length+L.n+5]))++(aD (yaa (A.length+3) L.n++[A.length+L.n+5]) (.arr 1 (L.gens.map encI))::aD (yaa (A.length+3) L.n++[A.length+L.n+5]) (.var [.ptr A.length 0 0,.sl (A.length+L.cells.length+3) 0 L.gens.length,.i L.top,.i L.seq,.sl (A.length+L.cells.length+5) 0 L.found.length,.i L.seg,.i L.next])::aD (yaa (A.length+3) L.n++[A.length+L.n+5]) (.arr 4 (L.found.map Ck.enc))::B)):=rfl
  rw [e4,e3]
  have e5:A++(L'.S.bs A.length++(Blk.arr 1 (L'.gens.map encI)::.var [.ptr A.length 0 0,.sl (A.length+L'.cells.length+3) 0 L'.gens.length,.i L'.top,.i L'.seq,.sl (A.length+L'.cells.length+5) 0 L'.found.length,.i L'.seg,.i L'.next]::.arr 4 (L'.found.map Ck.enc)::B))=A++(opB L' A.length++B):=by rw [hH];rfl
  rw [e5]
  exact ⟨q2,q3⟩
end
set_option maxRecDepth 20000
def Lf (n:Nat):Lg:=⟨[],0,0,[],-1,0,yab n zC,0,0⟩
theorem amP {n:Nat}:(Lf n).S=Vd n:=by
 have hD:(Lf n).D=Mn n:=by
  unfold Lg.D Lf Mn
  simp
 show (⟨(Lf n).D,[],(Lf n).c,_⟩:MS)=⟨Mn n,[],0,_⟩
 congr 1
theorem Qb {n:Nat}:leG [] ⟨[(0,.ptr 2 0 0)],[.arr 65 (yab n zC.enc),.map [] 0,.var [.sl 0 0 n,.mp 1,.i 0,.i (-1),.b false]],0⟩ ⟨[(0,.ptr 2 0 0)],.dead::.dead::(Vd n).bs 2,0⟩:=by
 refine ⟨_,.virt (2+n) 1 (by decide) (.le (p:=⟨[(0,.ptr 2 0 0)],.arr 65 (yab n zC.enc)::.map [] 0::.var [.sl 0 0 n,.mp 1,.i 0,.i (-1),.b false]::.dead::.dead::yab n .dead,0⟩) ?_
  (.mv 3 0 (.arr 65 (yab n zC.enc)) (by decide) rfl rfl (by simp) (.mv 4 1 (.map [] 0) (by decide) rfl rfl (by simp) (.refl _)))),?_⟩
 ·refine ⟨⟨rfl,trivial⟩,?_,trivial,⟨trivial,trivial⟩,?_⟩
  ·show leH (_::_::_::yab (2+n) _) (_::_::_::yab (n+2) .dead)
   rw [show 2+n=n+2 by omega]
   exact ⟨aK _,aK _,aK _,rC⟩
  ·refine ⟨trivial,⟨trivial,trivial,trivial,trivial,trivial,trivial⟩,?_⟩
   exact vA
 ·rw [Vc]
  refine ⟨⟨rfl,trivial⟩,?_,trivial,⟨trivial,trivial⟩,?_⟩
  ·refine ⟨trivial,trivial,aK _,aK _,aK _,?_⟩
   show leH (((yab n Blk.dead).map (mvB 3 0)).map (mvB 4 1)) _
   rw [Pi,Pi]
   exact aG _
  ·refine ⟨⟨trivial,trivial,trivial,trivial,trivial,trivial⟩,trivial,?_⟩
   exact vA
theorem afW (n:Nat) (h:1≤n∧n≤65536):Ok 14 [.i n] (IsA (.ptr 2 0 0) (.dead::.dead::(Lf n).S.bs 2)):=by
 refine sP (afX n) ?_
 intro r hs h0
 unfold Pp at h0
 rw [if_neg (by omega)] at h0
 obtain ⟨rfl,rfl⟩:=h0
 rw [yau,amP]
 exact ⟨_,_,⟨rfl,rfl⟩,Qb⟩
section
variable {cx:Cx} {f:FuncId} {e:Env} {b:Nat} {K:V→St→Prop}
theorem yI (H:List Blk) (n:Nat) (hn:1≤n∧n≤65536) (hcx:cx.C=C0 Tryz.prog) (hk:aF cx.fx (H++(.dead::.dead::(Lf n).S.bs (H.length+2)))) (h3:K (.ptr (H.length+2) 0 0) ⟨e,H++(.dead::.dead::(Lf n).S.bs (H.length+2)),b⟩):cF cx 14 [.i n] ⟨e,H,b⟩ K:=by
 refine ⟨[],[.i n],[],IsA (.ptr 2 0 0) (.dead::.dead::(Lf n).S.bs 2),⟨⟨List.nodup_nil,by simp⟩,by simp⟩,⟨trivial,trivial⟩,⟨rfl,trivial⟩,?_,?_⟩
 ·rw [hcx];exact afW n hn
 ·rintro r h' ⟨rfl,rfl⟩ _
  have e1:(Blk.dead::Blk.dead::(Lf n).S.bs 2).map (bD (back [] H.length))=.dead::.dead::(Lf n).S.bs (H.length+2):=by
   have:((Lf n).S.bs 2).map (bD (back [] H.length))=(Lf n).S.bs (H.length+2):=fN (Lf n).S.ok fun j hj=>by
    unfold back
    simp
    omega
   rw [yae,yae,this];rfl
  simp only [List.filterMap_nil,oG,iF,aY,e1]
  exact ⟨hk,h3⟩
theorem oM (A:List Blk) (L:Lg) (hl:L.cells.length≤70000) (hbad:∀ c∈L.cells,c.bad=false) (hcx:cx.C=C0 Tryz.prog)
  (hbn:cx.bn=[]) (hfx:∀ k∈cx.fx,k<A.length+3) (hA:A.map (aD (yaa (A.length+3) L.n))=A)
  (h1:L.cells.length<129→aF cx.fx (A++L.S.bs A.length)∧K (.tup [.v (.pointer none),.i 1]) ⟨aB (yaa (A.length+3) L.n) e,A++L.S.bs A.length,b⟩)
  (h2:129≤L.cells.length→∀ fd,yQ (L.blank.scan (L.cells.length/129)).found fd→aF cx.fx (A++opB (L.opn fd) A.length)∧K (.tup [.ptr (A.length+L.n+4) 0 0,.i 0]) ⟨aB (yaa (A.length+3) L.n) e,A++opB (L.opn fd) A.length,b⟩):cF cx 15 [.ptr A.length 0 0] ⟨e,A++L.S.bs A.length,b⟩ K:=by
 have hS:=L.S.len (p:=A.length)
 refine ⟨yaa A.length (3+L.n),[.ptr 0 0 0],yaa 3 L.n,R15 L,⟨⟨ybd,fun k hk=>?_⟩,fun j hj k hk hkf=>?_⟩,⟨trivial,trivial⟩,⟨?_,trivial⟩,?_,?_⟩
 ·rw [yac] at hk
  refine ⟨by simp only [yaj,hS];show k<A.length+(3+L.n);omega,by rw [hbn];simp⟩
 ·rw [yac] at hj
  rw [ybo (by omega)] at hk
  have:=hfx k hkf
  simp only [yaP] at hk
  omega
 ·simp only [bO,dI]
  rw [if_pos (by omega),yay]
  exact rfl
 ·have e1:(yaa A.length (3+L.n)).map (fun k=>bD (pos (yaa A.length (3+L.n))) (blk (A++L.S.bs A.length) k))=L.S.bs 0:=by
   have h1:(L.S.bs A.length).map (bD (pos (yaa A.length (3+L.n))))=L.S.bs 0:=fN L.S.ok fun j hj=>by
    have hj2:j<3+L.n:=hj
    rw [dI,if_pos (by omega)];simp
   rw [←h1]
   apply ybe
   ·simp only [yag,yaz,hS];rfl
   ·intro j h2 h3
    simp only [yar,ybf,blk]
    congr 1
    have hj:j<(L.S.bs A.length).length:=by simpa using h3
    rw [yai,yaf (by omega),show A.length+1*j-A.length=j by omega,yaI hj];rfl
  rw [e1,hcx];exact akR L hl hbad
 ·have hM:(yaa 3 L.n).filterMap ((yaa A.length (3+L.n))[·]?)=yaa (A.length+3) L.n:=w9
  have hNN:(A++L.S.bs A.length).length=A.length+(3+L.n):=by rw [yaj,hS];rfl
  have hset:∀ D':List Blk,D'.length=3+L.n→∀ X,aY (yaa A.length (3+L.n)) (D'++X) ((A++L.S.bs A.length).map (aD (yaa (A.length+3) L.n)))=A++(D'++X):=by
   intro D' hD X
   rw [yal,hA]
   have e0:aY (yaa A.length (3+L.n)++[]) (D'++X) (A++(L.S.bs A.length).map (aD (yaa (A.length+3) L.n)))=aY [] X (aY (yaa A.length (3+L.n)) D' (A++(L.S.bs A.length).map (aD (yaa (A.length+3) L.n)))):=mD (by rw [yaz,hD])
   rw [yad] at e0
   rw [e0]
   have:=fI (X:=(L.S.bs A.length).map (aD (yaa (A.length+3) L.n))) (Y:=D') (B:=[]) (A:=A) (by rw [yag,hS];exact hD)
   rw [yag,hS,yad,yad] at this
   rw [show (3+L.S.n)=3+L.n from rfl] at this
   rw [this]
   simp only [aY,yap]
  have hback:∀ j,back (yaa A.length (3+L.n)) (A.length+(3+L.n)) j=some (A.length+j):=by
   intro j
   rw [mR]
   split
   ·rfl
   ·congr 1;omega
  have hSr:∀ {L':Lg},L'.n=L.n→(L'.S.bs 0).map (bD (back (yaa A.length (3+L.n)) (A.length+(3+L.n))))=L'.S.bs A.length:=fun {L'} hn=>fN L'.S.ok fun j hj=>by
   rw [hback];simp
  rintro r h' (⟨q1,rfl,rfl⟩|⟨q1,fd,q2,rfl,rfl⟩) _
  ·obtain ⟨k1,k2⟩:=h1 q1
   rw [hM,hNN,hSr rfl]
   have:=hset (L.S.bs A.length) hS []
   rw [yad] at this
   rw [this]
   exact ⟨k1,k2⟩
  ·obtain ⟨k1,k2⟩:=h2 q1 fd q2
   have hs:=Sc.scan (L0:=L.blank) (k:=L.cells.length/129)
   have hc:(L.opn fd).cells=L.cells:=hs.cells
   have hn:(L.opn fd).n=L.n:=by show (L.opn fd).cells.length=_;rw [hc]
   have e2:(opB (L.opn fd) 0).map (bD (back (yaa A.length (3+L.n)) (A.length+(3+L.n))))=opB (L.opn fd) A.length:=by
    unfold opB
    rw [yal,hSr hn]
    simp only [yae,yak,bD,dO,ren,hback,yaC,yaW,yaQ]
   rw [hM,hNN,e2,iQ,hset _ (by rw [(L.opn fd).S.len];show 3+(L.opn fd).n=_;rw [hn]),←iQ]
   have e3:ren (back (yaa A.length (3+L.n)) (A.length+(3+L.n))) (.tup [.ptr (L.cells.length+4) 0 0,.i 0])=.tup [.ptr (A.length+L.n+4) 0 0,.i 0]:=by
    simp only [ren,dO,hback]
    rw [show A.length+(L.cells.length+4)=A.length+L.n+4 by show _=A.length+L.cells.length+4;omega]
   rw [e3]
   exact ⟨k1,k2⟩
end
set_option maxRecDepth 20000
theorem Ov:nE zS=yab 64 0:=by
 unfold nE zS
 rw [yaG];rfl
theorem Xq:∀ {k:Nat},flB (yab k zS)=yab (64*k) 0
 | 0=>rfl
 | k+1=>by
  have:=Xq (k:=k)
  unfold flB at this ⊢
  rw [ybg,List.flatMap_cons,this,Ov,List.replicate_append_replicate]
  congr 1;omega
theorem Vm {L:Lg} {k:Nat} (h:(L.cells.getD (k*129) zC).s=zS):L.hd k=L:=by
 have hg:L.hg k=0:=by
  unfold Lg.hg
  rw [h,Ov,List.drop_replicate,List.take_replicate,sV]
 have hok:L.hok k=false:=by
  unfold Lg.hok
  rw [hg]
  rfl
 unfold Lg.hd
 rw [hok];rfl
theorem Eo {L:Lg} {k j:Nat} (h:∀ i,i<8→(L.cells.getD (cM k j+i) zC).s=zS):L.slo k j=L:=by
 have hs:L.secs k j=yab 8 zS:=by
  unfold Lg.secs
  rw [List.eq_replicate_iff]
  refine ⟨by simp,fun b hb=>?_⟩
  obtain ⟨i,hi,rfl⟩:=List.mem_map.1 hb
  exact h i (by simpa using hi)
 unfold Lg.slo Lg.bts
 rw [hs,Xq,Ss]
theorem Ae {L:Lg} {k:Nat}:∀ {j:Nat},(∀ i,i<j→∀ m,m<8→(L.cells.getD (cM k i+m) zC).s=zS)→L.slos k j=L
 | 0,_=>rfl
 | j+1,h=>by
  have h1:=Ae (L:=L) (k:=k) (j:=j) fun i hi=>h i (by omega)
  show (L.slos k j).slo k j=L
  rw [h1]
  exact Eo (h j (by omega))
theorem Er {L:Lg} {k:Nat} (h0:(L.cells.getD (k*129) zC).s=zS) (h:∀ i:Nat,i<16→∀ m,m<8→(L.cells.getD (cM k i+m) zC).s=zS):(L.hd k).slos k 16=L:=by
 rw [Vm h0,Ae h]
theorem yV {n i:Nat}:((Lf n).cells.getD i zC)=zC:=by
 show (yab n zC).getD i zC=zC
 rw [yai,List.getElem?_replicate]
 split<;>rfl
theorem vI {n:Nat}:∀ {k:Nat},(Lf n).blank.scan k=(Lf n).blank
 | 0=>rfl
 | k+1=>by
  show (((Lf n).blank.scan k).hd k).slos k 16=_
  rw [vI (k:=k)]
  refine Er ?_ fun i _ m _=>?_
  ·show ((Lf n).cells.getD _ zC).s=zS
   rw [yV];rfl
  ·show ((Lf n).cells.getD _ zC).s=zS
   rw [yV];rfl
theorem Tj {fd:List Ck} (h:yQ [] fd):fd=[]:=by
 have:=h.p.length_eq
 exact ybj.1 this
theorem Uv {n:Nat}:(Lf n).opn []=(Lf n).blank:=by
 unfold Lg.opn
 rw [vI];rfl
theorem Ap {n:Nat} {fd:List Ck} (h:yQ ((Lf n).blank.scan ((Lf n).cells.length/129)).found fd):(Lf n).opn fd=(Lf n).blank:=by
 rw [vI] at h
 rw [Tj h,Uv]
theorem Inv.newN {n s:Nat} (hs:1≤s∧s≤500) (hn:129*s≤n∧n<129*(s+1)):Inv ⟨[],s,-1,0⟩ (Lf n).blank 1:=by
 have hg:(Lf n).blank.gens=yab s 0:=by
  show yab ((yab n zC).length/129) (0:Int)=_
  rw [yan]
  congr 1;omega
 have hgl:(Lf n).blank.gens.length=s:=by rw [hg,yan]
 have hcl:(Lf n).blank.cells.length=n:=yan ..
 refine ⟨rfl,rfl,fun h=>absurd h (by show ¬(0:Int)≤-1;decide),⟨yat _,by show (-1:Int)<_;omega⟩,⟨yat _,by show (0:Int)≤16;decide⟩,by omega,by rw [hgl],by rw [hcl,hgl];omega,fun c hc=>?_,fun x hx=>?_,⟨yat _,by show (0:Int)≤_;decide⟩,⟨yat _,by show (0:Int)≤_;decide⟩,yaw _,yaw _,fun x hx=>by simp at hx,List.Pairwise.nil,fun x hx=>by simp at hx,fun _=>yaw _,fun h=>absurd h (by show ¬(0:Int)≤-1;decide),fun h=>absurd h (by show ¬(0:Int)≤-1;decide)⟩
 ·have:c∈yab n zC:=hc
  rw [(yaT.1 this).2];rfl
 ·rw [hg] at hx
  rw [(yaT.1 hx).2]
  exact ⟨yat _,by decide⟩
theorem Inv.new {s:Nat} (hs:1≤s∧s≤500):Inv ⟨[],s,-1,0⟩ (Lf (129*s)).blank 1:=Inv.newN hs (by omega)
theorem q8 {A:List Blk} {L:Lg} {p:Nat} (hp:A.length=p) {j:Nat} (hj:j=p∨j=p+L.cells.length+3∨j=p+L.cells.length+4∨j=p+L.cells.length+5):aC (A++opB L p) j:=by
 have hS:(L.S.bs p).length=3+L.cells.length:=L.S.len
 rcases hj with h|h|h|h
 ·rw [h]
  refine lN (B:=dkV p L.S.D) (by simp [dkV]) ?_
  rw [yaf (by omega),hp,yay]
  rfl
 ·rw [h]
  refine lN (B:=.arr 1 (L.gens.map encI)) (by simp) ?_
  rw [yaf (by omega),iQ,yaf (by omega),show p+L.cells.length+3-A.length-(L.S.bs p).length=0 by omega];rfl
 ·rw [h]
  refine lN (B:=.var [.ptr p 0 0,.sl (p+L.cells.length+3) 0 L.gens.length,.i L.top,.i L.seq,.sl (p+L.cells.length+5) 0 L.found.length,.i L.seg,.i L.next]) (by simp) ?_
  rw [yaf (by omega),iQ,yaf (by omega),show p+L.cells.length+4-A.length-(L.S.bs p).length=1 by omega];rfl
 ·rw [h]
  refine lN (B:=.arr 4 (L.found.map Ck.enc)) (by simp) ?_
  rw [yaf (by omega),iQ,yaf (by omega),show p+L.cells.length+5-A.length-(L.S.bs p).length=2 by omega];rfl
theorem aeQ {A:List Blk} {L:Lg} {p:Nat} (hp:A.length=p):wfB (A++opB L p) (opB L p):=by
 rw [iQ]
 refine L.S.wf A (o3 L p) hp.symm (C:=o3 L p) ?_
 rw [←iQ]
 exact ⟨⟨q8 hp (.inl rfl),q8 hp (.inr (.inl rfl)),trivial,trivial,q8 hp (.inr (.inr (.inr rfl))),trivial,trivial,trivial⟩,trivial⟩
theorem akD (s:Nat) (hs:1≤s∧s≤5):Ok 6 [.i s] (IsA (.agg [.ptr 3 0 0,.ptr (3+129*s+4) 0 0,.ro 5 [],.i s,.i (-1),.i 0,.nil,.nil,.i (-1)]) ([.dead,.dead,.dead]++opB (Lf (129*s)).blank 3)):=by
 refine cD lw6 (by simp) ?_
 unfold c6
 simp -implicitDefEqProofs only [rX,↓rY,aA,cells?,↓reduceIte,reduceCtorEq,aE,cxN,aR]
 have hcl:(Lf (129*s)).cells.length=129*s:=yan ..
 have hn:(Lf (129*s)).n=129*s:=hcl
 have hm:∀ k,k<6→k∉yaa (3+3) (129*s):=fun k hk h=>by have:=yac.1 h;omega
 have m0:(0∈yaa (3+3) (129*s))=False:=eq_false (hm 0 (by omega))
 have m3:(3∈yaa (3+3) (129*s))=False:=eq_false (hm 3 (by omega))
 refine ⟨⟨by simp only [lo];omega,by simp only [hi];omega⟩,?_⟩
 rw [show (129:Int)*(s:Int)=((129*s:Nat):Int) by omega]
 refine yI [Blk.var [V.v (Value.pointer none),V.v (Value.pointer none),V.v (Value.slice none 0 0),V.v (Value.int IntKind.i64 0),V.v (Value.int IntKind.i64 0),V.v (Value.int IntKind.i64 0),V.v (Value.slice none 0 0),V.v (Value.slice none 0 0),V.v (Value.int IntKind.i64 0)]] (129*s) (by omega) rfl trivial ?_
 simp -implicitDefEqProofs only [rX,↓reduceIte,Nat.reduceAdd]
 refine oM [Blk.var [V.v (Value.pointer none),V.v (Value.pointer none),V.v (Value.slice none 0 0),V.v (Value.int IntKind.i64 0),V.v (Value.int IntKind.i64 0),V.v (Value.int IntKind.i64 0),V.v (Value.slice none 0 0),V.v (Value.slice none 0 0),V.v (Value.int IntKind.i64 0)],.dead,.dead] (Lf (129*s)) (by omega) (fun c hc=>by rw [(yaT.1 (show c∈yab (129*s) zC from hc)).2];rfl) rfl rfl (by simp) rfl (fun h=>by omega) fun _ fd hfd=>⟨trivial,?_⟩
 rw [Ap hfd,hn]
 simp -implicitDefEqProofs only [rX,↓rY,aA,↓reduceIte,Nat.reduceEqDiff,Nat.reduceAdd,reduceCtorEq,aB,kill,St.kill,Nat.reduceAdd,m0,m3]
 have hn4:(129*(s:Int))=((129*s:Nat):Int):=by omega
 rw [hn4]
 refine ⟨⟨by simp only [lo];omega,by simp only [hi];omega⟩,?_⟩
 have h20:=akQ ((129*s:Nat):Int) (by omega)
 rw [show ((129*s:Nat):Int)/129=(s:Int) by omega] at h20
 refine aS h20 ⟨⟨trivial,trivial⟩,rfl,trivial⟩ rfl trivial ?_
 unfold Md.v
 simp -implicitDefEqProofs only [rX,↓rY,aA,cells?,splice,↓reduceIte,Nat.reduceEqDiff,Nat.reduceAdd,bK,isC,Nat.reduceLeDiff,wX]
 have hw:=aeQ (A:=[.dead,.dead,.dead]) (L:=(Lf (129*s)).blank) (p:=3) rfl
 have l3:=q8 (A:=[.dead,.dead,.dead]) (L:=(Lf (129*s)).blank) (p:=3) rfl (j:=3) (.inl rfl)
 have l4:=q8 (A:=[.dead,.dead,.dead]) (L:=(Lf (129*s)).blank) (p:=3) rfl (j:=3+129*s+4) (.inr (.inr (.inl (by rw [show (Lf (129*s)).blank.cells.length=129*s from hcl]))))
 rw [dJ]
 simp only [aQ,aT,ybb,ybc,yaB,yax]
 exact ⟨by simp,⟨⟨trivial,aK _,aK _,aG _⟩,trivial,yaw _,⟨l3,l4,trivial,trivial,trivial,trivial,trivial,trivial,trivial,trivial⟩,hw⟩,rfl⟩
theorem cS.mv' {fx:List Nat} {s s1 s':St} (i j:Nat) (B:Blk) (hij:i≠j) (hi:s.h[i]?=some .dead) (hj:s.h[j]?=some B) (hf:j∉fx) (he:s1={ s with e:=mvE i j s.e,h:=((s.h.map (mvB i j)).set i (mvB i j B)).set j .dead }) (h:cS fx s1 s'):cS fx s s':=.mv i j B hij hi hj hf (he▸h)
theorem Zc {L:Lg} {xs:List V} (hx:∀ i j,mvL i j xs=xs) (hw:∀ H,wfL H xs) (hn:0<L.cells.length):leG [] ⟨[(0,.agg (.ptr 3 0 0::.ptr (3+L.cells.length+4) 0 0::xs))],[.dead,.dead,.dead]++opB L 3,0⟩ ⟨[(0,.agg (.ptr 3 0 0::.ptr 1 0 0::xs))],.dead::L.bs 1,0⟩:=by
 have hS:(L.S.bs 3).length=3+L.cells.length:=L.S.len
 have hmv:∀ i j,6≤j→(L.S.bs 3).map (mvB i j)=L.S.bs 3:=by
  intro i j hj
  show [mvB i j (dkV 3 L.S.D),mvB i j (dkC L.S.D),mvB i j (.map [] L.c)]++(dkT L.S.D).map (mvB i j)=_
  rw [Qe]
  simp only [dkV,dkC,mvB,mvL,mvV,yak]
  rw [if_neg (by omega),if_neg (by omega)]
  rfl
 have h0:([.dead,.dead,.dead]++opB L 3:List Blk)=.dead::.dead::.dead::(L.S.bs 3++[.arr 1 (L.gens.map encI),.var [.ptr 3 0 0,.sl (3+L.cells.length+3) 0 L.gens.length,.i L.top,.i L.seq,.sl (3+L.cells.length+5) 0 L.found.length,.i L.seg,.i L.next],.arr 4 (L.found.map Ck.enc)]):=rfl
 rw [h0]
 have set3:∀ (a b c:Blk) (X:List Blk) (m:Nat) (B:Blk),(a::b::c::(L.S.bs 3++X)).set (3+L.cells.length+(3+m)) B=a::b::c::(L.S.bs 3++X.set m B):=by
  intro a b c X m B
  rw [show 3+L.cells.length+(3+m)=(3+L.cells.length+m)+1+1+1 by omega,yaE,yaE,yaE,yav _ _ (by omega)]
  congr 5;omega
 have get3:∀ (a b c:Blk) (X:List Blk) (m:Nat),(a::b::c::(L.S.bs 3++X))[3+L.cells.length+(3+m)]?=X[m]?:=by
  intro a b c X m
  rw [show 3+L.cells.length+(3+m)=(3+L.cells.length+m)+1+1+1 by omega,yaq,yaq,yaq,yaf (by omega)]
  congr 1;omega
 have nn:∀ a b:Nat,a≠b→(3+L.cells.length+a=3+L.cells.length+b)=False:=fun a b h=>eq_false (by omega)
 have n3:∀ b:Nat,1≤b→(3=3+L.cells.length+b)=False:=fun b h=>eq_false (by omega)
 have n2:∀ b:Nat,1≤b→(2=3+L.cells.length+b)=False:=fun b h=>eq_false (by omega)
 have n1:∀ b:Nat,1≤b→(1=3+L.cells.length+b)=False:=fun b h=>eq_false (by omega)
 refine ⟨⟨[(0,.agg (.ptr 3 0 0::.ptr 1 0 0::xs))],.dead::.var [.ptr 3 0 0,.sl 2 0 L.gens.length,.i L.top,.i L.seq,.sl (3+L.cells.length+3) 0 L.found.length,.i L.seg,.i L.next]::.arr 1 (L.gens.map encI)::(L.S.bs 3++[.arr 4 (L.found.map Ck.enc),.dead,.dead]),0⟩,?_,?_⟩
 ·refine cS.mv' (s1:=⟨[(0,.agg (.ptr 3 0 0::.ptr 1 0 0::xs))],.dead::.var [.ptr 3 0 0,.sl (3+L.cells.length+3) 0 L.gens.length,.i L.top,.i L.seq,.sl (3+L.cells.length+5) 0 L.found.length,.i L.seg,.i L.next]::.dead::(L.S.bs 3++[.arr 1 (L.gens.map encI),.dead,.arr 4 (L.found.map Ck.enc)]),0⟩) 1 (3+L.cells.length+(3+1)) (.var [.ptr 3 0 0,.sl (3+L.cells.length+3) 0 L.gens.length,.i L.top,.i L.seq,.sl (3+L.cells.length+5) 0 L.found.length,.i L.seg,.i L.next]) (by omega) rfl (by rw [get3];rfl) (by simp) ?_ ?_
  ·simp only [mvE,mvV,mvL,yae,yal,yak,hmv _ _ (show 6≤3+L.cells.length+(3+1) by omega),yaE,List.set_cons_zero,mvB,hx,nn 3 4 (by omega),nn 5 4 (by omega),n3 4 (by omega),if_false,if_true,Nat.reduceAdd]
   congr 1
   have:=set3 .dead (.var [.ptr 3 0 0,.sl (3+L.cells.length+3) 0 L.gens.length,.i L.top,.i L.seq,.sl (3+L.cells.length+5) 0 L.found.length,.i L.seg,.i L.next]) .dead [.arr 1 (L.gens.map encI),.var [.ptr 3 0 0,.sl (3+L.cells.length+3) 0 L.gens.length,.i L.top,.i L.seq,.sl (3+L.cells.length+5) 0 L.found.length,.i L.seg,.i L.next],.arr 4 (L.found.map Ck.enc)] 1 .dead
   exact this.symm
  refine cS.mv' (s1:=⟨[(0,.agg (.ptr 3 0 0::.ptr 1 0 0::xs))],.dead::.var [.ptr 3 0 0,.sl 2 0 L.gens.length,.i L.top,.i L.seq,.sl (3+L.cells.length+5) 0 L.found.length,.i L.seg,.i L.next]::.arr 1 (L.gens.map encI)::(L.S.bs 3++[.dead,.dead,.arr 4 (L.found.map Ck.enc)]),0⟩) 2 (3+L.cells.length+(3+0)) (.arr 1 (L.gens.map encI)) (by omega) rfl (by rw [get3];rfl) (by simp) ?_ ?_
  ·simp only [mvE,mvV,mvL,yae,yal,yak,hmv _ _ (show 6≤3+L.cells.length+(3+0) by omega),yaE,List.set_cons_zero,mvB,hx,nn 5 3 (by omega),n3 3 (by omega),n1 3 (by omega),if_false,if_true,Nat.reduceAdd]
   congr 1
   have:=set3 .dead (.var [.ptr 3 0 0,.sl 2 0 L.gens.length,.i L.top,.i L.seq,.sl (3+L.cells.length+5) 0 L.found.length,.i L.seg,.i L.next]) (.arr 1 (L.gens.map encI)) [.arr 1 (L.gens.map encI),.dead,.arr 4 (L.found.map Ck.enc)] 0 .dead
   exact this.symm
  refine cS.mv' (s1:=⟨[(0,.agg (.ptr 3 0 0::.ptr 1 0 0::xs))],.dead::.var [.ptr 3 0 0,.sl 2 0 L.gens.length,.i L.top,.i L.seq,.sl (3+L.cells.length+3) 0 L.found.length,.i L.seg,.i L.next]::.arr 1 (L.gens.map encI)::(L.S.bs 3++[.arr 4 (L.found.map Ck.enc),.dead,.dead]),0⟩) (3+L.cells.length+(3+0)) (3+L.cells.length+(3+2)) (.arr 4 (L.found.map Ck.enc)) (by omega) (by rw [get3];rfl) (by rw [get3];rfl) (by simp) ?_ (.refl _)
  ·simp only [mvE,mvV,mvL,yae,yal,yak,hmv _ _ (show 6≤3+L.cells.length+(3+2) by omega),mvB,hx,n3 5 (by omega),n1 5 (by omega),n2 5 (by omega),if_false,if_true,Nat.reduceAdd]
   congr 1
   have a1:=set3 .dead (.var [.ptr 3 0 0,.sl 2 0 L.gens.length,.i L.top,.i L.seq,.sl (3+L.cells.length+3) 0 L.found.length,.i L.seg,.i L.next]) (.arr 1 (L.gens.map encI)) [.dead,.dead,.arr 4 (L.found.map Ck.enc)] 0 (.arr 4 (L.found.map Ck.enc))
   have a2:=set3 .dead (.var [.ptr 3 0 0,.sl 2 0 L.gens.length,.i L.top,.i L.seq,.sl (3+L.cells.length+3) 0 L.found.length,.i L.seg,.i L.next]) (.arr 1 (L.gens.map encI)) [.arr 4 (L.found.map Ck.enc),.dead,.arr 4 (L.found.map Ck.enc)] 2 .dead
   rw [show (3+0:Nat)=3 from rfl] at a1
   rw [show (3+2:Nat)=5 from rfl] at a2
   refine Eq.symm ?_
   refine (congrArg (fun z=>List.set z (3+L.cells.length+5) Blk.dead) a1).trans ?_
   exact a2
 ·have hb:(Blk.dead::L.bs 1:List Blk)=.dead::.var [.ptr 3 0 0,.sl 2 0 L.gens.length,.i L.top,.i L.seq,.sl (3+L.cells.length+3) 0 L.found.length,.i L.seg,.i L.next]::.arr 1 (L.gens.map encI)::(L.S.bs 3++[.arr 4 (L.found.map Ck.enc)]):=by
   rw [Lg.bs,lgV,lgG,lgF,show 1+(L.cells.length+5)=3+L.cells.length+3 by omega]
  have hw1:=L.wf (p:=1) [.dead] [] rfl (C:=[]) trivial
  simp only [yad] at hw1
  have hl1:∀ j,j<3→aC (.dead::L.bs 1) (j+1):=by
   intro j hj
   rcases j with _|_|_|j
   ·trivial
   ·trivial
   ·trivial
   ·omega
  refine ⟨⟨rfl,trivial⟩,?_,trivial,⟨⟨hl1 2 (by omega),hl1 0 (by omega),hw _⟩,trivial⟩,hw1⟩
  rw [hb]
  refine ⟨trivial,aK _,aK _,xH ⟨aK _,trivial⟩⟩
theorem ok6 (s:Nat) (hs:1≤s∧s≤5):Ok 6 [.i s] (IsA (.agg [.ptr 3 0 0,.ptr 1 0 0,.ro 5 [],.i s,.i (-1),.i 0,.nil,.nil,.i (-1)]) (.dead::(Lf (129*s)).blank.bs 1)):=by
 refine sP (akD s hs) ?_
 rintro r h ⟨rfl,rfl⟩
 have hcl:(Lf (129*s)).blank.cells.length=129*s:=yan ..
 have:=Zc (L:=(Lf (129*s)).blank) (xs:=[.ro 5 [],.i s,.i (-1),.i 0,.nil,.nil,.i (-1)]) (fun _ _=>rfl) (fun _=>⟨trivial,trivial,trivial,trivial,trivial,trivial,trivial,trivial⟩) (by omega)
 rw [hcl] at this
 exact ⟨_,_,⟨rfl,rfl⟩,this⟩
set_option maxRecDepth 20000
theorem aeT:OkN Tryz.prog 74 [.nil] [] [] (IsA (.tup []) []):=by
 refine ⟨cal Tryz.func74 (by kernel_rfl) (by kernel_rfl),?_⟩
 intro ρ X w vals hr ha
 match vals,ha with
 | [val],⟨hv,_⟩ =>
  obtain rfl:val=.slice none 0 0:=hv
  refine (Tryz.slices_Sort_int_none none 0 w).mono ?_
  rintro e w' ⟨rfl,rfl⟩
  exact ⟨_,.tup [],[],ρ,rfl,⟨⟨rfl,rfl⟩,yam _⟩,Fr.refl _ _,hr,⟨#[],rfl,trivial⟩,fun _ _ _=>rfl⟩
theorem afJ (L:Lg):OkD 45 [.ptr 0 0 0] L.S (fun r S'=>S'=L.S∧r=.nil):=by
 refine nK lw45 (by simp) ?_
 have hS:L.S.L=[]:=rfl
 unfold c45
 show aw _ _ _ _ _ ⟨_,dkV 0 L.S.D::dkC L.S.D::.map [] L.S.c::dkT L.S.D,_⟩
 unfold dkV dkC
 simp -implicitDefEqProofs only [rX,↓rY,zX,aA,↓reduceIte,reduceCtorEq,aE,cxN,d1,fU,aR]
 refine a8 (fun k:Nat=>(⟨[(9,.ptr ((dkT L.S.D).length+3) 0 0),(3,.nil)],dkX L.S [.it (.mp 2) L.S.c [] L.S.c],(dkT L.S.D).length+4⟩:St)) (fun k=>True) (fun k=>0) 0 trivial ?_ ?_
 ·refine Kh ⟨rfl,rfl,trivial⟩ (aG _) ⟨?_,trivial,trivial⟩ ⟨trivial,trivial⟩
  exact Fp ⟨_,rfl,by simp⟩
 ·intro k _
  unfold c45l0 dkX
  simp -implicitDefEqProofs only [rX,↓rY,zY,zZ,cells?,↓reduceIte,Nat.reduceEqDiff,reduceCtorEq,aE,cE,leE,leH,leB,leV,cN,aF,aC,wfE,wfB,wfV,wfL,Nat.reduceLT,↓qbo,↓qbr,↓qck,↓qcl,d1,fU,nQ,o4,sW,Ci,dkV,dkC,i5,hS,bR]
  refine ⟨⟨rfl,yam _⟩,fun _=>?_,by simp⟩
  refine mN [.nil] (IsA (.tup []) []) ⟨⟨trivial,trivial⟩,⟨rfl,trivial⟩⟩ aeT ?_
  rintro r h' ⟨rfl,rfl⟩
  refine ⟨⟨trivial,trivial,trivial,trivial⟩,?_⟩
  simp -implicitDefEqProofs only [rX,↓reduceIte,Nat.reduceEqDiff]
  refine vP L.S ?_ rfl ⟨trivial,rfl,rfl⟩
  exact cL (h:=L.S.bs 0)
def Lg.fresh (L:Lg):Lg:={ L with steps:=0,c:=0 }
theorem afV (L:Lg) (h:1≤L.n∧L.n≤65536):OkN Tryz.prog 18 [.ptr 0 0 0,.nil] (L.S.bs 0) (yaa 3 L.n) (IsA (.ptr (L.n+5) 0 0) (L.S.bs 0++(.dead::.dead::L.fresh.S.bs (L.n+5)))):=by
 refine e6 pol [0,1,2] lw18 (by simp) ⟨trivial,trivial,trivial,trivial⟩ (fun k hk hm=>?_) ?_
 ·rw [L.S.len] at hk
  have:¬(3≤k∧k<3+L.n):=fun h2=>hm (yac.2 h2)
  have h3:k=0∨k=1∨k=2:=by
   have:k<3+L.n:=hk
   omega
  simp;omega
 rw [L.S.len]
 show aw _ _ _ _ _ ⟨_,dkV 0 L.S.D::dkC L.S.D::.map [] L.S.c::dkT L.S.D,_⟩
 unfold c18
 unfold dkV dkC
 simp -implicitDefEqProofs only [rX,↓rY,aA,↓reduceIte,reduceCtorEq,cxN,aR]
 intro hm
 have hT:(dkT L.S.D).length=L.n:=L.S.T_len
 have hL0:(dkX L.S []).length=(dkT L.S.D).length+3:=by
  unfold dkX
  simp only [yao,yad]
 show cF _ _ _ ⟨_,_::_::_::dkT L.S.D,_⟩ _
 rw [←yad (dkT L.S.D)]
 refine yI (dkX L.S []) L.n h rfl (by exact ⟨trivial,trivial,trivial,trivial⟩) ?_
 rw [Dl,yaB,hL0]
 have e1:(Lf L.n).S.bs ((dkT L.S.D).length+3+2)=.var [.sl ((dkT L.S.D).length+6) 0 L.n,.mp ((dkT L.S.D).length+7),.i 0,.i (-1),.b false]::.arr 65 ((yab L.n zC).map Cl.enc)::.map [] 0::dkT (Lf L.n).D:=by
  show dkV _ (Lf L.n).D::_=_
  unfold dkV
  rw [show (Lf L.n).D.n=L.n from yan ..]
  rfl
 rw [e1]
 unfold dkX
 simp -implicitDefEqProofs only [rX,↓rY,↓reduceIte,Nat.reduceEqDiff,reduceCtorEq,sW,xU,Hj,dkV,dkC]
 have hDn:L.S.D.n=L.n:=rfl
 have hcl:(yah Cl.enc L.S.D.cells).length=L.n:=yag ..
 have e2:yaA L.n (yaA L.S.D.n (yah Cl.enc L.S.D.cells))++yaR (min (yaA L.S.D.n (yah Cl.enc L.S.D.cells)).length L.n) (yah Cl.enc (yab L.n zC))=yah Cl.enc L.cells:=by
  rw [hDn,show yaA L.n (yah Cl.enc L.S.D.cells)=yah Cl.enc L.S.D.cells from yaH (by rw [hcl];exact yam _),show yaA L.n (yah Cl.enc L.S.D.cells)=yah Cl.enc L.S.D.cells from yaH (by rw [hcl];exact yam _),hcl,Nat.min_self,List.drop_of_length_le (by simp),yad]
  rfl
 rw [e2]
 have e3:(Blk.var [V.sl ((dkT L.S.D).length+6) 0 L.n,V.mp ((dkT L.S.D).length+7),V.i 0,V.i (-1),V.b false]::Blk.arr 65 (yah Cl.enc L.cells)::Blk.map [] 0::dkT (Lf L.n).D)=L.fresh.S.bs ((dkT L.S.D).length+3+2):=by
  have:dkT (Lf L.n).D=dkT L.fresh.D:=by
   unfold dkT Lf Lg.D Lg.fresh
   simp
  rw [this];rfl
 rw [e3]
 simp only [gG]
 have hfk:L.fresh.n=L.n:=rfl
 have d5:(((dkT L.S.D).length+3+2)∈yaa 3 L.S.n)=False:=eq_false fun hm=>by
  have:=yac.1 hm
  have:L.S.n=L.n:=rfl
  omega
 have d0:=xA L.S
 have hB:∀ M:List Nat,(∀ j∈M,j<(dkT L.S.D).length+3)→yah (aD M) (.dead::.dead::L.fresh.S.bs ((dkT L.S.D).length+3+2))=.dead::.dead::L.fresh.S.bs ((dkT L.S.D).length+3+2):=by
  intro M hM
  show .dead::.dead::(aD M (dkV _ L.fresh.D)::aD M (dkC L.fresh.D)::aD M (.map [] 0)::yah (aD M) (dkT L.fresh.D))=_
  rw [yD]
  have h1:(((dkT L.S.D).length+3+2+1)∈M)=False:=eq_false fun h=>by have:=hM _ h;omega
  have h2:(((dkT L.S.D).length+3+2+2)∈M)=False:=eq_false fun h=>by have:=hM _ h;omega
  simp only [dkV,dkC,aD,bB,kill,h1,h2,if_false]
  rfl
 refine ⟨.inr trivial,?_⟩
 refine rP _ L.S [] [] _ (oS (afJ L)) ⟨trivial,trivial⟩ rfl rfl (hB _ fun j hj=>by
  have:=yac.1 hj
  have:L.S.n=L.n:=rfl
  omega) ?_
 rintro v S'-⟨rfl,rfl⟩
 refine ⟨fun g=>rfl,?_⟩
 simp -implicitDefEqProofs only [rX,aA,↓reduceIte,aB,kill,St.kill,↓qaR,d5,d0]
 have hwf:wfB (dkX L.S (.dead::.dead::L.fresh.S.bs ((dkT L.S.D).length+3+2))) (.dead::.dead::L.fresh.S.bs ((dkT L.S.D).length+3+2)):=by
  have:=L.fresh.S.wf (p:=(dkT L.S.D).length+3+2) (L.S.bs 0++[.dead,.dead]) [] (by rw [yaj,L.S.len,hT];show L.n+3+2=3+L.n+2;omega) (C:=[]) trivial
  rw [yad,yap] at this
  exact this
 have hlive:aC (dkX L.S (.dead::.dead::L.fresh.S.bs ((dkT L.S.D).length+3+2))) ((dkT L.S.D).length+3+2):=Fp (j:=2) ⟨_,rfl,by unfold dkV;simp⟩
 refine a8 (fun k:Nat=>(⟨[(27,.i 0),(26,.i 0),(5,.ptr ((dkT L.S.D).length+3+2) 0 0)],dkX L.S (.dead::.dead::L.fresh.S.bs ((dkT L.S.D).length+3+2)),0⟩:St)) (fun k=>True) (fun k=>0) 0 trivial ?_ ?_
 ·refine Kh ⟨rfl,rfl,rfl,trivial⟩ (aG _) ⟨trivial,trivial,?_,trivial⟩ ?_
  ·exact hlive
  ·exact hwf
 ·intro k _
  unfold c18l0
  simp -implicitDefEqProofs only [rX,↓rY,rdK,zV,kX,aA,↓reduceIte,Nat.reduceEqDiff,reduceCtorEq,Nat.reduceLT]
  rw [show decide ((0:Int)<0)=false from rfl,we,cJ]
  refine ⟨dkX L.S (.dead::.dead::L.fresh.S.bs ((dkT L.S.D).length+3+2)),⟨aG _,j2,?_,hlive,Ni hwf⟩,?_⟩
  ·unfold dkX
   simp only [yao,yaj,hT]
   show 3+L.n≤_
   omega
  ·refine ⟨?_,?_⟩
   ·show V.ptr ((dkT L.S.D).length+3+2) 0 0=_
    rw [hT]
   ·rw [pF,hT]
set_option maxRecDepth 20000
structure cO (cs:List Cl) (k:Nat) (g:Int) (x:Option b6):Prop where
 gg:0≤g∧g≤1000
 n:k*129+129≤cs.length
 hd:(cs.getD (k*129) zC).s=if g=0 then zS else hdS k g
 z:∀ i,8≤i→i<128→(cs.getD (k*129+1+i) zC).s=zS
 sl:∀ i,i<8→(cs.getD (k*129+1+i) zC).s=match x with
  | some s=>cutS (dS k 0 s) i
  | none=>zS
structure b6.Fine (s:b6):Prop where
 g:0<s.gen∧s.gen≤1152921504606846976
 q:0<s.seq∧s.seq≤1152921504606846976
 k:s.key.length≤100
 d:s.data.length≤360
theorem vD {k j:Nat}:cM (k:Int) (j:Int)=k*129+1+j*8:=by unfold cM;omega
theorem Af {L:Lg} {k:Nat}:∀ {j:Nat},(∀ i:Nat,1≤i→i<1+j→∀ L':Lg,L'.cells=L.cells→L'.slo k i=L')→L.slos k (1+j)=L.slo k 0
 | 0,_=>rfl
 | j+1,h=>by
  have h1:=Af (L:=L) (k:=k) (j:=j) fun i a b=>h i a (by omega)
  show (L.slos k (1+j)).slo k (1+j)=_
  rw [h1]
  have hs:=(Sc.refl (L:=L)).slo (k:=k) (j:=0)
  exact h (1+j) (by omega) (by omega) _ hs.cells
theorem cO.zero {L:Lg} {k:Nat} (h:cO L.cells k 0 none):(L.hd k).slos k 16=L:=by
 refine Er (by have:=h.hd;rw [if_pos rfl] at this;exact this) fun i hi m hm=>?_
 rw [vD,yaQ (k*129+1)]
 by_cases h8:i*8+m<8
 ·exact h.sl _ h8
 ·exact h.z _ (by omega) (by omega)
theorem Vn {k:Nat} {g:Int} (h:0≤g∧g≤1000):cP (((nE (hdS k g)).drop 4).take 8)=g:=by
 unfold hdS
 rw [Cm]
 unfold tR
 rw [show yaR 4 ([87,83,69,71]++(wrN 8 g++(fW 140 [lB [(k:Int),g]]++yab 36 0)):Bs)=wrN 8 g++(fW 140 [lB [(k:Int),g]]++yab 36 0) from rfl]
 rw [List.take_append_of_le_length (by rw [cG];exact yam _),yaH (by rw [cG];exact yam _)]
 have hp:(256:Int) ^ 8=18446744073709551616:=by decide
 exact nP h.1 (by omega) (by omega)
theorem cO.full {L:Lg} {k:Nat} {g:Int} {s:b6} (h:cO L.cells k g (some s)) (hg:0<g) (hs:s.Fine) (hk:k<L.gens.length):(L.hd k).slos k 16 =
  { L with gens:=L.gens.set k g,top:=max (max L.top g) s.gen,seq:=max L.seq s.seq,found:=if s.gen=g then L.found++[⟨k,0,s.seq,s.key⟩] else L.found }:=by
 have hgg:=h.gg
 have h1:(L.cells.getD (k*129) zC).s=hdS k g:=by have:=h.hd;rw [if_neg (by omega)] at this;exact this
 have h2:L.hg k=g:=by unfold Lg.hg;rw [h1,Vn hgg]
 have h3:L.hd k={ L with gens:=L.gens.set k g,top:=max L.top g }:=by
  unfold Lg.hd Lg.hok
  rw [h2,h1,decide_eq_true hg,decide_eq_true (by omega:g≤1152921504606846976),decide_eq_true rfl]
  rfl
 rw [h3]
 have h4:=Af (L:={ L with gens:=L.gens.set k g,top:=max L.top g }) (k:=k) (j:=15) fun i a b L' hc=>Eo fun m hm=>by
  rw [vD,yaQ (k*129+1),hc]
  exact h.z _ (by omega) (by omega)
 rw [show (1+15)=16 from rfl] at h4
 rw [h4]
 have hb:({ L with gens:=L.gens.set k g,top:=max L.top g }:Lg).bts (k:Int) ((0:Nat):Int)=dS k 0 s:=by
  have hsec:({ L with gens:=L.gens.set k g,top:=max L.top g }:Lg).secs (k:Int) ((0:Nat):Int)=eR (dS k 0 s) 8:=by
   unfold Lg.secs eR
   refine ybm fun j hj=>?_
   rw [vD,Nat.zero_mul,yaW]
   exact h.sl j (by simpa using hj)
  unfold Lg.bts
  rw [hsec,Do eQ (yam 8)]
  exact yaH (by rw [eQ];exact yam _)
 unfold Lg.slo
 rw [hb,show ((0:Nat):Int)=0 from rfl,Lj hs.g hs.q hs.k hs.d]
 have hgd:(L.gens.set k g).getD k 0=g:=by rw [yai,List.getElem?_set_self hk];rfl
 simp only [hgd]
set_option maxRecDepth 20000
theorem cO.far {cs cs':List Cl} {k:Nat} {g:Int} {x:Option b6} (h:cO cs k g x) (hl:cs'.length=cs.length) (hf:∀ i,k*129≤i→i<k*129+129→cs'[i]?=cs[i]?):cO cs' k g x:=by
 have e:∀ i,k*129≤i→i<k*129+129→cs'.getD i zC=cs.getD i zC:=fun i a b=>by
  rw [yai,yai,hf i a b]
 refine ⟨h.gg,by rw [hl];exact h.n,by rw [e _ (by omega) (by omega)];exact h.hd,fun i a b=>by rw [e _ (by omega) (by omega)];exact h.z i a b,fun i a=>by rw [e _ (by omega) (by omega)];exact h.sl i a⟩
theorem cO.new {n k:Nat} (h:k*129+129≤n):cO (Lf n).cells k 0 none:=by
 refine ⟨by decide,by show _≤(yab n zC).length;rw [yan];exact h,by rw [yV];rfl,fun i _ _=>by rw [yV];rfl,fun i _=>by rw [yV];rfl⟩
open Classical in
theorem Hu {L:Lg} {s c c' i:Nat} (hi:s*129≤i∧i<s*129+129) (hn:i<L.cells.length) :
  ((L.ren s c c').cells.getD i zC).s=if i=s*129 then hdS s (L.top+1) else if L.gens.getD s 0=0∧∃ j,j<16∧i=s*129+1+j*8 then zS else (L.cells.getD i zC).s:=by
 have hw:∀ cs:List Cl,i<cs.length→((lI cs (s*129) [hdS s (L.top+1)]).getD i zC).s=if i=s*129 then hdS s (L.top+1) else (cs.getD i zC).s:=by
  intro cs hcs
  rw [yai,lH hcs]
  by_cases h1:i=s*129
  ·rw [if_pos (by simp only [yao,yas];omega),if_pos h1,h1,yay];rfl
  ·rw [if_neg (by simp only [yao,yas];omega),if_neg h1,yai]
 unfold Lg.ren
 by_cases h0:L.gens.getD s 0=0
 ·rw [if_pos h0]
  show ((lI (uC L.cells (erO s 16)) (s*129) [hdS s (L.top+1)]).getD i zC).s=_
  rw [hw _ (by rw [iP];exact hn)]
  by_cases h1:i=s*129
  ·rw [if_pos h1,if_pos h1]
  ·rw [if_neg h1,if_neg h1,yai,Ff hn]
   unfold erO
   by_cases h2:∃ j,j<16∧i=s*129+1+j*8
   ·rw [if_pos h2,if_pos ⟨h0,h2⟩];rfl
   ·rw [if_neg h2,if_neg (fun h=>h2 h.2)]
    simp only [yai]
 ·rw [if_neg h0]
  show ((lI L.cells (s*129) [hdS s (L.top+1)]).getD i zC).s=_
  rw [hw _ hn]
  by_cases h1:i=s*129
  ·rw [if_pos h1,if_pos h1]
  ·rw [if_neg h1,if_neg h1,if_neg (fun h=>h0 h.1)]
theorem cO.rnw {L:Lg} {s c c':Nat} {g:Int} {x:Option b6} (h:cO L.cells s g x) (hx:L.gens.getD s 0=0→x=none) (ht:0≤L.top∧L.top<1000):cO (L.ren s c c').cells s (L.top+1) x:=by
 have hl:=(iZ (L:=L) (s:=s) (c:=c) (c':=c')).len
 have hn:=h.n
 refine ⟨by omega,by rw [hl];exact hn,?_,fun i a b=>?_,fun i a=>?_⟩
 ·rw [Hu (by omega) (by omega),if_pos rfl,if_neg (by omega)]
 ·rw [Hu (by omega) (by omega),if_neg (by omega)]
  split
  ·rfl
  ·exact h.z i a b
 ·rw [Hu (by omega) (by omega),if_neg (by omega)]
  split
  ·rename_i h3
   rw [hx h3.1]
  ·exact h.sl i a
theorem cO.rnwO {L:Lg} {s c c' k:Nat} {g:Int} {x:Option b6} (h:cO L.cells k g x) (hk:k≠s):cO (L.ren s c c').cells k g x:=by
 have hr:=(iZ (L:=L) (s:=s) (c:=c) (c':=c'))
 exact h.far hr.len fun i a b=>hr.far i (by omega)
theorem Ea {L:Lg} {s c i:Nat} {key data:Bs} (hs:L.seg=s) (hn:L.next=0) (hi:i<L.cells.length):(L.app key data c).cells[i]?=if s*129+1≤i∧i<s*129+9 then some ⟨cutS (dS s 0 (L.slot key data)) (i-(s*129+1)),false⟩ else L.cells[i]?:=by
 have hat:L.at=s*129+1:=by unfold Lg.at;rw [hs,hn];omega
 show (lI L.cells L.at (eR (dS L.seg L.next (L.slot key data)) 8))[i]?=_
 rw [lH hi,hat,gM,hs,hn]
 by_cases h:s*129+1≤i∧i<s*129+9
 ·rw [if_pos (by omega),if_pos h,Gl (by omega)]
 ·rw [if_neg (by omega),if_neg h]
theorem cO.put {L:Lg} {s c:Nat} {g:Int} {key data:Bs} (h:cO L.cells s g none) (hs:L.seg=s) (hn:L.next=0):cO (L.app key data c).cells s g (some (L.slot key data)):=by
 have hl:(L.app key data c).cells.length=L.cells.length:=dA
 have hnn:=h.n
 refine ⟨h.gg,by rw [hl];exact hnn,?_,fun i a b=>?_,fun i a=>?_⟩
 ·rw [yai,Ea hs hn (by omega),if_neg (by omega),←yai]
  exact h.hd
 ·rw [yai,Ea hs hn (by omega),if_neg (by omega),←yai]
  exact h.z i a b
 ·rw [yai,Ea hs hn (by omega),if_pos (by omega)]
  simp only [Option.getD_some]
  congr 1
  omega
theorem cO.putO {L:Lg} {s c k:Nat} {g:Int} {x:Option b6} {key data:Bs} (h:cO L.cells k g x) (hs:L.seg=s) (hn:L.next=0) (hk:k≠s):cO (L.app key data c).cells k g x:=by
 have hl:(L.app key data c).cells.length=L.cells.length:=dA
 have hnn:=h.n
 refine h.far hl fun i a b=>?_
 rw [Ea hs hn (by omega),if_neg (by omega)]
theorem Inv.re {m:Md} {L:Lg} {B st c:Nat} (h:Inv m L B) (hst:st≤100*B):Inv { m with seg:=-1 } { L with seg:=-1,next:=0,steps:=st,c:=c } B :=
 ⟨h.fnd,rfl,fun h0=>absurd h0 (by show ¬(0:Int)≤-1;decide),⟨yat _,by show (-1:Int)<L.gens.length;omega⟩,⟨yat _,by show (0:Int)≤16;decide⟩,h.gl,h.sgs,h.cl,h.bad,h.gp,h.tp,h.sq,hst,h.fl,fun x hx=>by have:=h.its x hx;exact ⟨this.sg,this.sl,this.sq,this.gn,this.key,this.dat,this.cl⟩,h.asc,fun x hx he=>by have:=(h.its x hx).sg;have he2:x.c.seg=-1:=he;omega,h.cnt,fun h0=>absurd h0 (by show ¬(0:Int)≤-1;decide),fun h0=>absurd h0 (by show ¬(0:Int)≤-1;decide)⟩
set_option maxRecDepth 20000
theorem Ls {m:Md} {L:Lg} {B s:Nat} {key data:Bs} (h:Inv m L B) (hB:B≤1000) (hm:m.seg=-1) (hs:s<L.gens.length) (hf:m.fr s=true) (hfl:∀ i:Nat,i<s→m.fr i=false) (hk:key.length≤100) (hd:data.length≤360) :
  OkL 16 [.ptr 0 0 0,sv key,sv data] L (fun r L'=>r=.tup [.agg [.i s,.i 0,.i (L.seq+1)],.i 0]∧∃ c c' c'',L'=(L.took s c c').app key data c''):=by
 have hsq:=h.sq
 have hsg:=h.sg
 have hse:=h.seg
 have hfl2:=h.fl
 refine iR (Zl L key data (h.Sm (by omega)) ⟨by omega,by omega⟩ (by rw [h.fnd,yag];omega) (by omega) (by omega) h.nx (fun x hx=>by have:=h.gp x hx;omega)) ?_
 rintro r hh ⟨L',⟨h1,h2⟩,rfl⟩
 refine ⟨L',⟨h1,?_⟩,rfl⟩
 rcases h2 with ⟨q1,rfl,rfl⟩|⟨q1,q2,q3,rfl,rfl⟩|⟨q1,L1,c,q2,rfl,rfl⟩
 ·omega
 ·have:=q3 s hs
  rw [h.free,hf] at this
  cases this
 ·rcases q2 with ⟨a1,rfl⟩|⟨a1,s',c1,c2,a2,a3,a4,rfl⟩
  ·omega
  ·have e:s'=s:=by
    rcases Nat.lt_trichotomy s' s with h5|h5|h5
    ·have:=hfl s' h5
     rw [←h.free,a3] at this
     cases this
    ·exact h5
    ·have:=a4 s h5
     rw [h.free,hf] at this
     cases this
   subst e
   have hr:=iZ (L:=L) (s:=s') (c:=c1) (c':=c2)
   have hq1:(L.took s' c1 c2).seq=L.seq:=hr.seq
   rw [hq1]
   exact ⟨rfl,c1,c2,c,rfl⟩
structure Ph (m:Md) (L:Lg) (g0 g1:Int) (x0 x1:Option b6) (t q:Int) (B:Nat):Prop where
 inv:Inv m L B
 n:L.cells.length=300
 g:L.gens=[g0,g1]
 t:L.top=t
 q:L.seq=q
 s0:cO L.cells 0 g0 x0
 s1:cO L.cells 1 g1 x1
def ik:Bs:=[107]
def il:Bs:=[108]
def sS:Bs:=[97,98,99]
def it1:It:=⟨⟨0,0,1,ik⟩,sS⟩
def it2:It:=⟨⟨1,0,2,il⟩,[]⟩
def sl1:b6:=⟨1,1,ik,sS⟩
def sl2:b6:=⟨2,2,il,[]⟩
theorem phA:Ph ⟨[],2,-1,0⟩ (Lf 300).blank 0 0 none none 0 0 1:=by
 refine ⟨Inv.newN (n:=300) (s:=2) (by omega) (by omega),yan ..,?_,rfl,rfl,cO.new (by omega),cO.new (by omega)⟩
 show yab ((yab 300 zC).length/129) (0:Int)=_
 rw [yan];rfl
theorem phB {L:Lg} {c c' c'':Nat} (h:Ph ⟨[],2,-1,0⟩ L 0 0 none none 0 0 1):Ph ⟨[it1],2,0,1⟩ ((L.took 0 c c').app ik sS c'') 1 0 (some sl1) none 1 1 3:=by
 have hr:=iZ (L:=L) (s:=0) (c:=c) (c':=c')
 have hq:(L.took 0 c c').seq=0:=hr.seq.trans h.q
 have ht:(L.ren 0 c c').top=1:=by rw [hr.top,h.t];rfl
 have hg:(L.ren 0 c c').gens=[1,0]:=by rw [hr.gens,h.g,h.t];rfl
 have i1:=((h.inv.took (s:=0) (c:=c) (c':=c') (by rw [h.g];decide) (by rw [h.inv.free];decide)).app (c:=c'') (key:=ik) (data:=sS) (by decide) (by show (0:Int)<16;decide) (by decide) (by decide))
 rw [hq] at i1
 refine ⟨i1,?_,hg,ht,?_,?_,?_⟩
 ·show (lI (L.ren 0 c c').cells _ _).length=_
  rw [dA,hr.len,h.n]
 ·show (L.took 0 c c').seq+1=1
  rw [hq];rfl
 ·have h1:=(h.s0.rnw (c:=c) (c':=c') (fun _=>rfl) (by rw [h.t];decide))
  have h2:=cO.put (L:=L.took 0 c c') (c:=c'') (key:=ik) (data:=sS) h1 rfl rfl
  have h3:(L.took 0 c c').slot ik sS=sl1:=by
   unfold Lg.slot
   rw [hq,show (L.took 0 c c').gens=(L.ren 0 c c').gens from rfl,hg];rfl
  rw [h3,h.t] at h2
  exact h2
 ·have h1:=h.s1.rnwO (s:=0) (c:=c) (c':=c') (by decide)
  exact cO.putO (L:=L.took 0 c c') (c:=c'') (key:=ik) (data:=sS) h1 rfl rfl (by decide)
theorem Wy:sl1.Fine:=⟨by decide,by decide,by decide,by decide⟩
theorem abS:sl2.Fine:=⟨by decide,by decide,by decide,by decide⟩
theorem ahW {L:Lg} (h:L.cells.length=300):L.fresh.blank.gens=[0,0]:=by
 show yab (L.cells.length/129) (0:Int)=_
 rw [h];rfl
theorem scB {L:Lg} (h:Ph ⟨[it1],2,0,1⟩ L 1 0 (some sl1) none 1 1 3):L.fresh.blank.scan 2={ L with seg:=-1,next:=0,steps:=0,c:=0 }:=by
 have hg:=ahW h.n
 have e1:L.fresh.blank.scan 1={ L.fresh.blank with gens:=L.fresh.blank.gens.set 0 1,top:=1,seq:=1,found:=[⟨0,0,1,ik⟩] }:=by
  show (L.fresh.blank.hd 0).slos 0 16=_
  rw [cO.full (L:=L.fresh.blank) (k:=0) (g:=1) (s:=sl1) h.s0 (by decide) Wy (by rw [hg];decide)]
  rfl
 show ((L.fresh.blank.scan 1).hd 1).slos 1 16=_
 have hc:(L.fresh.blank.scan 1).cells=L.cells:=by rw [e1];rfl
 rw [cO.zero (L:=L.fresh.blank.scan 1) (k:=1) (by rw [hc];exact h.s1),e1,hg]
 have h1:=h.g
 have h2:=h.t
 have h3:=h.q
 have h4:=h.inv.fnd
 cases L
 simp only at h1 h2 h3 h4
 subst h1 h2 h3 h4
 rfl
theorem phC {L:Lg} (h:Ph ⟨[it1],2,0,1⟩ L 1 0 (some sl1) none 1 1 3):Ph ⟨[it1],2,-1,1⟩ { L with seg:=-1,next:=0,steps:=0,c:=0 } 1 0 (some sl1) none 1 1 3 :=
 ⟨h.inv.re (by omega),h.n,h.g,h.t,h.q,h.s0,h.s1⟩
theorem phD {L:Lg} {c c' c'':Nat} (h:Ph ⟨[it1],2,-1,1⟩ L 1 0 (some sl1) none 1 1 3):Ph ⟨[it1,it2],2,1,1⟩ ((L.took 1 c c').app il [] c'') 1 2 (some sl1) (some sl2) 2 2 5:=by
 have hr:=iZ (L:=L) (s:=1) (c:=c) (c':=c')
 have hq:(L.took 1 c c').seq=1:=hr.seq.trans h.q
 have ht:(L.ren 1 c c').top=2:=by rw [hr.top,h.t];rfl
 have hg:(L.ren 1 c c').gens=[1,2]:=by rw [hr.gens,h.g,h.t];rfl
 have i1:=((h.inv.took (s:=1) (c:=c) (c':=c') (by rw [h.g];decide) (by rw [h.inv.free];decide)).app (c:=c'') (key:=il) (data:=[]) (by decide) (by show (0:Int)<16;decide) (by decide) (by decide))
 rw [hq] at i1
 refine ⟨i1,?_,hg,ht,?_,?_,?_⟩
 ·show (lI (L.ren 1 c c').cells _ _).length=_
  rw [dA,hr.len,h.n]
 ·show (L.took 1 c c').seq+1=2
  rw [hq];rfl
 ·have h1:=h.s0.rnwO (s:=1) (c:=c) (c':=c') (by decide)
  exact cO.putO (L:=L.took 1 c c') (c:=c'') (key:=il) (data:=[]) h1 rfl rfl (by decide)
 ·have h1:=(h.s1.rnw (c:=c) (c':=c') (fun _=>rfl) (by rw [h.t];decide))
  have h2:=cO.put (L:=L.took 1 c c') (c:=c'') (key:=il) (data:=[]) h1 rfl rfl
  have h3:(L.took 1 c c').slot il []=sl2:=by
   unfold Lg.slot
   rw [hq,show (L.took 1 c c').gens=(L.ren 1 c c').gens from rfl,hg];rfl
  rw [h3,h.t] at h2
  exact h2
theorem scE {L:Lg} {c c':Nat} (h:Ph ⟨[it1,it2],2,1,1⟩ L 1 2 (some sl1) (some sl2) 2 2 5):((L.drop 0 c c').fresh.blank.scan 2).found=[⟨1,0,2,il⟩]:=by
 have hr:=iZ (L:=L) (s:=0) (c:=c) (c':=c')
 have hn:(L.drop 0 c c').cells.length=300:=hr.len.trans h.n
 have s0:cO (L.drop 0 c c').cells 0 3 (some sl1):=by
  have:=h.s0.rnw (c:=c) (c':=c') (fun hx=>by rw [h.g] at hx;exact absurd hx (by decide)) (by rw [h.t];decide)
  rw [h.t] at this
  exact this
 have s1:cO (L.drop 0 c c').cells 1 2 (some sl2):=h.s1.rnwO (s:=0) (c:=c) (c':=c') (by decide)
 generalize (L.drop 0 c c')=L' at hn s0 s1
 have hg:=ahW hn
 have e1:L'.fresh.blank.scan 1={ L'.fresh.blank with gens:=L'.fresh.blank.gens.set 0 3,top:=3,seq:=1,found:=[] }:=by
  show (L'.fresh.blank.hd 0).slos 0 16=_
  rw [cO.full (L:=L'.fresh.blank) (k:=0) (g:=3) (s:=sl1) s0 (by decide) Wy (by rw [hg];decide)]
  rfl
 show (((L'.fresh.blank.scan 1).hd 1).slos 1 16).found=_
 have hc:(L'.fresh.blank.scan 1).cells=L'.cells:=by rw [e1];rfl
 have hgl:(L'.fresh.blank.scan 1).gens.length=2:=by rw [e1];show (List.set _ _ _).length=2;rw [yaM,hg];rfl
 rw [cO.full (L:=L'.fresh.blank.scan 1) (k:=1) (g:=2) (s:=sl2) (by rw [hc];exact s1) (by decide) abS (by omega)]
 rw [e1]
 rfl
set_option maxRecDepth 20000
def Clo (A:List Blk):Prop:=∀ M:List Nat,(∀ j∈M,A.length≤j)→A.map (aD M)=A
theorem Clo.app {A B:List Blk} (hA:Clo A) (hB:∀ M:List Nat,(∀ j∈M,A.length+B.length≤j)→B.map (aD M)=B):Clo (A++B):=by
 intro M hM
 rw [yaj] at hM
 rw [yal,hA M fun j hj=>by have:=hM j hj;omega,hB M hM]
theorem xL {M:List Nat} {l:List Int}:aD M (.arr 1 (l.map encI))=.arr 1 (l.map encI):=by
 simp only [aD,yba]
theorem xK {M:List Nat} {l:List Ck}:aD M (.arr 4 (l.map Ck.enc))=.arr 4 (l.map Ck.enc):=by
 simp only [aD,yba]
theorem Vw {L:Lg} {p:Nat} {M:List Nat} (hM:∀ j∈M,p+L.n+3≤j):(L.S.bs p).map (aD M)=L.S.bs p:=by
 have h1:(p+1∈M)=False:=eq_false fun h=>by have:=hM _ h;omega
 have h2:(p+2∈M)=False:=eq_false fun h=>by have:=hM _ h;omega
 show aD M (dkV p L.D)::aD M (dkC L.D)::aD M (.map [] L.c)::(dkT L.D).map (aD M)=_
 rw [yD]
 simp only [dkV,dkC,aD,bB,kill,h1,h2,if_false]
 rfl
theorem Ux {L:Lg} {p:Nat} {M:List Nat} (hM:∀ j∈M,p+L.n+6≤j):(opB L p).map (aD M)=opB L p:=by
 have h1:(p∈M)=False:=eq_false fun h=>by have:=hM _ h;omega
 have h2:(p+L.cells.length+3∈M)=False:=eq_false fun h=>by have:=hM _ h;have:L.n=L.cells.length:=rfl;omega
 have h3:(p+L.cells.length+5∈M)=False:=eq_false fun h=>by have:=hM _ h;have:L.n=L.cells.length:=rfl;omega
 rw [iQ,yal,Vw fun j hj=>by have:=hM j hj;omega]
 unfold o3
 simp only [yae,yak,xL,xK]
 simp only [aD,bB,kill,h1,h2,h3,if_false]
def oA (A:List Blk) (L:Lg):List Blk:=A++opB L A.length
theorem j1 {A:List Blk} {L:Lg}:(oA A L).length=A.length+(L.n+6):=by unfold oA;rw [yaj,Cs]
theorem Hw {A B:List Blk} {L:Lg}:oA A L++B=A++(opB L A.length++B):=by unfold oA;rw [yap]
theorem Clo.oA {A:List Blk} (L:Lg) (h:Clo A):Clo (oA A L):=h.app fun M hM=>Ux fun j hj=>by
 have:=hM j hj
 rw [Cs] at this
 omega
section
variable {cx:Cx} {f:FuncId} {e:Env} {b:Nat} {K:V→St→Prop}
theorem Ln (A B:List Blk) (L:Lg) (args xs:List V) (Q:V→Lg→Prop) (hC:cx.C f (.ptr 0 0 0::xs) (L.bs 0) (yaa 5 (L.n+1)) (QF Lg.bs (5+(L.n+1)) Q))
  (ha:∀ (H:List Blk) (g:Nat→Option Nat),aJ H g args∧wkL xs (aV H g args))
  (hbn:∀ k∈cx.bn,A.length+(L.n+6)≤k) (hfx:cx.fx=[]) (hA:Clo A)
  (hB:∀ M:List Nat,(∀ j∈M,j<A.length+(L.n+6))→B.map (aD M)=B)
  (h3:∀ (r:V) (L':Lg),L'.n=L.n→Q r L'→(∀ f,ren f r=r)∧K r ⟨aB (yaa (A.length+3) L.n++[A.length+L.n+5]) e,oA A L'++B,b⟩):cF cx f (.ptr (A.length+L.n+4) 0 0::args) ⟨e,oA A L++B,b⟩ K:=by
 rw [Hw]
 refine Wd A B L args xs Q hC (ha _ _) (fun k hk=>.inr (hbn k hk)) (by rw [hfx];intro k hk;cases hk) (hA _ ?_) (hB _ ?_) fun r L' hn hq=>?_
 ·intro j hj
  simp only [yaK,yac,yaJ] at hj
  omega
 ·intro j hj
  simp only [yaK,yac,yaJ] at hj
  omega
 ·obtain ⟨q1,q2⟩:=h3 r L' hn hq
  refine ⟨q1,by rw [hfx];trivial,?_⟩
  rw [Hw] at q2
  exact q2
theorem Ir (A B:List Blk) (L:Lg) (h:1≤L.n∧L.n≤65536) (hcx:cx.C=C0 Tryz.prog) (hbn:∀ k∈cx.bn,A.length+(L.n+3)≤k) (hfx:cx.fx=[]) (hA:Clo A)
  (hB:∀ M:List Nat,(∀ j∈M,A.length+3≤j∧j<A.length+(L.n+3))→B.map (aD M)=B)
  (h3:K (.ptr ((A++(L.S.bs A.length++B)).length+2) 0 0) ⟨aB (yaa (A.length+3) L.n) e,(A++(L.S.bs A.length++B))++(.dead::.dead::L.fresh.S.bs ((A++(L.S.bs A.length++B)).length+2)),b⟩):cF cx 18 [.ptr A.length 0 0,.nil] ⟨e,A++(L.S.bs A.length++B),b⟩ K:=by
 have hSl:(L.S.bs A.length).length=3+L.n:=L.S.len
 refine ⟨yaa A.length (3+L.n),[.ptr 0 0 0,.nil],yaa 3 L.n,IsA (.ptr (L.n+5) 0 0) (L.S.bs 0++(.dead::.dead::L.fresh.S.bs (L.n+5))),⟨⟨ybd,fun k hk=>?_⟩,fun j hj k hk hkf=>?_⟩,⟨trivial,trivial,trivial⟩,⟨?_,rfl,trivial⟩,?_,?_⟩
 ·rw [yac] at hk
  refine ⟨by simp only [yaj,hSl];omega,fun hb=>?_⟩
  have:=hbn k hb
  omega
 ·rw [hfx] at hkf;cases hkf
 ·simp only [bO,dI]
  rw [if_pos (by omega),yay]
  exact rfl
 ·have e1:(yaa A.length (3+L.n)).map (fun k=>bD (pos (yaa A.length (3+L.n))) (blk (A++(L.S.bs A.length++B)) k))=L.S.bs 0:=by
   have h1:(L.S.bs A.length).map (bD (pos (yaa A.length (3+L.n))))=L.S.bs 0:=fN L.S.ok fun j hj=>by
    have hj2:j<3+L.n:=hj
    rw [dI,if_pos (by omega)];simp
   rw [←h1]
   apply ybe
   ·simp only [yag,yaz,hSl]
   ·intro j h2 h3
    simp only [yar,ybf,blk]
    congr 1
    have hj:j<(L.S.bs A.length).length:=by rw [yag] at h3;exact h3
    rw [yai,yaf (by omega),show A.length+1*j-A.length=j by omega,yaS hj,yaI hj];rfl
  rw [e1,hcx];exact afV L h
 ·rintro r h' ⟨rfl,rfl⟩ _
  have hM:(yaa 3 L.n).filterMap ((yaa A.length (3+L.n))[·]?)=yaa (A.length+3) L.n:=w9
  have hNN:(A++(L.S.bs A.length++B)).length=A.length+(3+L.n+B.length):=by simp only [yaj,hSl]
  have hback:∀ j,back (yaa A.length (3+L.n)) (A++(L.S.bs A.length++B)).length j=if j<3+L.n then some (A.length+j) else some ((A++(L.S.bs A.length++B)).length+(j-(3+L.n))):=fun j=>mR
  generalize hN:(A++(L.S.bs A.length++B)).length=NN at *
  have e1:(L.S.bs 0).map (bD (back (yaa A.length (3+L.n)) NN))=L.S.bs A.length:=fN L.S.ok fun j hj=>by
   have hj2:j<3+L.n:=hj
   rw [hback,if_pos (by omega),yaC]
  have e2:(L.fresh.S.bs (L.n+5)).map (bD (back (yaa A.length (3+L.n)) NN))=L.fresh.S.bs (NN+2):=fN L.fresh.S.ok fun j hj=>by
   rw [hback,if_neg (by omega)]
   congr 1;omega
  rw [hM,yal,yae,yae,e1,e2]
  have e3:ren (back (yaa A.length (3+L.n)) NN) (.ptr (L.n+5) 0 0)=.ptr (NN+2) 0 0:=by
   simp only [ren,hback]
   rw [if_neg (by omega)]
   simp only
   rw [show NN+(L.n+5-(3+L.n))=NN+2 by omega]
  rw [e3,hfx]
  refine ⟨trivial,?_⟩
  have e4:(A++(L.S.bs A.length++B)).map (aD (yaa (A.length+3) L.n))=A++((L.S.bs A.length).map (aD (yaa (A.length+3) L.n))++B):=by
   rw [yal,yal,hA _ fun j hj=>by have:=yac.1 hj;omega,hB _ fun j hj=>by have:=yac.1 hj;omega]
  rw [e4]
  have e5:∀ X,aY (yaa A.length (3+L.n)) (L.S.bs A.length++X) (A++((L.S.bs A.length).map (aD (yaa (A.length+3) L.n))++B))=(A++(L.S.bs A.length++B))++X:=by
   intro X
   have e0:aY (yaa A.length (3+L.n)++[]) (L.S.bs A.length++X) (A++((L.S.bs A.length).map (aD (yaa (A.length+3) L.n))++B))=aY [] X (aY (yaa A.length (3+L.n)) (L.S.bs A.length) (A++((L.S.bs A.length).map (aD (yaa (A.length+3) L.n))++B))):=mD (by rw [yaz,hSl])
   rw [yad] at e0
   rw [e0]
   have:=fI (X:=(L.S.bs A.length).map (aD (yaa (A.length+3) L.n))) (Y:=L.S.bs A.length) (B:=B) (A:=A) (by rw [yag])
   rw [yag,hSl] at this
   rw [this];rfl
  rw [e5]
  exact h3
end
set_option maxRecDepth 20000
theorem c5_parts:c5=.seq (pt 0 c5) (.seq (pt 1 c5) (.seq (pt 2 c5) (.seq (pt 3 c5) (.seq (pt 4 c5) (.seq (pt 5 c5) (.seq (pt 6 c5) (.seq (pt 7 c5) (.seq (pt 8 c5) (.seq (pt 9 c5) (.seq (pt 10 c5) (.seq (pt 11 c5) (.seq (pt 12 c5) (.seq (pt 13 c5) (.seq (pt 14 c5) (rt 15 c5))))))))))))))):=by rfl
theorem gZ {A:List Blk} {n j:Nat} (h:j<A.length+3∨j=A.length+n+3∨j=A.length+n+4∨A.length+n+6≤j):(j∈yaa (A.length+3) n++[A.length+n+5])=False:=eq_false fun hm=>by
 simp only [yaK,yac,yaJ] at hm
 omega
theorem Qh {A:List Blk} {n j:Nat} (h:j<A.length+3∨A.length+n+3≤j):(j∈yaa (A.length+3) n)=False:=eq_false fun hm=>by
 rw [yac] at hm
 omega
section
variable {N R:St→Prop} {Xx:Nat→St→Prop} {bb:Nat} {e:Env}
theorem ajR (hN:∀ e b',get e 1=.ptr 2 0 0→N ⟨e,[.dead,.dead]++(Lf 300).S.bs 2,b'⟩):aw (cxN Tryz.prog []) (pt 1 c5) N Xx R ⟨e,[],0⟩:=by
 conv=>arg 2;whnf
 simp -implicitDefEqProofs only [rX,aA,cxN]
 refine yI [] 300 (by omega) rfl trivial ?_
 simp -implicitDefEqProofs only [rX,↓reduceIte]
 exact hN _ _ rfl
theorem ajQ {H:List Blk} {k:Nat} (g1:get e 1=.ptr k 0 0) (hN:∀ e b',get e 1=.ptr k 0 0→N ⟨e,H,b'⟩):aw (cxN Tryz.prog []) (pt 2 c5) N Xx R ⟨e,H,bb⟩:=by
 conv=>arg 2;whnf
 simp -implicitDefEqProofs only [rX,↓rY,kh,aA,↓reduceIte,↓qbA,cxN,g1]
 exact hN _ _ g1
theorem kE (M:List Nat) {e:Env} {t k:Nat} (h:(k∈M)=False) (g:get e t=.ptr k 0 0):get (aB M e) t=.ptr k 0 0:=by
 rw [aH,g]
 simp only [kill,h,if_false]
theorem ajP {A:List Blk} {L:Lg} (hn:L.cells.length=300) (hb:∀ c∈L.cells,c.bad=false) (hA:Clo A) (g1:get e 1=.ptr A.length 0 0)
  (hN:∀ fd e b',yQ (L.blank.scan 2).found fd→get e 1=.ptr A.length 0 0→get e 2=.ptr (A.length+300+4) 0 0→get e 3=.i 0→N ⟨e,oA A (L.opn fd),b'⟩) :
  aw (cxN Tryz.prog []) (pt 3 c5) N Xx R ⟨e,A++L.S.bs A.length,bb⟩:=by
 conv=>arg 2;whnf
 have hn2:L.n=300:=hn
 simp -implicitDefEqProofs only [rX,↓reduceIte,cxN,g1]
 refine oM A L (by omega) hb rfl rfl (by intro k hk;cases hk) (hA _ fun j hj=>by rw [yac] at hj;omega) (fun h=>by omega) fun _ fd hfd=>⟨trivial,?_⟩
 rw [hn] at hfd
 rw [hn2]
 have m0:=Qh (A:=A) (n:=300) (j:=A.length) (by omega)
 simp -implicitDefEqProofs only [rX,↓rY,↓reduceIte,Nat.reduceEqDiff,aB,kill,St.kill,m0]
 exact hN fd _ _ hfd (kE _ m0 g1) rfl rfl
section
variable {cx:Cx} {f:FuncId} {b:Nat} {K:V→St→Prop}
theorem oN (A:List Blk) (L:Lg) (args xs:List V) (Q:V→Lg→Prop) (hC:cx.C f (.ptr 0 0 0::xs) (L.bs 0) (yaa 5 (L.n+1)) (QF Lg.bs (5+(L.n+1)) Q)) (hn:L.n=300)
  (ha:∀ (H:List Blk) (g:Nat→Option Nat),aJ H g args∧wkL xs (aV H g args))
  (hbn:∀ k∈cx.bn,A.length+306≤k) (hfx:cx.fx=[]) (hA:Clo A)
  (h3:∀ (r:V) (L':Lg),L'.n=L.n→Q r L'→(∀ f,ren f r=r)∧K r ⟨aB (yaa (A.length+3) 300++[A.length+300+5]) e,oA A L',b⟩):cF cx f (.ptr (A.length+300+4) 0 0::args) ⟨e,oA A L,b⟩ K:=by
 have:=Ln (cx:=cx) (f:=f) (b:=b) (K:=K) (e:=e) A [] L args xs Q hC ha (fun k hk=>by have:=hbn k hk;omega) hfx hA (fun _ _=>rfl) fun r L' h1 h2=>by
  obtain ⟨q1,q2⟩:=h3 r L' h1 h2
  rw [yad,hn]
  exact ⟨q1,q2⟩
 rw [yad,hn] at this
 exact this
theorem mM (A B:List Blk) (L:Lg) (args xs:List V) (Q:V→Lg→Prop) (hC:cx.C f (.ptr 0 0 0::xs) (L.bs 0) (yaa 5 (L.n+1)) (QF Lg.bs (5+(L.n+1)) Q)) (hn:L.n=300)
  (ha:∀ (H:List Blk) (g:Nat→Option Nat),aJ H g args∧wkL xs (aV H g args))
  (hbn:∀ k∈cx.bn,A.length+306≤k) (hfx:cx.fx=[]) (hA:Clo A) (d:Nat) (hb:b=(oA A L).length+d)
  (hB:∀ M:List Nat,(∀ j∈M,j<A.length+306)→B.map (aD M)=B)
  (h3:∀ (r:V) (L':Lg),L'.n=L.n→Q r L'→(∀ f,ren f r=r)∧K r ⟨aB (yaa (A.length+3) 300++[A.length+300+5]) e,oA A L'++B,(oA A L').length+d⟩):cF cx f (.ptr (A.length+300+4) 0 0::args) ⟨e,oA A L++B,b⟩ K:=by
 have:=Ln (cx:=cx) (f:=f) (b:=b) (K:=K) (e:=e) A B L args xs Q hC ha (fun k hk=>by have:=hbn k hk;omega) hfx hA (fun M hM=>hB M fun j hj=>by have:=hM j hj;omega) fun r L' h1 h2=>by
  obtain ⟨q1,q2⟩:=h3 r L' h1 h2
  rw [hn]
  refine ⟨q1,?_⟩
  have hl:b=(oA A L').length+d:=by rw [hb,j1,j1,h1]
  rw [hl]
  exact q2
 rw [hn] at this
 exact this
end
theorem ajO {A:List Blk} {L:Lg} (hA:Clo A) (h:Ph ⟨[],2,-1,0⟩ L 0 0 none none 0 0 1) (g1:get e 1=.ptr A.length 0 0) (g2:get e 2=.ptr (A.length+300+4) 0 0) (g3:get e 3=.i 0)
  (hN:∀ e b',get e 1=.ptr A.length 0 0→get e 2=.ptr (A.length+300+4) 0 0→N ⟨e,oA A L,b'⟩) :
  aw (cxN Tryz.prog []) (pt 4 c5) N Xx R ⟨e,oA A L,bb⟩:=by
 have hn:L.n=300:=h.n
 have hf0:L.found=[]:=h.inv.fnd
 have hgl:L.gens.length=2:=by rw [h.g];rfl
 have m1:=gZ (A:=A) (n:=300) (j:=A.length) (by omega)
 have m2:=gZ (A:=A) (n:=300) (j:=A.length+300+4) (by omega)
 have kk:∀ {e:Env} {t:Nat},get e t=.ptr A.length 0 0→get (aB (yaa (A.length+3) 300++[A.length+300+5]) e) t=.ptr A.length 0 0:=fun g=>kE _ m1 g
 have kk2:∀ {e:Env} {t:Nat},get e t=.ptr (A.length+300+4) 0 0→get (aB (yaa (A.length+3) 300++[A.length+300+5]) e) t=.ptr (A.length+300+4) 0 0:=fun g=>kE _ m2 g
 conv=>arg 2;whnf
 simp -implicitDefEqProofs only [rX,↓rY,kh,aA,↓reduceIte,Nat.reduceEqDiff,↓qbA,cxN,g2,g3]
 rw [show ((0:Int) != 0)=false from rfl,we]
 refine oN A L [] [] _ (afZ L) hn (fun _ _=>⟨trivial,trivial⟩) (fun k hk=>by cases hk) rfl hA ?_
 rintro r L'-⟨rfl,rfl⟩
 refine ⟨fun f=>rfl,?_⟩
 have a1:=kk g1
 have a2:=kk2 g2
 simp -implicitDefEqProofs only [rX,↓rY,aA,↓reduceIte,Nat.reduceEqDiff,aB,kill,St.kill,m2,a2,hgl]
 rw [show (((2:Nat):Int) != 2)=false from rfl,we]
 refine oN A L' [] [] _ (Zm L' (by rw [hf0];decide) (by omega)) hn (fun _ _=>⟨trivial,trivial⟩) (fun k hk=>by cases hk) rfl hA ?_
 rintro r L''-⟨rfl,rfl⟩
 refine ⟨fun f=>rfl,?_⟩
 have hfn:L''.freeN L''.gens.length=2:=by
  rw [hgl]
  unfold Lg.freeN
  rw [ybh (q:=fun i:Nat=>(⟨[],2,-1,0⟩:Md).fr (i:Int)) fun i _=>h.inv.free]
  decide
 have a3:=kk a1
 have a4:=kk2 a2
 simp -implicitDefEqProofs only [rX,↓rY,aA,↓reduceIte,Nat.reduceEqDiff,aB,kill,St.kill,m2,a4,hfn]
 rw [show (((2:Nat):Int) != 2)=false from rfl,we]
 refine oN A L'' [] [] _ (ok9 L'' (by rw [hf0];decide)) hn (fun _ _=>⟨trivial,trivial⟩) (fun k hk=>by cases hk) rfl hA ?_
 rintro r L3-⟨rfl,rfl⟩
 refine ⟨fun f=>rfl,?_⟩
 have a5:=kk a3
 have a6:=kk2 a4
 simp -implicitDefEqProofs only [rX,↓rY,aA,↓reduceIte,Nat.reduceEqDiff,aB,kill,St.kill,m2,hf0]
 intro _
 rw [show (((0:Nat):Int) != 0)=false from rfl,we]
 exact hN _ _ (by exact a5) (by exact a6)
theorem Gb {T X:List Blk}:(T++X)[T.length]?=X[0]?:=by rw [yaf (yam _),yay]
theorem agQ {T X:List Blk} {j:Nat}:(T++X)[T.length+j]?=X[j]?:=by rw [yaf (by omega),yaF]
theorem Xa {T X:List Blk} {B:Blk}:(T++X).set T.length B=T++X.set 0 B:=by rw [yav _ _ (yam _),yay]
theorem abU {T X:List Blk} {j:Nat} {B:Blk}:(T++X).set (T.length+j) B=T++X.set j B:=by rw [yav _ _ (by omega),yaF]
theorem aaG {T X:List Blk}:(T++X)[T.length+1+1]?=X[2]?:=agQ (j:=2)
theorem Ye {T X:List Blk} {B:Blk}:(T++X).set (T.length+1+1) B=T++X.set 2 B:=abU (j:=2)
theorem Ph.lg {m:Md} {L:Lg} {g0 g1:Int} {x0 x1:Option b6} {t q:Int} {B:Nat} (h:Ph m L g0 g1 x0 x1 t q B):L.gens.length=2:=by rw [h.g];rfl
theorem ajN {A:List Blk} {L:Lg} (hA:Clo A) (h:Ph ⟨[],2,-1,0⟩ L 0 0 none none 0 0 1) (g1:get e 1=.ptr A.length 0 0) (g2:get e 2=.ptr (A.length+300+4) 0 0)
  (hN:∀ e b' L',Ph ⟨[it1],2,0,1⟩ L' 1 0 (some sl1) none 1 1 3→get e 1=.ptr A.length 0 0→get e 2=.ptr (A.length+300+4) 0 0→get e 4=.ptr (oA A L').length 0 0→get e 5=.i 0→N ⟨e,oA A L'++[.var [.i 0,.i 0,.i 1]],b'⟩) :
  aw (cxN Tryz.prog []) (pt 5 c5) N Xx R ⟨e,oA A L,bb⟩:=by
 have hn:L.n=300:=h.n
 have m1:=gZ (A:=A) (n:=300) (j:=A.length) (by omega)
 have m2:=gZ (A:=A) (n:=300) (j:=A.length+300+4) (by omega)
 conv=>arg 2;whnf
 simp -implicitDefEqProofs only [rX,aA,↓reduceIte,cxN,g2]
 refine mM A [.dead] L [sv ik,sv sS] [sv ik,sv sS] _ (Ls h.inv (by decide) rfl (s:=0) (by rw [h.lg];decide) (by decide) (fun i hi=>absurd hi (Nat.not_lt_zero _)) (by decide) (by decide)) hn (fun _ _=>⟨⟨trivial,trivial,trivial⟩,⟨rfl,rfl,trivial⟩⟩) (fun k hk=>by cases hk) rfl hA 0 rfl (fun _ _=>rfl) ?_
 rintro r L' hn' ⟨rfl,c,c',c'',rfl⟩
 refine ⟨fun f=>rfl,?_⟩
 have a1:=kE _ m1 g1
 have a2:=kE _ m2 g2
 have hp:=phB (c:=c) (c':=c') (c'':=c'') h
 generalize (L.took 0 c c').app ik sS c''=L' at *
 simp -implicitDefEqProofs only [rX,↓rY,aA,cells?,splice,↓reduceIte,Nat.reduceEqDiff,Nat.reduceAdd,aE,aB,kill,St.kill,isC,m2,Gb,Xa,h.q]
 exact hN _ _ L' hp (by exact a1) (by exact a2) rfl rfl
theorem aaZ {m:Md} {L:Lg} {B:Nat} {key data:Bs} (h:Inv m L B) (hB:B≤1000) (hk:key.length≤100) (hd:360<data.length∧data.length≤1000) :
  OkL 16 [.ptr 0 0 0,sv key,sv data] L (fun r L'=>r=.tup [.agg [.i 0,.i 0,.i 0],.i 2]∧L'=L):=by
 have hsq:=h.sq
 have hsg:=h.sg
 have hse:=h.seg
 have hfl2:=h.fl
 refine iR (Zl L key data (h.Sm (by omega)) ⟨by omega,by omega⟩ (by rw [h.fnd,yag];omega) (by omega) (by omega) h.nx (fun x hx=>by have:=h.gp x hx;omega)) ?_
 rintro r hh ⟨L',⟨h1,h2⟩,rfl⟩
 refine ⟨L',⟨h1,?_⟩,rfl⟩
 rcases h2 with ⟨q1,rfl,rfl⟩|⟨q1,q2,q3,rfl,rfl⟩|⟨q1,L1,c,q2,rfl,rfl⟩
 ·exact ⟨rfl,rfl⟩
 ·omega
 ·omega
def Hb (A:List Blk) (L:Lg):List Blk:=oA A L++[.var [.i 0,.i 0,.i 1],.arr 1 (yab 361 [.v (.int .u8 0)]),.var [.i 0,.i 0,.i 0]]
theorem agE {A X Y:List Blk} {L:Lg}:oA A L++X++Y=oA A L++(X++Y):=yap ..
theorem akZ:yaD 361=361:=rfl
theorem Bo:∀ {n:Nat},bytesOf (yab n [.v (.int .u8 0)])=some (yab n 0)
 | 0=>rfl
 | n+1=>by
  rw [ybg,ybg]
  unfold bytesOf
  rw [Bo (n:=n)]
  rfl
theorem ajM {A:List Blk} {L:Lg} (hA:Clo A) (h:Ph ⟨[it1],2,0,1⟩ L 1 0 (some sl1) none 1 1 3) (g1:get e 1=.ptr A.length 0 0) (g2:get e 2=.ptr (A.length+300+4) 0 0) (g4:get e 4=.ptr (oA A L).length 0 0) (g5:get e 5=.i 0)
  (hN:∀ e b',get e 1=.ptr A.length 0 0→get e 2=.ptr (A.length+300+4) 0 0→get e 4=.ptr (oA A L).length 0 0→get e 5=.i 0→get e 7=.i 2→N ⟨e,Hb A L,b'⟩) :
  aw (cxN Tryz.prog []) (pt 6 c5) N Xx R ⟨e,oA A L++[.var [.i 0,.i 0,.i 1]],bb⟩:=by
 have hn:L.n=300:=h.n
 have m1:=gZ (A:=A) (n:=300) (j:=A.length) (by omega)
 have m2:=gZ (A:=A) (n:=300) (j:=A.length+300+4) (by omega)
 conv=>arg 2;whnf
 simp -implicitDefEqProofs only [rX,↓rY,aA,↓reduceIte,Nat.reduceEqDiff,aE,cxN,g2,agE,akZ,agQ,abU]
 rw [show yaA 361 (yab 361 [V.v (Value.int .u8 0)])=yab 361 [V.v (Value.int .u8 0)] from yaH (by rw [yan];exact yam _),Bo]
 refine ⟨⟨⟨by decide,by decide⟩,by decide,by decide⟩,.inr trivial,?_⟩
 simp -implicitDefEqProofs only [↓rY]
 have hl2:=@yan UInt8 361 0
 generalize hz:yab 361 (0:UInt8)=z at hl2 ⊢
 have hro:∀ (M:List Nat),bB M [V.v (Value.int .u8 0)]=[V.v (Value.int .u8 0)]:=fun _=>rfl
 refine mM A _ L [sv ik,sv z] [sv ik,sv z] _ (aaZ h.inv (by decide) (by decide) (by omega)) hn (fun _ _=>⟨⟨trivial,trivial,trivial⟩,⟨rfl,rfl,trivial⟩⟩) (fun k hk=>by cases hk) rfl hA 1 rfl (fun M _=>by simp only [yae,yak,aD,yaG];rfl) ?_
 rintro r L'-⟨rfl,rfl⟩
 refine ⟨fun f=>rfl,?_⟩
 have a1:=kE _ m1 g1
 have a2:=kE _ m2 g2
 have m4:=gZ (A:=A) (n:=300) (j:=(oA A L').length) (by rw [j1,hn];omega)
 have m5:=gZ (A:=A) (n:=300) (j:=(oA A L').length+1) (by rw [j1,hn];omega)
 have a4:=kE _ m4 g4
 have a5:get (aB (yaa (A.length+3) 300++[A.length+300+5]) e) 5=.i 0:=by rw [aH,g5];rfl
 simp -implicitDefEqProofs only [rX,↓rY,aA,cells?,splice,↓reduceIte,Nat.reduceEqDiff,Nat.reduceAdd,aE,aB,kill,St.kill,isC,m2,m5,aaG,Ye]
 exact hN _ _ (by exact a1) (by exact a2) (by exact a4) (by exact a5) rfl
theorem ajL {A:List Blk} {L:Lg} (hA:Clo A) (h:Ph ⟨[it1],2,0,1⟩ L 1 0 (some sl1) none 1 1 3) (g1:get e 1=.ptr A.length 0 0) (g2:get e 2=.ptr (A.length+300+4) 0 0) (g4:get e 4=.ptr (oA A L).length 0 0) (g5:get e 5=.i 0) (g7:get e 7=.i 2)
  (hN:∀ e b',get e 1=.ptr A.length 0 0→get e 2=.ptr (A.length+300+4) 0 0→get e 4=.ptr (oA A L).length 0 0→get e 5=.i 0→get e 7=.i 2→get e 8=sv ik→get e 9=sv sS→get e 10=.i 0→N ⟨e,Hb A L,b'⟩) :
  aw (cxN Tryz.prog []) (pt 7 c5) N Xx R ⟨e,Hb A L,bb⟩:=by
 have hn:L.n=300:=h.n
 have m1:=gZ (A:=A) (n:=300) (j:=A.length) (by omega)
 have m2:=gZ (A:=A) (n:=300) (j:=A.length+300+4) (by omega)
 have m4:=gZ (A:=A) (n:=300) (j:=(oA A L).length) (by rw [j1,hn];omega)
 conv=>arg 2;whnf
 unfold Hb
 simp -implicitDefEqProofs only [rX,↓rY,↓reduceIte,Nat.reduceEqDiff,Nat.reduceAdd,cxN,g2,g4,Gb]
 obtain ⟨⟨hany,hr,hsl⟩,hro⟩:=Ee.rd h.inv (by decide) (x:=it1) (yaJ.2 rfl)
 refine mM A _ L [.agg [.i 0,.i 0,.i 1]] [.agg [.i 0,.i 0,.i 1]] _ (Va L 0 0 1 (by rw [h.inv.fnd];decide) fun _=>⟨hr,hsl⟩) hn (fun _ _=>⟨⟨⟨trivial,trivial,trivial,trivial⟩,trivial⟩,⟨rfl,rfl,rfl,trivial⟩,trivial⟩) (fun k hk=>by cases hk) rfl hA 3 rfl (fun M _=>by simp only [yae,yak,aD,yaG];rfl) ?_
 rintro r L'-⟨rfl,rfl⟩
 rw [show L'.rdO 0 0 1=(it1.c.key,it1.data,0) from hro]
 refine ⟨fun f=>rfl,?_⟩
 have a1:=kE _ m1 g1
 have a2:=kE _ m2 g2
 have a4:=kE _ m4 g4
 have a5:get (aB (yaa (A.length+3) 300++[A.length+300+5]) e) 5=.i 0:=by rw [aH,g5];rfl
 have a7:get (aB (yaa (A.length+3) 300++[A.length+300+5]) e) 7=.i 2:=by rw [aH,g7];rfl
 unfold rdV
 simp -implicitDefEqProofs only [rX,↓rY,↓reduceIte,Nat.reduceEqDiff,aB,kill,bB,St.kill,m2]
 exact hN _ _ (by exact a1) (by exact a2) (by exact a4) (by exact a5) (by exact a7) rfl rfl rfl
theorem nk:(!ik==(⟨#[107]⟩:ByteArray).toList)=false:=by decide +kernel
theorem akY:(!sS==(⟨#[97,98,99]⟩:ByteArray).toList)=false:=by decide +kernel
theorem c00:((0:Int) != 0)=false:=rfl
theorem cc2:((2:Int) != 2)=false:=rfl
theorem ajK {A:List Blk} {L:Lg} (hA:Clo A) (h:Ph ⟨[it1],2,0,1⟩ L 1 0 (some sl1) none 1 1 3) (g1:get e 1=.ptr A.length 0 0) (g2:get e 2=.ptr (A.length+300+4) 0 0) (g4:get e 4=.ptr (oA A L).length 0 0) (g5:get e 5=.i 0) (g7:get e 7=.i 2) (g8:get e 8=sv ik) (g9:get e 9=sv sS) (g10:get e 10=.i 0)
  (hN:∀ e b',get e 1=.ptr A.length 0 0→N ⟨e,Hb A L,b'⟩) :
  aw (cxN Tryz.prog []) (pt 8 c5) N Xx R ⟨e,Hb A L,bb⟩:=by
 have hn:L.n=300:=h.n
 have m1:=gZ (A:=A) (n:=300) (j:=A.length) (by omega)
 have m2:=gZ (A:=A) (n:=300) (j:=A.length+300+4) (by omega)
 have m4:=gZ (A:=A) (n:=300) (j:=(oA A L).length) (by rw [j1,hn];omega)
 conv=>arg 2;whnf
 unfold Hb
 simp -implicitDefEqProofs only [rX,↓rY,aA,↓reduceIte,Nat.reduceEqDiff,Nat.reduceAdd,cxN,iX,g2,g4,g5,g7,g8,g9,g10,Gb,c00,cc2,nk,akY]
 have hf1:L.found.length≤100000:=by rw [h.inv.fnd];decide
 refine mM A _ L [] [] _ (Zm L hf1 (by rw [h.lg];decide)) hn (fun _ _=>⟨trivial,trivial⟩) (fun k hk=>by cases hk) rfl hA 3 rfl (fun M _=>by simp only [yae,yak,aD,yaG];rfl) ?_
 rintro r L'-⟨rfl,rfl⟩
 refine ⟨fun f=>rfl,?_⟩
 have hfn:L'.freeN L'.gens.length=1:=by
  rw [h.lg]
  unfold Lg.freeN
  rw [ybh (q:=fun i:Nat=>(⟨[it1],2,0,1⟩:Md).fr (i:Int)) fun i _=>h.inv.free]
  decide
 have a1:=kE _ m1 g1
 have a2:=kE _ m2 g2
 simp -implicitDefEqProofs only [rX,↓rY,aA,↓reduceIte,Nat.reduceEqDiff,Nat.reduceAdd,aB,kill,St.kill,m2,m4,a2,hfn]
 rw [show (((1:Nat):Int) != 1)=false from rfl,we]
 refine mM A _ L' [] [] _ (ok9 L' hf1) hn (fun _ _=>⟨trivial,trivial⟩) (fun k hk=>by cases hk) rfl hA 3 rfl (fun M _=>by simp only [yae,yak,aD,yaG];rfl) ?_
 rintro r L3-⟨rfl,rfl⟩
 refine ⟨fun f=>rfl,?_⟩
 have a5:=kE _ m1 a1
 have hl1:(yah Ck.enc L3.found).length=1:=by rw [h.inv.fnd];rfl
 simp -implicitDefEqProofs only [rX,↓rY,aA,↓reduceIte,Nat.reduceEqDiff,Nat.reduceAdd,aB,kill,St.kill,m2,m4,hl1]
 intro _
 rw [show (((1:Nat):Int) != 1)=false from rfl,we]
 exact hN _ _ (by exact a5)
def Ac (A:List Blk) (L:Lg) (X:List Blk):List Blk:=oA A L++(X++[.dead,.dead])
theorem Clo.ac {A X:List Blk} (L:Lg) (hA:Clo A) (hX:∀ M:List Nat,X.map (aD M)=X):Clo (Ac A L X):=by
 refine (hA.oA L).app fun M hM=>?_
 rw [yal,hX M];rfl
theorem Gm {cx:Cx} {b:Nat} {K:V→St→Prop} {A X:List Blk} {L:Lg} (hn:L.n=300) (hcx:cx.C=C0 Tryz.prog) (hbn:∀ k∈cx.bn,A.length+303≤k) (hfx:cx.fx=[]) (hA:Clo A)
  (hX:∀ M:List Nat,X.map (aD M)=X)
  (h3:K (.ptr (Ac A L X).length 0 0) ⟨aB (yaa (A.length+3) 300) e,Ac A L X++L.fresh.S.bs (Ac A L X).length,b⟩):cF cx 18 [.ptr A.length 0 0,.nil] ⟨e,oA A L++X,b⟩ K:=by
 have e1:oA A L++X=A++(L.S.bs A.length++(o3 L A.length++X)):=by rw [Hw,iQ,yap]
 rw [e1]
 refine Ir A (o3 L A.length++X) L (by omega) hcx (fun k hk=>by have:=hbn k hk;omega) hfx hA (fun M hM=>?_) ?_
 ·have h1:(A.length∈M)=False:=eq_false fun h=>by have:=hM _ h;omega
  have h2:(A.length+L.cells.length+3∈M)=False:=eq_false fun h=>by have:=hM _ h;have:L.n=L.cells.length:=rfl;omega
  have h3:(A.length+L.cells.length+5∈M)=False:=eq_false fun h=>by have:=hM _ h;have:L.n=L.cells.length:=rfl;omega
  rw [yal,hX]
  congr 1
  unfold o3
  simp only [yae,yak,xL,xK]
  simp only [aD,bB,kill,h1,h2,h3,if_false]
 ·rw [←e1,hn]
  have e2:(oA A L++X).length+2=(Ac A L X).length:=by unfold Ac;simp only [yaj,yao,yas];omega
  rw [e2]
  have e3:oA A L++X++(.dead::.dead::L.fresh.S.bs (Ac A L X).length)=Ac A L X++L.fresh.S.bs (Ac A L X).length:=by
   unfold Ac
   simp only [yap,yax,yaB]
  rw [e3]
  exact h3
theorem ajJ {A X:List Blk} {L:Lg} (hn:L.n=300) (hA:Clo A) (hX:∀ M:List Nat,X.map (aD M)=X) (g1:get e 1=.ptr A.length 0 0)
  (hN:∀ e b',get e 1=.ptr (Ac A L X).length 0 0→N ⟨e,Ac A L X++L.fresh.S.bs (Ac A L X).length,b'⟩) :
  aw (cxN Tryz.prog []) (pt 9 c5) N Xx R ⟨e,oA A L++X,bb⟩:=by
 conv=>arg 2;whnf
 simp -implicitDefEqProofs only [rX,aA,↓reduceIte,cxN,g1]
 refine Gm hn rfl (fun k hk=>by cases hk) rfl hA hX ?_
 simp -implicitDefEqProofs only [rX,↓reduceIte,aB,kill,St.kill]
 exact hN _ _ rfl
theorem acC {A:List Blk} {L:Lg} (hn:L.cells.length=300) (hb:∀ c∈L.cells,c.bad=false) (hA:Clo A) (g1:get e 1=.ptr A.length 0 0)
  (hN:∀ fd e b',yQ (L.blank.scan 2).found fd→get e 1=.ptr A.length 0 0→get e 2=.ptr (A.length+300+4) 0 0→get e 3=.i 0→N ⟨e,oA A (L.opn fd),b'⟩) :
  aw (cxN Tryz.prog []) (pt 10 c5) N Xx R ⟨e,A++L.S.bs A.length,bb⟩:=by
 conv=>arg 2;whnf
 have hn2:L.n=300:=hn
 simp -implicitDefEqProofs only [rX,↓reduceIte,cxN,g1]
 refine oM A L (by omega) hb rfl rfl (by intro k hk;cases hk) (hA _ fun j hj=>by rw [yac] at hj;omega) (fun h=>by omega) fun _ fd hfd=>⟨trivial,?_⟩
 rw [hn] at hfd
 rw [hn2]
 have m0:=Qh (A:=A) (n:=300) (j:=A.length) (by omega)
 simp -implicitDefEqProofs only [rX,↓rY,↓reduceIte,Nat.reduceEqDiff,aB,kill,St.kill,m0]
 exact hN fd _ _ hfd (kE _ m0 g1) rfl rfl
theorem acB {A:List Blk} {L:Lg} (hA:Clo A) (h:Ph ⟨[it1],2,-1,1⟩ L 1 0 (some sl1) none 1 1 3) (g1:get e 1=.ptr A.length 0 0) (g2:get e 2=.ptr (A.length+300+4) 0 0) (g3:get e 3=.i 0)
  (hN:∀ e b',get e 1=.ptr A.length 0 0→get e 2=.ptr (A.length+300+4) 0 0→N ⟨e,oA A L,b'⟩) :
  aw (cxN Tryz.prog []) (pt 11 c5) N Xx R ⟨e,oA A L,bb⟩:=by
 have hn:L.n=300:=h.n
 have m1:=gZ (A:=A) (n:=300) (j:=A.length) (by omega)
 have m2:=gZ (A:=A) (n:=300) (j:=A.length+300+4) (by omega)
 have hf1:L.found.length≤100000:=by rw [h.inv.fnd];decide
 conv=>arg 2;whnf
 simp -implicitDefEqProofs only [rX,↓rY,aA,↓reduceIte,Nat.reduceEqDiff,cxN,g2,g3,c00]
 refine oN A L [] [] _ (ok9 L hf1) hn (fun _ _=>⟨trivial,trivial⟩) (fun k hk=>by cases hk) rfl hA ?_
 rintro r L'-⟨rfl,rfl⟩
 refine ⟨fun f=>rfl,?_⟩
 have a1:=kE _ m1 g1
 have a2:=kE _ m2 g2
 have hl1:(yah Ck.enc L'.found).length=1:=by rw [h.inv.fnd];rfl
 simp -implicitDefEqProofs only [rX,↓rY,aA,↓reduceIte,Nat.reduceEqDiff,aB,kill,St.kill,m2,hl1]
 intro _
 rw [show (((1:Nat):Int) != 1)=false from rfl,we]
 exact hN _ _ (by exact a1) (by exact a2)
theorem acA {A:List Blk} {L:Lg} (hA:Clo A) (h:Ph ⟨[it1],2,-1,1⟩ L 1 0 (some sl1) none 1 1 3) (g1:get e 1=.ptr A.length 0 0) (g2:get e 2=.ptr (A.length+300+4) 0 0)
  (hN:∀ e b' L',Ph ⟨[it1,it2],2,1,1⟩ L' 1 2 (some sl1) (some sl2) 2 2 5→get e 1=.ptr A.length 0 0→get e 2=.ptr (A.length+300+4) 0 0→get e 11=.ptr (oA A L').length 0 0→get e 12=.i 0→N ⟨e,oA A L'++[.var [.i 1,.i 0,.i 2]],b'⟩) :
  aw (cxN Tryz.prog []) (pt 12 c5) N Xx R ⟨e,oA A L,bb⟩:=by
 have hn:L.n=300:=h.n
 have m1:=gZ (A:=A) (n:=300) (j:=A.length) (by omega)
 have m2:=gZ (A:=A) (n:=300) (j:=A.length+300+4) (by omega)
 conv=>arg 2;whnf
 simp -implicitDefEqProofs only [rX,aA,↓reduceIte,cxN,dM,g2]
 refine mM A [.dead] L [sv il,sv []] [sv il,sv []] _ (Ls h.inv (by decide) rfl (s:=1) (by rw [h.lg];decide) (by decide) (by decide) (by decide) (by decide)) hn (fun _ _=>⟨⟨trivial,trivial,trivial⟩,⟨rfl,rfl,trivial⟩⟩) (fun k hk=>by cases hk) rfl hA 0 rfl (fun _ _=>rfl) ?_
 rintro r L' hn' ⟨rfl,c,c',c'',rfl⟩
 refine ⟨fun f=>rfl,?_⟩
 have a1:=kE _ m1 g1
 have a2:=kE _ m2 g2
 have hp:=phD (c:=c) (c':=c') (c'':=c'') h
 generalize (L.took 1 c c').app il [] c''=L' at *
 simp -implicitDefEqProofs only [rX,↓rY,aA,cells?,splice,↓reduceIte,Nat.reduceEqDiff,Nat.reduceAdd,aE,aB,kill,St.kill,isC,m2,Gb,Xa,h.q]
 exact hN _ _ L' hp (by exact a1) (by exact a2) rfl rfl
end
set_option maxRecDepth 20000
section
variable {N R:St→Prop} {Xx:Nat→St→Prop} {bb:Nat} {e:Env}
theorem abZ {A:List Blk} {L:Lg} (hA:Clo A) (h:Ph ⟨[it1,it2],2,1,1⟩ L 1 2 (some sl1) (some sl2) 2 2 5) (g1:get e 1=.ptr A.length 0 0) (g2:get e 2=.ptr (A.length+300+4) 0 0) (g11:get e 11=.ptr (oA A L).length 0 0) (g12:get e 12=.i 0)
  (hN:∀ e b' c c',get e 1=.ptr A.length 0 0→get e 11=.ptr (oA A (L.drop 0 c c')).length 0 0→get e 12=.i 0→get e 13=.i 0→N ⟨e,oA A (L.drop 0 c c')++[.var [.i 1,.i 0,.i 2]],b'⟩) :
  aw (cxN Tryz.prog []) (pt 13 c5) N Xx R ⟨e,oA A L++[.var [.i 1,.i 0,.i 2]],bb⟩:=by
 have hn:L.n=300:=h.n
 have m1:=gZ (A:=A) (n:=300) (j:=A.length) (by omega)
 have m2:=gZ (A:=A) (n:=300) (j:=A.length+300+4) (by omega)
 have m4:=gZ (A:=A) (n:=300) (j:=(oA A L).length) (by rw [j1,hn];omega)
 conv=>arg 2;whnf
 simp -implicitDefEqProofs only [rX,aA,↓reduceIte,cxN,g2]
 refine mM A _ L [.i 0] [.i 0] _ (Zk L 0 (h.inv.Sm (by decide))) hn (fun _ _=>⟨⟨trivial,trivial⟩,rfl,trivial⟩) (fun k hk=>by cases hk) rfl hA 1 rfl (fun _ _=>rfl) ?_
 rintro r L' hn' (⟨q1,-,-⟩|⟨q1,rfl,c,c',rfl⟩)
 ·exact absurd ⟨by decide,by rw [h.lg];decide⟩ q1
 refine ⟨fun f=>rfl,?_⟩
 have a1:=kE _ m1 g1
 have a4:=kE _ m4 g11
 have a5:get (aB (yaa (A.length+3) 300++[A.length+300+5]) e) 12=.i 0:=by rw [aH,g12];rfl
 rw [show (oA A L).length=(oA A (L.drop (yaD 0) c c')).length by rw [j1,j1,hn']] at a4
 simp -implicitDefEqProofs only [rX,↓reduceIte,aB,kill,St.kill,m2]
 exact hN _ _ c c' (by exact a1) (by exact a4) (by exact a5) rfl
theorem abY {A X:List Blk} {L:Lg} {q:Nat} (hn:L.n=300) (hb:∀ c∈L.cells,c.bad=false) (hA:Clo A) (hX:∀ M:List Nat,X.map (aD M)=X) (g1:get e 1=.ptr A.length 0 0) (g11:get e 11=.ptr q 0 0) (g12:get e 12=.i 0) (g13:get e 13=.i 0) (hq:(oA A L).length≤q∧q<(oA A L).length+X.length)
  (hN:∀ fd e b',yQ (L.fresh.blank.scan 2).found fd→get e 2=.ptr ((Ac A L X).length+300+4) 0 0→get e 3=.i 0→get e 11=.ptr q 0 0→get e 12=.i 0→get e 13=.i 0→N ⟨e,oA (Ac A L X) (L.fresh.opn fd),b'⟩) :
  aw (cxN Tryz.prog []) (pt 14 c5) N Xx R ⟨e,oA A L++X,bb⟩:=by
 have hqA:=hq
 rw [j1,hn] at hqA
 have hqc:q<(Ac A L X).length:=by unfold Ac;simp only [yaj];omega
 have m11:=Qh (A:=A) (n:=300) (j:=q) (by omega)
 have n11:=Qh (A:=Ac A L X) (n:=300) (j:=q) (by omega)
 conv=>arg 2;whnf
 simp -implicitDefEqProofs only [rX,aA,↓reduceIte,cxN,g1]
 refine Gm hn rfl (fun k hk=>by cases hk) rfl hA hX ?_
 simp -implicitDefEqProofs only [rX,↓reduceIte,aB,kill,St.kill]
 have hn2:L.fresh.n=300:=hn
 have a11:=kE _ m11 g11
 have a12:get (aB (yaa (A.length+3) 300) e) 12=.i 0:=by rw [aH,g12];rfl
 have a13:get (aB (yaa (A.length+3) 300) e) 13=.i 0:=by rw [aH,g13];rfl
 have hAc:=hA.ac L hX
 refine oM (Ac A L X) L.fresh (by show L.n≤_;omega) hb rfl rfl (by intro k hk;cases hk) (hAc _ fun j hj=>by rw [yac] at hj;omega) (fun h=>by have:L.n<129:=h;omega) fun _ fd hfd=>⟨trivial,?_⟩
 rw [show L.fresh.cells.length=300 from hn] at hfd
 rw [hn2]
 have m0:=Qh (A:=Ac A L X) (n:=300) (j:=(Ac A L X).length) (by omega)
 simp -implicitDefEqProofs only [rX,↓rY,↓reduceIte,Nat.reduceEqDiff,aB,kill,St.kill,m0]
 have b11:=kE _ n11 a11
 have b12:get (aB (yaa ((Ac A L X).length+3) 300) (aB (yaa (A.length+3) 300) e)) 12=.i 0:=by rw [aH,a12];rfl
 have b13:get (aB (yaa ((Ac A L X).length+3) 300) (aB (yaa (A.length+3) 300) e)) 13=.i 0:=by rw [aH,a13];rfl
 exact hN fd _ _ hfd rfl rfl (by exact b11) (by exact b12) (by exact b13)
theorem e00:((0:Int)==0)=true:=rfl
theorem e11:((1:Int)==1)=true:=rfl
theorem abX {A:List Blk} {L:Lg} {q:Nat} (hn:L.n=300) (hf:L.found=[⟨1,0,2,il⟩]) (hA:Clo A) (g2:get e 2=.ptr (A.length+300+4) 0 0) (g3:get e 3=.i 0) (g11:get e 11=.ptr q 0 0) (g12:get e 12=.i 0) (g13:get e 13=.i 0) (hq:A[q]?=some (.var [.i 1,.i 0,.i 2])) :
  aw (cxN Tryz.prog []) (rt 15 c5) (cK [] 0 [.tmp 0] (Is (.b true))) (fun _ _=>False) (cK [] 0 [.tmp 0] (Is (.b true))) ⟨e,oA A L,bb⟩:=by
 have hql:q<A.length:=by
  rcases Nat.lt_or_ge q A.length with h|h
  ·exact h
  ·rw [ybp h] at hq;cases hq
 have m1:=gZ (A:=A) (n:=300) (j:=A.length) (by omega)
 have m2:=gZ (A:=A) (n:=300) (j:=A.length+300+4) (by omega)
 have mq:=gZ (A:=A) (n:=300) (j:=q) (by omega)
 have hbl:∀ L':Lg,(oA A L')[q]?=some (.var [.i 1,.i 0,.i 2]):=fun L'=>by
  unfold oA
  rw [yaS hql,hq]
 have hq1:=hbl L
 conv=>arg 2;whnf
 simp -implicitDefEqProofs only [rX,↓rY,aA,↓reduceIte,Nat.reduceEqDiff,aQ,aT,wfV,cxN,g2,g3,g11,g12,g13,hq1,e00,e11]
 have hf1:L.found.length≤100000:=by rw [hf];decide
 refine oN A L [] [] _ (ok9 L hf1) hn (fun _ _=>⟨trivial,trivial⟩) (fun k hk=>by cases hk) rfl hA ?_
 rintro r L'-⟨rfl,rfl⟩
 refine ⟨fun f=>rfl,?_⟩
 have a2:=kE _ m2 g2
 have hl1:(yah Ck.enc L'.found).length=1:=by rw [hf];rfl
 simp -implicitDefEqProofs only [rX,↓rY,aA,↓reduceIte,Nat.reduceEqDiff,aQ,aT,wfV,aB,kill,St.kill,m2,mq,a2,hl1]
 intro _
 rw [show (((1:Nat):Int)==1)=true from rfl,wd]
 refine oN A L' [] [] _ (ok9 L' hf1) hn (fun _ _=>⟨trivial,trivial⟩) (fun k hk=>by cases hk) rfl hA ?_
 rintro r L3-⟨rfl,rfl⟩
 refine ⟨fun f=>rfl,?_⟩
 simp -implicitDefEqProofs only [rX,↓rY,aA,↓reduceIte,Nat.reduceEqDiff,aQ,aT,wfV,aB,kill,St.kill,↓qbG,yar,m2,mq,hl1]
 refine ⟨⟨yat _,by decide⟩,by decide,?_⟩
 have hx:L3.found[yaD 0]'(by rw [hf];decide)=⟨1,0,2,il⟩:=List.getElem_of_eq hf _
 rw [hx]
 show cB (some (sv il)) _
 rw [qar]
 rw [qbC]
 simp -implicitDefEqProofs only [iX]
 rw [show (il==(⟨#[108]⟩:ByteArray).toList)=true by decide +kernel]
end
theorem ok5:Ok 5 [] (Is (.b true)):=by
 refine cD lw5 (by simp) ?_
 rw [c5_parts]
 simp only [zb]
 conv=>arg 2;whnf
 simp -implicitDefEqProofs only [rX,aA,cxN,aR]
 refine ajR fun e b g1=>?_
 rw [zb]
 refine ajQ g1 fun e b g1=>?_
 rw [zb]
 have hA0:Clo [.dead,.dead]:=fun M _=>rfl
 refine ajP (A:=[.dead,.dead]) (L:=Lf 300) (yan ..) (fun c hc=>by rw [(yaT.1 (show c∈yab 300 zC from hc)).2];rfl) hA0 g1 fun fd e b hfd g1 g2 g3=>?_
 rw [show (Lf 300).opn fd=(Lf 300).blank from Ap (by rw [show (Lf 300).cells.length/129=2 by rw [show (Lf 300).cells.length=300 from yan ..]];exact hfd)]
 rw [zb]
 refine ajO hA0 phA g1 g2 g3 fun e b g1 g2=>?_
 rw [zb]
 refine ajN hA0 phA g1 g2 fun e b L2 h2 g1 g2 g4 g5=>?_
 rw [zb]
 refine ajM hA0 h2 g1 g2 g4 g5 fun e b g1 g2 g4 g5 g7=>?_
 rw [zb]
 refine ajL hA0 h2 g1 g2 g4 g5 g7 fun e b g1 g2 g4 g5 g7 g8 g9 g10=>?_
 rw [zb]
 refine ajK hA0 h2 g1 g2 g4 g5 g7 g8 g9 g10 fun e b g1=>?_
 rw [zb]
 have hX1:∀ M:List Nat,yah (aD M) [Blk.var [.i 0,.i 0,.i 1],.arr 1 (yab 361 [.v (.int .u8 0)]),.var [.i 0,.i 0,.i 0]]=[.var [.i 0,.i 0,.i 1],.arr 1 (yab 361 [.v (.int .u8 0)]),.var [.i 0,.i 0,.i 0]]:=fun M=>by
  simp only [yae,yak,aD,yaG];rfl
 unfold Hb
 refine ajJ h2.n hA0 hX1 g1 fun e b g1=>?_
 have hA1:=hA0.ac L2 hX1
 generalize Ac [.dead,.dead] L2 _=A1 at hA1 g1 ⊢
 rw [zb]
 refine acC (L:=L2.fresh) h2.n h2.inv.bad hA1 g1 fun fd e b hfd g1 g2 g3=>?_
 have hfd1:fd=[it1.c]:=by
  rw [scB h2] at hfd
  have h3:yQ L2.found fd:=hfd
  rw [h2.inv.fnd] at h3
  exact ybr.1 h3.p
 have e3:L2.fresh.opn fd={ L2 with seg:=-1,next:=0,steps:=0,c:=0 }:=by
  unfold Lg.opn
  rw [show L2.fresh.cells.length/129=2 by rw [show L2.fresh.cells.length=300 from h2.n],scB h2,hfd1]
  have:=h2.inv.fnd
  cases L2
  simp only at this
  subst this
  rfl
 rw [e3]
 have h3:=phC h2
 generalize ({ L2 with seg:=-1,next:=0,steps:=0,c:=0 }:Lg)=L3 at h3
 rw [zb]
 refine acB hA1 h3 g1 g2 g3 fun e b g1 g2=>?_
 rw [zb]
 refine acA hA1 h3 g1 g2 fun e b L4 h4 g1 g2 g11 g12=>?_
 rw [zb]
 refine abZ hA1 h4 g1 g2 g11 g12 fun e b c c' g1 g11 g12 g13=>?_
 rw [zb]
 have hr:=iZ (L:=L4) (s:=0) (c:=c) (c':=c')
 have hn5:(L4.drop 0 c c').n=300:=hr.len.trans h4.n
 have hb5:∀ x∈(L4.drop 0 c c').cells,x.bad=false:=hr.bad h4.inv.bad
 have hs5:=scE (c:=c) (c':=c') h4
 generalize (L4.drop 0 c c')=L5 at *
 refine abY hn5 hb5 hA1 (fun M=>rfl) g1 g11 g12 g13 ⟨yam _,by simp⟩ fun fd e b hfd g2 g3 g11 g12 g13=>?_
 have hfd6:fd=[⟨1,0,2,il⟩]:=by
  rw [hs5] at hfd
  exact ybr.1 hfd.p
 have hA2:=hA1.ac L5 (X:=[.var [.i 1,.i 0,.i 2]]) (fun M=>rfl)
 refine abX (L:=L5.fresh.opn fd) ?_ ?_ hA2 g2 g3 g11 g12 g13 ?_
 ·show (L5.fresh.blank.scan _).cells.length=300
  rw [(Sc.scan (L0:=L5.fresh.blank)).cells]
  exact hn5
 ·exact hfd6
 ·unfold Ac
  rw [Gb];rfl
set_option maxRecDepth 20000
def rnY (r:Rn):List Blk:=.dead::.var [.ptr 4 0 0,.ptr 2 0 0,.ro 5 (r.m.l.map It.enc),.i r.m.segs,.i r.m.seg,.i r.m.next,.nil,.nil,.i (-1)]::r.L.bs 2
theorem pV {r:Rn}:(Blk.dead::.var [.ptr 4 0 0,.ptr 2 0 0,.ro 5 (r.m.l.map It.enc),.i r.m.segs,.i r.m.seg,.i r.m.next,.nil,.nil,.i (-1)]::r.L.bs 2)=rnY r:=rfl
theorem Ho {r:Rn}:rnY r=[.dead]++(r.bs 1++[]):=by rw [yad];rfl
theorem Cn {r:Rn}:rnY r=[.dead,rnV 1 r.m]++(r.L.bs 2++[]):=by rw [yad];rfl
theorem abA {r:Rn}:wfB (rnY r) (rnY r):=by
 have h1:=r.L.wf (p:=2) [.dead,rnV 1 r.m] [] rfl (C:=[]) trivial
 rw [←Cn,yad] at h1
 exact ⟨⟨trivial,trivial,trivial,trivial,trivial,trivial,trivial,trivial,trivial,trivial⟩,h1⟩
section
variable {cx:Cx} {f:FuncId} {e:Env} {b:Nat} {K:V→St→Prop}
theorem Ll (r:Rn) (args xs:List V) (Q:V→Rn→Prop) (hC:cx.C f (.ptr 0 0 0::xs) (r.bs 0) (yaa 6 (r.L.n+1)) (QF Rn.bs (6+(r.L.n+1)) Q))
  (ha:∀ (H:List Blk) (g:Nat→Option Nat),aJ H g args∧wkL xs (aV H g args))
  (hbn:cx.bn=[]) (hfx:∀ k∈cx.fx,k<7) (hkp:∀ r':Rn,aF cx.fx (rnY r'))
  (h3:∀ (v:V) (r':Rn),r'.L.n=r.L.n→Q v r'→(∀ f,ren f v=v)∧K v ⟨aB (yaa 7 (r.L.n+1)) e,rnY r',b⟩):cF cx f (.ptr 1 0 0::args) ⟨e,rnY r,b⟩ K:=by
 rw [Ho]
 refine fD Rn.bs 6 (r.L.n+1) (fun g hg p q f hf=>Pb (by
  have h1:=hg 0
  rw [g.len] at h1
  intro j hj
  exact hf j (by omega))) [.dead] [] r (fun p=>r.len) (by decide) args xs Q hC (ha _ _) (by rw [hbn];simp) (fun k hk=>by have:=hfx k hk;simp only [yao,yas];omega) rfl rfl (fun v r' hn hq=>?_)
 have hn':r'.L.n=r.L.n:=by have:=hn 0;rw [r'.len] at this;omega
 obtain ⟨q1,q2⟩:=h3 v r' hn' hq
 refine ⟨q1,?_,?_⟩
 ·show aF cx.fx ([.dead]++(r'.bs 1++[]))
  rw [←Ho];exact hkp r'
 ·rw [Ho] at q2
  exact q2
theorem Dt (r:Rn) (args xs:List V) (Q:V→Lg→Prop) (hC:cx.C f (.ptr 0 0 0::xs) (r.L.bs 0) (yaa 5 (r.L.n+1)) (QF Lg.bs (5+(r.L.n+1)) Q))
  (ha:∀ (H:List Blk) (g:Nat→Option Nat),aJ H g args∧wkL xs (aV H g args))
  (hbn:∀ k∈cx.bn,k<2) (hfx:∀ k∈cx.fx,k<7) (hkp:∀ r':Rn,aF cx.fx (rnY r'))
  (h3:∀ (v:V) (L':Lg),L'.n=r.L.n→Q v L'→(∀ f,ren f v=v)∧K v ⟨aB (yaa 7 (r.L.n+1)) e,rnY ⟨r.m,L'⟩,b⟩):cF cx f (.ptr 2 0 0::args) ⟨e,rnY r,b⟩ K:=by
 rw [Cn]
 refine fD Lg.bs 5 (r.L.n+1) (fun g hg p q f hf=>xF (by
  have:=hg 0
  rw [g.len] at this
  intro j hj
  exact hf j (by omega))) [.dead,rnV 1 r.m] [] r.L (fun p=>r.L.len) (by decide) args xs Q hC (ha _ _) (fun k hk=>.inl (by have:=hbn k hk;simp only [yao,yas];omega)) (fun k hk=>by have:=hfx k hk;simp only [yao,yas];omega) ?_ rfl (fun v L' hn hq=>?_)
 ·have h4:((1+3)∈yaa (2+5) (r.L.n+1))=False:=eq_false fun h=>by have:=yac.1 h;omega
  have h2:((1+1)∈yaa (2+5) (r.L.n+1))=False:=eq_false fun h=>by have:=yac.1 h;omega
  show [aD (yaa (2+5) (r.L.n+1)) .dead,aD (yaa (2+5) (r.L.n+1)) (rnV 1 r.m)]=_
  simp only [rnV,aD,bB,kill,h4,h2,if_false]
 ·have hn':L'.n=r.L.n:=by have:=hn 0;rw [L'.len] at this;omega
  obtain ⟨q1,q2⟩:=h3 v L' hn' hq
  refine ⟨q1,?_,?_⟩
  ·have:=hkp ⟨r.m,L'⟩
   rw [Cn] at this
   exact this
  ·rw [Cn] at q2
   exact q2
end
theorem Zu {L:Lg}:(L.bs 2).map (mvB 1 0)=L.bs 2:=by
 show mvB 1 0 (lgV 2 L)::mvB 1 0 (lgG L)::(L.S.bs 4++[lgF L]).map (mvB 1 0)=_
 have h2:(L.S.bs 4).map (mvB 1 0)=L.S.bs 4:=by
  show mvB 1 0 (dkV 4 L.S.D)::mvB 1 0 (dkC L.S.D)::mvB 1 0 (.map [] L.c)::(dkT L.S.D).map (mvB 1 0)=_
  rw [Qe]
  simp only [dkV,dkC,mvB,mvL,mvV,yak]
  rfl
 rw [yal,h2]
 have hn:(2+(L.cells.length+5)=0)=False:=eq_false (by omega)
 simp only [lgV,lgG,lgF,mvB,mvL,mvV,yae,yak,hn,if_false]
 rfl
def rn0 (s:Nat):Rn:=⟨⟨[],s,-1,0⟩,(Lf (129*s)).blank⟩
theorem ok3 (seg:Nat) (hseg:seg<256) (l:List Op) (hl:∀ x∈l,x.kind<256∧x.seg<256):Ok 3 [.v (.int .u8 seg),.ro 5 (l.map Op.enc)] (Is (.b true)):=by
 refine cD lw3 (by simp) ?_
 unfold c3
 simp -implicitDefEqProofs only [rX,aA,↓reduceIte,Nat.reduceEqDiff,reduceCtorEq,cxN,aR]
 refine aS (ok4 l) ⟨⟨trivial,trivial⟩,⟨rfl,rfl⟩,trivial⟩ rfl trivial ?_
 simp -implicitDefEqProofs only [rX,↓rY,aA,↓reduceIte,reduceCtorEq]
 cases hsh:shB l with
 | false =>
  rw [show (!false)=true from rfl,wd]
  refine aS ok5 ⟨trivial,trivial⟩ rfl trivial ?_
  simp -implicitDefEqProofs only [rX,↓reduceIte,aQ,aT,wfV]
 | true =>
  have htm:(seg:Int).tmod 5=((seg%5:Nat):Int):=by rw [yaN (by omega)];omega
  simp -implicitDefEqProofs only [rX,↓rY,htm]
  refine ⟨⟨by simp only [lo];omega,by simp only [hi];omega⟩,by decide,⟨by simp only [lo];omega,by simp only [hi];omega⟩,?_⟩
  have h1:(1:Int)+((seg%5:Nat):Int)=((1+seg%5:Nat):Int):=by omega
  have hs:1≤1+seg%5∧1+seg%5≤5:=by omega
  rw [h1]
  generalize 1+seg%5=s at hs
  have hbs:((Lf (129*s)).blank.bs 1).map (bD (fun j=>some (1+j)))=(Lf (129*s)).blank.bs 2:=xF fun j hj=>by
   congr 1;omega
  refine fO [.i s] _ (.agg [.ptr 4 0 0,.ptr 2 0 0,.ro 5 [],.i s,.i (-1),.i 0,.nil,.nil,.i (-1)]) _ (.dead::(Lf (129*s)).blank.bs 2) (ok6 s hs) ⟨⟨trivial,trivial⟩,rfl,trivial⟩ rfl ?_ trivial ?_
  ·rw [yae]
   show .dead::((Lf (129*s)).blank.bs 1).map (bD (fun j=>some (1+j)))=_
   rw [hbs]
  simp -implicitDefEqProofs only [rX,↓rY,aA,cells?,splice,↓reduceIte,Nat.reduceEqDiff,Nat.reduceAdd,aE,isC,wX]
  have hll:l.length≤80:=by
   unfold shB at hsh
   simp only [Bool.and_eq_true,decide_eq_true_eq] at hsh
   exact hsh.2
  have hfit:∀ x∈l,x.Fit:=fun x hx=>by
   unfold shB at hsh
   simp only [Bool.and_eq_true,List.all_eq_true,decide_eq_true_eq] at hsh
   have h2:=hsh.1 x hx
   exact ⟨(hl x hx).1,(hl x hx).2,by omega,by omega⟩
  refine dV (.mv 1 0 (.var [.ptr 4 0 0,.ptr 2 0 0,.ro 5 [],.i s,.i (-1),.i 0,.nil,.nil,.i (-1)]) (by decide) rfl rfl (by simp) (.refl _)) (fun g:Nat × Rn=>(⟨[(7,.i g.1),(6,.ptr 1 0 0),(1,.ro 5 (l.map Op.enc))],rnY g.2,0⟩:St)) (fun g=>g.1≤l.length∧Inv g.2.m g.2.L (1+40*g.1)) (fun g=>l.length-g.1) (0,rn0 s) ⟨yaw _,Inv.new (by omega)⟩ ?_ ?_
  ·have hmv:=Zu (L:=(Lf (129*s)).blank)
   refine ⟨⟨rfl,rfl,rfl,trivial⟩,?_,trivial,⟨trivial,trivial,trivial,trivial⟩,abA⟩
   show leH (.dead::_::((Lf (129*s)).blank.bs 2).map (mvB 1 0)) _
   rw [hmv]
   exact aG _
  ·rintro ⟨k,r⟩ ⟨hk,hI⟩
   simp only at hk hI ⊢
   have hm0:∀ j,j<7→(j∈yaa 7 (r.L.n+1))=False:=fun j hj=>eq_false fun h=>by have:=yac.1 h;omega
   unfold c3l0 rnY
   simp -implicitDefEqProofs only [rX,↓rY,aA,↓reduceIte,Nat.reduceEqDiff,leE,leH,leB,leV,cN,aF,aC,wfE,wfB,wfV,wfL,yar,yau,aeP,Zb,Uu]
   simp only [pV]
   intro hml
   cases hd:decide ((k:Int)<(l.length:Int)) with
   | false =>
    rw [we]
    refine aS ok5 ⟨trivial,trivial⟩ rfl trivial ?_
    simp -implicitDefEqProofs only [rX,↓rY,↓reduceIte,Nat.reduceEqDiff]
    refine Ll r [] [] _ (afY r _ hI (by omega)) (fun _ _=>⟨trivial,trivial⟩) rfl (by simp) (fun _=>trivial) ?_
    rintro v r'-⟨rfl,rfl⟩
    refine ⟨fun f=>rfl,?_⟩
    simp -implicitDefEqProofs only [rX,↓rY,↓reduceIte,Nat.reduceEqDiff,aQ,aT,wfV,aB,kill,St.kill]
   | true =>
    have hk2:k<l.length:=by have:=of_decide_eq_true hd;omega
    have hx:=hfit _ (yaL hk2)
    have htm2:(l[k].kind:Int).tmod 6=((l[k].kind%6:Nat):Int):=by rw [yaN (by omega)];omega
    rw [wd]
    refine ⟨⟨by omega,by omega⟩,hk2,by decide,?_⟩
    rw [htm2]
    cases hd4:decide (((l[k].kind%6:Nat):Int)<4) with
    | false =>
     rw [we]
     have hw:=abA (r:=r)
     refine ⟨⟨by simp only [lo];omega,by simp only [hi];omega⟩,(k+1,r),⟨⟨by show k+1≤_;omega,hI.mono (by show 1+40*k≤1+40*(k+1);omega)⟩,by show l.length-(k+1)<_;omega⟩,by show (k:Int)+1=((k+1:Nat):Int);omega,⟨⟨rfl,rfl,rfl,rfl⟩,aG _⟩,⟨trivial,trivial⟩,hw.2⟩
    | true =>
     rw [wd]
     have h4:=of_decide_eq_true hd4
     refine ⟨⟨by omega,by omega⟩,hk2,?_⟩
     refine Ll r [.agg l[k].enc] [.agg l[k].enc] _ (ok7 r _ hI (by omega) l[k] hx (by omega)) (fun _ _=>⟨⟨⟨trivial,trivial,trivial,trivial,trivial,trivial⟩,trivial⟩,⟨rfl,rfl,rfl,rfl,rfl,trivial⟩,trivial⟩) rfl (by simp) (fun _=>trivial) ?_
     rintro v r' hn ⟨rfl,hI',hg⟩
     refine ⟨fun f=>rfl,?_⟩
     unfold rnY
     simp -implicitDefEqProofs only [rX,↓rY,rdK,↓reduceIte,Nat.reduceEqDiff,Nat.reduceAdd,aB,kill,St.kill,Nat.reduceLeDiff,hm0 1 (by omega),hm0 2 (by omega)]
     simp only [pV]
     obtain ⟨B',hB'⟩:∃ B',B'=1+40*k+40:=⟨_,rfl⟩
     rw [←hB'] at hI'
     have hgl:=hI'.gl
     have hsg:=hI'.sgs
     have hfl:r'.L.found.length≤100000:=by rw [hI'.fnd,yag];have:=hI'.fl;omega
     have hml2:r'.m.l.length≤100000:=by have:=hI'.fl;omega
     have hm1:∀ j,j<7→(j∈yaa 7 (r'.L.n+1))=False:=fun j hj=>eq_false fun h=>by have:=yac.1 h;omega
     refine Dt r' [] [] _ (ok9 r'.L hfl) (fun _ _=>⟨trivial,trivial⟩) (by simp) (by simp) (fun _=>trivial) ?_
     rintro v L'-⟨rfl,rfl⟩
     refine ⟨fun f=>rfl,?_⟩
     simp -implicitDefEqProofs only [rX,↓rY,↓reduceIte,Nat.reduceEqDiff,aB,kill,bB,St.kill,hm1 1 (by omega),hm1 2 (by omega)]
     refine aS (ok8 r'.m r'.L.found hfl) ?_ rfl trivial ?_
     ·exact ⟨⟨⟨trivial,trivial,trivial,trivial,trivial⟩,trivial,trivial⟩,⟨⟨rfl,rfl⟩,rfl,rfl,rfl,trivial⟩,⟨rfl,rfl⟩,trivial⟩
     rw [show decide (r'.m.l.map It.c=r'.L.found)=true from decide_eq_true hI'.fnd.symm]
     unfold rnY
     simp -implicitDefEqProofs only [rX,↓rY,rdK,↓reduceIte,Nat.reduceEqDiff,Nat.reduceAdd,Nat.reduceLeDiff,hm1 1 (by omega),hm1 2 (by omega)]
     simp only [pV]
     have hfree:r'.L.freeN r'.L.gens.length=r'.m.fn r'.m.segs.toNat:=by
      rw [hsg,yau]
      unfold Lg.freeN Md.fn
      rw [ybh fun i _=>hI'.free]
     refine Dt r' [] [] _ (Zm r'.L hfl (by omega)) (fun _ _=>⟨trivial,trivial⟩) (by simp) (by simp) (fun _=>trivial) ?_
     rintro v L'-⟨rfl,rfl⟩
     refine ⟨fun f=>rfl,?_⟩
     simp -implicitDefEqProofs only [rX,↓rY,↓reduceIte,Nat.reduceEqDiff,aB,kill,bB,St.kill,hm1 1 (by omega),hm1 2 (by omega)]
     refine aS (akS r'.m hml2 (by omega)) ⟨⟨⟨trivial,trivial,trivial,trivial,trivial⟩,trivial⟩,⟨⟨rfl,rfl⟩,rfl,rfl,rfl,trivial⟩,trivial⟩ rfl trivial ?_
     rw [hfree]
     unfold rnY
     simp -implicitDefEqProofs only [rX,↓rY,rdK,aA,↓reduceIte,Nat.reduceEqDiff,Nat.reduceAdd,aQ,aT,wfV,hm1 1 (by omega),hm1 2 (by omega)]
     rw [show (((r'.m.fn r'.m.segs.toNat:Nat):Int) != ((r'.m.fn r'.m.segs.toNat:Nat):Int))=false by simp]
     simp -implicitDefEqProofs only [↓rY,hm1 1 (by omega),hm1 2 (by omega)]
     simp only [pV]
     refine Dt r' [] [] _ (afZ r'.L) (fun _ _=>⟨trivial,trivial⟩) (by simp) (by simp) (fun _=>trivial) ?_
     rintro v L'-⟨rfl,rfl⟩
     refine ⟨fun f=>rfl,?_⟩
     unfold rnY
     simp -implicitDefEqProofs only [rX,↓rY,aA,↓reduceIte,Nat.reduceEqDiff,aQ,aT,leE,leH,leB,leV,cN,aF,aC,wfE,wfB,wfV,wfL,aB,kill,bB,St.kill,hm1 1 (by omega),hm1 2 (by omega)]
     rw [show (((r'.L.gens.length:Nat):Int) != r'.m.segs)=false by rw [hsg];simp]
     simp -implicitDefEqProofs only [↓rY,hm1 1 (by omega),hm1 2 (by omega)]
     simp only [pV]
     have hw:=abA (r:=r')
     refine ⟨⟨by simp only [lo];omega,by simp only [hi];omega⟩,(k+1,r'),⟨⟨by show k+1≤_;omega,hI'.mono (by show _≤1+40*(k+1);omega)⟩,by show l.length-(k+1)<_;omega⟩,?_⟩
     exact ⟨by show (k:Int)+1=((k+1:Nat):Int);omega,⟨⟨rfl,rfl,rfl,rfl⟩,aG _⟩,⟨trivial,trivial⟩,hw.2⟩
end Go.Fx.K
