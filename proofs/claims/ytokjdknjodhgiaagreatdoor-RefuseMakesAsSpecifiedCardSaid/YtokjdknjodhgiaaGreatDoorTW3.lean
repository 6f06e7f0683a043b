import Derived.Test.YtokjdknjodhgiaaGreatDoorT20
import Derived.Test.YtokjdknjodhgiaaGreatDoorFxRX
import Derived.Shelf.Sort.Plain
import Derived.Ground.Names2Prog
import Derived.Shelf.Slices.In.SortNone
import Derived.Test.YtokjdknjodhgiaaGreatDoorProg
import Derived.Test.YtokjdknjodhgiaaGreatDoorPTC4
set_option linter.unusedVariables false
set_option linter.unusedSimpArgs false
set_option linter.unusedSectionVars false
open Int renaming toNat_natCast → yaa, lt_trans → yaS
open List renaming getElem?_eq_getElem → yab, take → yac, mem_cons → yad, range → yae, getElem_map → yaf, map → yag, take_of_length_le → yah, append_assoc → yai, getElem_mem → yak, map_append → yal, getD_eq_getElem?_getD → yam, length_map → yan, map_cons → yao, length_append → yaq, mem_cons_of_mem → yas, mem_filter → yat, not_mem_nil → yau, take_append_getElem → yaw, filter_append → yax, mem_cons_self → yay, getElem?_map → yaz, getElem?_append_right → yaA, length_cons → yaD, cons_append → yaE, getElem?_eq_none → yaF, mem_append → yaG, mem_singleton → yaH, pairwise_iff_getElem → yaI, length_nil → yaK, getElem_cons_succ → yaL, getElem_cons_zero → yaM, getElem?_append_left → yaN, ext_getElem → yaO, replicate → yaP, append_nil → yaQ, getElem_of_mem → yaR, pairwise_cons → yaU, map_nil → yaW, length_take → yaX, mem_map → yaY, getD_cons_succ → yba, getD_cons_zero → ybb, drop_eq_getElem_cons → ybc, take_succ_cons → ybd, filter_cons_of_neg → ybe, mem_of_mem_head? → ybf, length_filterMap_le → ybi
open Option renaming isSome_none → yaj, isSome_some → yav
open Nat renaming zero_le → yap, le_refl → yar
open Option.some renaming injEq → yaB
open Bool renaming and_eq_true → yaC, true_and → yaJ, not_eq_true' → yaT, false_and → yaV, false_eq_true → yaZ
open Array renaming getElem?_append_left → ybg, getElem?_modify → ybh
namespace Go.Fx.E
open Go Go.Fx Go.Proofs
set_option maxRecDepth 20000
theorem Tf {a b:UInt8} {K:Bool→Prop}:eqC (.int .u8) (some (u8 a)) (some (u8 b)) K=K (a==b):=by
 have e:eqK (.int .u8 a.toNat) (.int .u8 b.toNat)=(a==b):=by
  show ((a.toNat:Int)==(b.toNat:Int))=(a==b)
  by_cases h:a=b
  ·subst h;simp
  ·have h2:a.toNat≠b.toNat:=fun h3=>h (UInt8.toNat_inj.1 h3)
   have h3:(a==b)=false:=by simpa using h
   rw [h3];simp;omega
 show ((_∧_)∧K (eqK _ _))=_
 rw [e]
 exact propext ⟨fun h=>h.2,fun h=>⟨⟨rfl,rfl⟩,h⟩⟩
theorem Aw {l1 l2:Bs} {xs ys:List V} (hx:∀ i (h:i<l1.length),xs[i]?=some (u8 l1[i])) (hy:∀ i (h:i<l2.length),ys[i]?=some (u8 l2[i])):∀ {m a:Nat} {K:Bool→Prop},a+m≤l1.length→a+m≤l2.length →
  gJ xs ys ((List.range' a m).map fun i=>(i,.int .u8)) K=K ((l1.drop a).take m==(l2.drop a).take m)
 | 0,a,K,_,_=>by simp [gJ]
 | m+1,a,K,h1,h2=>by
  rw [List.range'_succ,yao,gJ,hx a (by omega),hy a (by omega),Tf,Aw hx hy (by omega) (by omega),ybc (show a<l1.length by omega),ybc (show a<l2.length by omega),ybd,ybd]
  rfl
theorem Xu {l:Bs} {i:Nat} (h:i<l.length):(us l)[i]?=some (u8 l[i]):=by
 rw [Pz h];unfold bn;rw [yam,yab h];rfl
theorem Tg {a b:Bs} (ha:a.length=16) (hb:b.length=16) {K:Bool→Prop}:(dK (tP (.agg (us a))) fun xs=>dK (tP (.agg (us b))) fun ys=>gJ xs ys ((List.range' 0 16).map fun i=>(i,.int .u8)) K)=K (a==b):=by
 show gJ (us a) (us b) _ K=_
 rw [Aw (fun i h=>Xu h) (fun i h=>Xu h) (by omega) (by omega)]
 simp only [List.drop_zero]
 rw [yah (by omega),yah (by omega)]
def Ty (l:List Ky) (p s tag:Int) (ps:List Bs) (sg:Bs) (a b:Int):Int :=
 match pZ l p s with
 | none=>5
 | some k=>if Tv k a b=false then 9 else if fQ k tag ps=sg then 0 else 8
theorem Oy {l:List Ky} {p s:Int} {k:Ky} (h:pZ l p s=some k):k∈l:=List.mem_of_find?_eq_some h
theorem eY {h:List Blk} {g:Nat→Option Nat} {k:Ky}:aG h g (.agg k.enc)∧wk (.agg k.enc) (bD h g (.agg k.enc)):=⟨⟨trivial,trivial,trivial,trivial,trivial,trivial⟩,⟨rfl,rfl,rfl,rfl,rfl,trivial⟩⟩
theorem akL:((5:Int) != 0)=true:=rfl
set_option maxHeartbeats 1000000 in
theorem ajM (l:List Ky) (p s tag:Int) (ps:List Bs) (sg:Bs) (a b:Int) (hR:Bi l) (hl:l.length≤1000000) (hps:PS p s) (hsg:sg.length=16) (hS:∀ k∈l,Xj k ps):Ok 58 [bK l,.i p,.i s,.i tag,rS ps,.agg (us sg),.agg [.i a,.i b]] (Is (.i (Ty l p s tag ps sg a b))):=by
 refine ok_of lw58 (by simp) ?_
 unfold c58
 obtain ⟨u1,u2,u3⟩:=Du hsg
 have o79:=aiZ l p s hR hl hps
 simp -implicitDefEqProofs only [rX,↓rY,aA,cells?,↓reduceIte,Nat.reduceEqDiff,Nat.reduceAdd,reduceCtorEq,aC,aK]
 unfold Ty
 cases hf:pZ l p s with
 | none =>
  rw [hf] at o79
  refine aE o79 (by simp [aF,aG,aN,bD,wkL,wk,wkR,wkB,bK]) rfl trivial ?_
  simp -implicitDefEqProofs only [rX,↓rY,aA,cells?,splice,↓reduceIte,Nat.reduceEqDiff,Nat.reduceAdd,aC,aL,aM,wfV,isC,aQ,Ky.enc,zKy,yaj,akL]
 | some k =>
  rw [hf] at o79
  have hk:=hS k (Oy hf)
  refine aE o79 (by simp [aF,aG,aN,bD,wkL,wk,wkR,wkB,bK]) rfl trivial ?_
  simp -implicitDefEqProofs only [rX,↓rY,aA,cells?,splice,↓reduceIte,Nat.reduceEqDiff,Nat.reduceAdd,aC,aL,aM,wfV,aQ,Ah,s7,afF,yav,bne_self_eq_false]
  refine aE (aiY k a b) ⟨⟨eY.1,⟨trivial,trivial,trivial⟩,trivial⟩,eY.2,⟨rfl,rfl,trivial⟩,trivial⟩ rfl trivial ?_
  cases hc:Tv k a b with
  | false=>simp -implicitDefEqProofs only [rX,↓rY,aA,↓reduceIte,Nat.reduceAdd,aL,aM,wfV]
  | true =>
   simp -implicitDefEqProofs only [rX,↓rY,rdK,↓reduceIte,Nat.reduceEqDiff,Nat.reduceAdd,reduceCtorEq,aJ,Ah,s7,u1,u2]
   refine aE (adO k tag ps hk) ⟨⟨eY.1,trivial,trivial,trivial⟩,eY.2,rfl,⟨rfl,rfl⟩,trivial⟩ (by simp [ren,f9]) trivial ?_
   simp -implicitDefEqProofs only [rX,aA,↓reduceIte,Nat.reduceEqDiff,Nat.reduceAdd,aL,aM,wfV,↓Tg (dA (k:=k) (tag:=tag) (l:=ps)) hsg]
   by_cases hq:fQ k tag ps=sg
   ·rw [hq,beq_self_eq_true,if_pos rfl];exact ⟨(fun h=>by cases h),fun _=>rfl⟩
   ·rw [if_neg hq,beq_eq_false_iff_ne.2 hq];exact ⟨fun _=>rfl,(fun h=>by cases h)⟩
set_option maxRecDepth 20000
open Go.Fx.P (Arc)
theorem sJ {q:List Blk}:∀ {a b:List Blk},wfB q (a++b)=(wfB q a∧wfB q b)
 | [],b=>by simp [wfB]
 | x::a,b=>by
  rw [yaE]
  cases x<;>simp only [wfB,sJ,and_assoc]
theorem Ov {h tl:List Blk} {k:Nat} (hk:aB h k):aB (h++tl) k:=by
 unfold aB at hk ⊢
 by_cases hl:k<h.length
 ·rw [yaN hl];exact hk
 ·rw [yaF (by omega)] at hk;exact hk.elim
theorem mP {h tl:List Blk}:∀ {fx:List Nat},aD fx h→aD fx (h++tl)
 | [],_=>trivial
 | _::_,hk=>⟨Ov hk.1,mP hk.2⟩
def inR (N:Nat) (cut:List Int) (j:Nat):List (List V):=(yae N).map fun x:Nat=>[V.b (decide ((x:Int)∈cut.take j))]
theorem nR {N:Nat} {cut:List Int} {j:Nat}:(inR N cut j).length=N:=by simp [inR]
theorem aaR {N:Nat} {cut:List Int} {j x:Nat} (h:x<N):(inR N cut j)[x]?=some [.b (decide ((x:Int)∈cut.take j))]:=by
 unfold inR;rw [yaz,List.getElem?_range h];rfl
theorem xG {N:Nat} {cut:List Int} {j x:Nat} {h:x<(inR N cut j).length}:(inR N cut j)[x]=[.b (decide ((x:Int)∈cut.take j))]:=by
 have:=aaR (N:=N) (cut:=cut) (j:=j) (x:=x) (by rw [nR] at h;exact h)
 rw [yab h] at this
 exact Option.some.inj this
theorem We {N:Nat} {cut:List Int} {j x:Nat} (hj:j<cut.length) (hx:cut[j]=(x:Int)):(inR N cut j).set x [.b true]=inR N cut (j+1):=by
 have hs:cut.take (j+1)=cut.take j++[(x:Int)]:=by rw [←yaw hj,hx]
 apply yaO
 ·rw [List.length_set,nR,nR]
 ·intro i h1 h2
  rw [List.getElem_set,xG,xG,hs]
  by_cases e:x=i
  ·subst e;simp
  ·rw [if_neg e]
   have:((i:Int)∈cut.take j++[(x:Int)])↔(i:Int)∈cut.take j:=by
    rw [yaG,yaH]
    constructor
    ·rintro (h|h)
     ·exact h
     ·omega
    ·exact .inl
   simp only [this]
theorem afL {N:Nat} {cut:List Int}:inR N cut 0=yaP N [.b false]:=by
 unfold inR
 apply yaO
 ·simp
 ·intro i h1 h2;simp
structure E83 (N:Nat) (arcs:List Arc) (L k i:Nat) (e:Env):Prop where
 e0:get e 0=.itr k
 e4:get e 4=.sl L 0 N
 e23:get e 23=.ro 4 (arcs.map Arc.enc)
 e24:get e 24=.i arcs.length
 e25:get e 25=.i i
 e43:get e 43=.b true
structure acB {G:Type} (hp:G→List Blk) (L:Nat) (N:Nat) (arcs:List Arc) (cut:List Int) (k a c:Nat) (fx:List Nat):Prop where
 len:∀ g,(hp g).length=L
 ha:∀ g tl,(hp g++tl)[a]?=some (.var [.i N,.ro 4 (arcs.map Arc.enc)])
 hc:∀ g tl,(hp g++tl)[c]?=some (.var [.ro 1 (cut.map P.encI)])
 kp:∀ g,aD fx (hp g)
 wf:∀ g tl,wfB (hp g++tl) (hp g)
 lk:∀ g tl,∃ t e,(hp g++tl)[k]?=some (.rcd t e)
def lA (cut:List Int) (a:Arc):Bool:=decide (a.from_∈cut)&&!decide (a.to∈cut)
section
variable {G:Type} {hp:G→List Blk} {L N:Nat} {arcs:List Arc} {cut:List Int} {k a c:Nat} {fx:List Nat} {Y:Yt} {K:List Blk→Prop} {Inv:Nat→G→Prop}
abbrev Rh {G:Type} (hp:G→List Blk) (L N:Nat) (arcs:List Arc) (cut:List Int) (k:Nat) (g:Nat × G):St :=
 ⟨[(25,.i g.1),(24,.i arcs.length),(23,.ro 4 (arcs.map Arc.enc)),(4,.sl L 0 N),(0,.itr k)],hp g.2++[.arr 1 (inR N cut cut.length)],0⟩
theorem afK (H:acB hp L N arcs cut k a c fx) (hN:N≤1000000) (hal:arcs.length≤1000000) (hcl:cut.length≤1000000)
  (hcut:∀ x∈cut,0≤x∧x<N) (hv:∀ x∈arcs,(0≤x.from_∧x.from_<N)∧(0≤x.to∧x.to<N))
  (hskip:∀ i g (hi:i<arcs.length),Inv i g→lA cut arcs[i]=false→Inv (i+1) g)
  (hY:∀ i g (hi:i<arcs.length),Inv i g→lA cut arcs[i]=true→∀ (e:Env) (bb:Nat) (Z:V→St→Prop),E83 N arcs L k i e →
   (∀ e' g' tl,E83 N arcs L k i e'→Inv (i+1) g'→Z (.b true) ⟨e',hp g'++.arr 1 (inR N cut cut.length)::tl,bb⟩)→Y [.i i,.agg arcs[i].enc] ⟨e,hp g++[.arr 1 (inR N cut cut.length),.var arcs[i].enc],bb⟩ Z)
  (hK:∀ g,Inv arcs.length g→K (hp g++[.arr 1 (inR N cut cut.length)])) (g:G) (hg:Inv 0 g) :
  I0 Tryz.prog 83 [.itr k,.ptr a 0 0,.ptr c 0 0] fx k Y (hp g) K:=by
 refine Sj pol fx lw83 (by simp) ?_
 have go:∀ g j tl,(hp g++tl)[L+j]?=tl[j]?:=fun g j tl=>by
  rw [yaA (by rw [H.len];omega),H.len];congr 1;omega
 have go0:∀ g tl,(hp g++tl)[L]?=tl[0]?:=fun g=>go g 0
 have gs:∀ g j tl B,(hp g++tl).set (L+j) B=hp g++tl.set j B:=fun g j tl B=>by
  rw [List.set_append_right _ _ (by rw [H.len];omega),H.len];congr 2;omega
 have gs0:∀ g tl B,(hp g++tl).set L B=hp g++tl.set 0 B:=fun g=>gs g 0
 have a0:=H.ha g []
 have c0:=H.hc g []
 rw [yaQ] at a0 c0
 unfold c83
 simp -implicitDefEqProofs only [rX,↓rY,aA,↓reduceIte,Nat.reduceEqDiff,Nat.reduceAdd,reduceCtorEq,aC,yaa,aK,H.ha,H.hc,H.len,go0,gs0]
 refine ⟨⟨⟨by omega,by omega⟩,by omega,by omega⟩,fun hcm=>?_⟩
 refine cD (fun j:Nat=>(⟨[(14,.i j),(13,.i cut.length),(12,.ro 1 (cut.map P.encI)),(4,.sl L 0 N),(0,.itr k),(1,.ptr a 0 0)],hp g++[.arr 1 (inR N cut j)],0⟩:St)) (fun j=>j≤cut.length) (fun j=>cut.length-j) 0 (yap _) ?_ ?_
 ·obtain ⟨tk,ek,lk⟩:=H.lk g [.arr 1 (yaP N [V.b false])]
  simp -implicitDefEqProofs only [rX,↓reduceIte,Nat.reduceEqDiff,reduceCtorEq,leE,aB,wfE,wfB,wfV,afL,go0,H.ha,lk,eq_true (mP (H.kp g)),sJ,eq_true (H.wf g _)]
  exact ⟨rfl,bA _⟩
 intro j hj N1 hN1
 simp only [c83l0]
 simp -implicitDefEqProofs only [rX,↓rY,aA,cells?,splice,↓reduceIte,Nat.reduceEqDiff,cR,reduceCtorEq,isD,isC,yaf,yaa,H.len,go0,gs0]
 cases h1:decide ((j:Int)<(cut.length:Int)) with
 | true =>
  have h1':=of_decide_eq_true h1
  have hj':j<cut.length:=by omega
  have hx:=hcut _ (yak hj')
  obtain ⟨x,hxe⟩:∃ x:Nat,cut[j]=x:=⟨cut[j].toNat,by omega⟩
  simp -implicitDefEqProofs only [rX,↓rY,yaa,yab hj',hxe,P.bW]
  refine ⟨by omega,hj',by omega,by rw [nR];omega,⟨by simp only [lo];omega,by simp only [Fx.hi];omega⟩,hN1 _ (j+1) (by omega) (by omega) ?_⟩
  have hset:(inR N cut j).set x (V.v (Value.bool true)::List.drop 1 ((inR N cut j)[x]'(by rw [nR];omega)))=inR N cut (j+1):=by
   rw [xG];exact We hj' hxe
  rw [hset]
  obtain ⟨tk,ek,lk⟩:=H.lk g [.arr 1 (inR N cut (j+1))]
  simp -implicitDefEqProofs only [rX,↓reduceIte,Nat.reduceEqDiff,reduceCtorEq,leE,aB,wfE,wfB,wfV,go0,H.ha,lk,eq_true (mP (H.kp g)),sJ,eq_true (H.wf g _)]
  exact ⟨rfl,bA _⟩
 | false =>
  have h1':=of_decide_eq_false h1
  have:j=cut.length:=by omega
  subst this
  simp -implicitDefEqProofs only [rX,↓rY,H.ha]
  intro ham
  refine cD (Rh hp L N arcs cut k) (fun g=>g.1≤arcs.length∧Inv g.1 g.2) (fun g=>arcs.length-g.1) (0,g) ⟨yap _,hg⟩ ?_ ?_
  ·obtain ⟨tk,ek,lk⟩:=H.lk g [.arr 1 (inR N cut cut.length)]
   simp -implicitDefEqProofs only [rX,↓reduceIte,Nat.reduceEqDiff,reduceCtorEq,leE,aB,wfE,wfB,wfV,go0,lk,eq_true (mP (H.kp g)),sJ,eq_true (H.wf g _)]
   exact ⟨rfl,bA _⟩
  rintro ⟨i,g⟩ ⟨hi,hI⟩ N2 hN2
  simp only at hi hI
  simp only [c83l1]
  unfold Rh
  simp -implicitDefEqProofs only [rX,↓rY,rZ,↓rW,aA,cells?,splice,↓reduceIte,Nat.reduceEqDiff,cR,Nat.reduceAdd,reduceCtorEq,aC,yaf,yaa,H.len,go,go0,gs,yai]
  cases h2:decide ((i:Int)<(arcs.length:Int)) with
  | true =>
   have h2':=of_decide_eq_true h2
   have hi':i<arcs.length:=by omega
   obtain ⟨⟨f1,f2⟩,f3,f4⟩:=hv _ (yak hi')
   obtain ⟨u,hu⟩:∃ u:Nat,arcs[i].from_=u:=⟨arcs[i].from_.toNat,by omega⟩
   obtain ⟨v,hw⟩:∃ v:Nat,arcs[i].to=v:=⟨arcs[i].to.toNat,by omega⟩
   have lu:u<(inR N cut cut.length).length:=by rw [nR];omega
   have lv:v<(inR N cut cut.length).length:=by rw [nR];omega
   have b0:lo IntKind.i64≤(i:Int)+1∧(i:Int)+1≤Fx.hi IntKind.i64:=⟨by simp only [lo];omega,by simp only [Fx.hi];omega⟩
   have fin:∀ (e:Env) (b:Nat) (g':G) (tl:List Blk),get e 0=.itr k→get e 4=.sl L 0 N→get e 23=.ro 4 (arcs.map Arc.enc)→get e 24=.i arcs.length→get e 25=.v (.int .i64 ((i:Int)+1))→leS fx ⟨e,hp g'++.arr 1 (inR N cut cut.length)::tl,b⟩ (Rh hp L N arcs cut k (i+1,g')):=by
    intro e b g' tl q0 q4 q23 q24 q25
    obtain ⟨tk,ek,lk⟩:=H.lk g' [.arr 1 (inR N cut cut.length)]
    simp -implicitDefEqProofs only [rX,leE,aB,wfE,wfB,wfV,go0,lk,eq_true (mP (H.kp g')),sJ,eq_true (H.wf g' _),q0,q4,q23,q24,q25]
    refine ⟨rfl,?_⟩
    rw [show hp g'++.arr 1 (inR N cut cut.length)::tl=(hp g'++[.arr 1 (inR N cut cut.length)])++tl by simp]
    exact P.K.leH_app _ _
   have hop:lA cut arcs[i]=(decide ((u:Int)∈cut)&&!decide ((v:Int)∈cut)):=by unfold lA;rw [hu,hw]
   simp -implicitDefEqProofs only [rX,↓rY,↓reduceIte,yaa,hu,hw,xG,List.take_length,yab hi',P.enc_len,P.eE,P.e7,P.lO,P.lN]
   refine ⟨⟨by omega,by omega⟩,hi',by omega,lu,?_⟩
   cases d1:decide ((u:Int)∈cut) with
   | false =>
    rw [d1] at hop
    simp -implicitDefEqProofs only [↓rY]
    exact ⟨b0,hN2 _ (i+1,g) ⟨by simp only;omega,hskip i g hi' hI hop⟩ (by simp only;omega) (fin _ _ _ _ rfl rfl rfl rfl rfl)⟩
   | true =>
    simp -implicitDefEqProofs only [↓rY]
    refine ⟨by omega,lv,?_⟩
    cases d2:decide ((v:Int)∈cut) with
    | true =>
     rw [d1,d2] at hop
     simp -implicitDefEqProofs only [rX,↓rY]
     exact ⟨b0,hN2 _ (i+1,g) ⟨by simp only;omega,hskip i g hi' hI hop⟩ (by simp only;omega) (fin _ _ _ _ rfl rfl rfl rfl rfl)⟩
    | false =>
     rw [d1,d2] at hop
     simp -implicitDefEqProofs only [rX,↓rY]
     refine ⟨rfl,?_⟩
     refine hY i g hi' hI hop _ _ _ ⟨rfl,rfl,rfl,rfl,rfl,rfl⟩ ?_
     intro e' g' tl he' hI'
     simp -implicitDefEqProofs only [rX,↓rY,rZ,aA,↓reduceIte,Nat.reduceEqDiff,he'.e25,he'.e43]
     exact ⟨b0,hN2 _ (i+1,g') ⟨by simp only;omega,hI'⟩ (by simp only;omega) (fin _ _ _ _ (by simp -implicitDefEqProofs only [rX,↓reduceIte,reduceCtorEq,he'.e0]) (by simp -implicitDefEqProofs only [rX,↓reduceIte,Nat.reduceEqDiff,he'.e4]) (by simp -implicitDefEqProofs only [rX,↓reduceIte,Nat.reduceEqDiff,he'.e23]) (by simp -implicitDefEqProofs only [rX,↓reduceIte,Nat.reduceEqDiff,he'.e24]) rfl)⟩
  | false =>
   have h2':=of_decide_eq_false h2
   have:i=arcs.length:=by omega
   subst this
   have:=hK g hI
   simp -implicitDefEqProofs only [↓rY]
   exact this
end
set_option maxRecDepth 20000
open Go.Fx.P (Arc)
def uY (arcs:List Arc) (cut:List Int) (i:Nat):Int:=(((arcs.take i).filter (lA cut)).map (·.cap)).sum
def bnd (arcs:List Arc) (cut:List Int):Int:=uY arcs cut arcs.length
theorem Za {arcs:List Arc} {cut:List Int}:uY arcs cut 0=0:=rfl
theorem Yy {arcs:List Arc} {cut:List Int} {i:Nat} (h:i<arcs.length) (ho:lA cut arcs[i]=true):uY arcs cut (i+1)=uY arcs cut i+arcs[i].cap:=by
 unfold uY
 rw [←yaw h,yax,yal,List.sum_append,List.filter_cons_of_pos ho]
 simp
theorem Yz {arcs:List Arc} {cut:List Int} {i:Nat} (h:i<arcs.length) (ho:lA cut arcs[i]=false):uY arcs cut (i+1)=uY arcs cut i:=by
 unfold uY
 rw [←yaw h,yax,yal,List.sum_append,ybe (by simp [ho])]
 simp
theorem Uc {arcs:List Arc} {cut:List Int} (hc:∀ a∈arcs,0≤a.cap∧a.cap≤1073741824):∀ {i:Nat},i≤arcs.length→0≤uY arcs cut i∧uY arcs cut i≤1073741824*i
 | 0,_=>by rw [Za];omega
 | i+1,h=>by
  have:=Uc (cut:=cut) hc (i:=i) (by omega)
  have:=hc _ (yak (show i<arcs.length by omega))
  cases ho:lA cut arcs[i] with
  | true=>rw [Yy (by omega) ho];omega
  | false=>rw [Yz (by omega) ho];omega
attribute [irreducible] uY
theorem adL (N:Nat) (arcs:List Arc) (cut:List Int):Ok 61 [P.net N arcs,P.li cut] (IsA (.clo 83 [.ptr 0 0 0,.ptr 1 0 0]) [.var [.i N,.ro 4 (arcs.map Arc.enc)],.var [P.li cut]]):=by
 refine ok_of lw61 (by simp) ?_
 unfold c61 P.net P.li
 simp -implicitDefEqProofs only [rX,↓rY,aA,cells?,↓reduceIte,Nat.reduceEqDiff,Nat.reduceAdd,reduceCtorEq,aC,aL,aM,leH,leB,leV,aZ,aD,aB,wfB,wfV,wfL,Nat.reduceLeDiff,aK,cA]
abbrev aaT (N:Nat) (arcs:List Arc) (cut:List Int) (s:Int):List Blk:=[.var [.i N,.ro 4 (arcs.map Arc.enc)],.var [.i s],.var [.i N,.ro 4 (arcs.map Arc.enc)],.var [.ro 1 (cut.map P.encI)],.rcd .ready [(5,.ptr 1 0 0)]]
theorem akM (N:Nat) (arcs:List Arc) (cut:List Int):acB (aaT N arcs cut) 5 N arcs cut 4 2 3 [4]:=by
 refine ⟨fun g=>rfl,fun g tl=>rfl,fun g tl=>rfl,fun g=>⟨trivial,trivial⟩,fun g tl=>?_,fun g tl=>⟨_,_,rfl⟩⟩
 simp -implicitDefEqProofs only [rX,aB,wfE,wfB,wfV,wfL]
theorem adM (N:Nat) (arcs:List Arc) (cut:List Int) (hV:P.K.Val N arcs) (hcl:cut.length≤1000000) (hcut:∀ x∈cut,0≤x∧x<N):Ok 54 [P.net N arcs,P.li cut] (Is (.i (bnd arcs cut))):=by
 have hN:=hV.hn
 have hal:=hV.hl
 refine oU (ok_of lw54 (by simp) ?_)
 unfold c54 P.net
 simp -implicitDefEqProofs only [rX,↓rY,aA,cells?,splice,↓reduceIte,Nat.reduceEqDiff,Nat.reduceAdd,reduceCtorEq,aC,isC,aQ,aK]
 refine dE [P.net N arcs,P.li cut] (.clo 83 [.ptr 0 0 0,.ptr 1 0 0]) (.clo 83 [.ptr 2 0 0,.ptr 3 0 0]) [.var [.i N,.ro 4 (arcs.map Arc.enc)],.var [P.li cut]] [.var [.i N,.ro 4 (arcs.map Arc.enc)],.var [P.li cut]] (adL N arcs cut) (by simp [aF,aG,aN,bD,wkL,wk,wkR,P.net,P.li]) rfl rfl trivial ?_
 simp -implicitDefEqProofs only [rX]
 refine Ec 4 rfl rfl trivial ?_
 refine Ul (h':=aaT N arcs cut 0) ?_ ⟨trivial,trivial⟩ ?_ ?_ (afK (Inv:=fun i g=>g=uY arcs cut i) (akM N arcs cut) (by omega) (by omega) hcl hcut (fun x hx=>⟨(hV.ha x hx).1,(hV.ha x hx).2.1⟩) ?_ ?_ ?_ _ Za.symm)
 ·simp -implicitDefEqProofs only [rX,↓reduceIte,Nat.reduceEqDiff,leE,leH,leB,leV,aZ]
  repeat' first|rfl|trivial|apply And.intro|exact Or.inr trivial
 ·simp -implicitDefEqProofs only [rX,aB,wfE,wfB,wfV,wfL]
 ·simp -implicitDefEqProofs only [rX,aB,wfV,wfL]
 ·rintro i g hi rfl ho
  exact (Yz hi ho).symm
 ·rintro i g hi rfl ho e bb Z he hZ
  refine Lg 7 rfl rfl rfl ?_
  have hcap:=hV.ha _ (yak hi)
  have hb:=Uc (cut:=cut) (fun a ha=>(hV.ha a ha).2.2.2.1) (Nat.le_of_lt hi)
  unfold c54a0
  simp -implicitDefEqProofs only [rX,↓rY,rZ,↓rW,aA,cells?,splice,↓reduceIte,Nat.reduceEqDiff,Nat.reduceAdd,aC,aQ,aJ,l7,P.enc_len,P.e7]
  unfold c54r0
  simp -implicitDefEqProofs only [rX,↓rY,rZ,↓rW,cells?,splice,↓reduceIte,Nat.reduceEqDiff,Nat.reduceAdd,isC,P.oF]
  refine ⟨⟨by simp only [lo];omega,by simp only [Fx.hi];omega⟩,?_⟩
  exact hZ e _ _ he (Yy hi ho).symm
 ·rintro g rfl
  unfold aaT
  simp -implicitDefEqProofs only [rX,↓rY,rZ,↓rW,↓reduceIte,Nat.reduceAdd,aB,wfE,wfB,wfV,wfL]
  exact mD ⟨trivial,rfl⟩
abbrev bI' (l:List Int):V:=.bro 1 (l.map P.encI)
def w5 (n:Int) (cut:List Int):Prop:=(∀ x∈cut,0≤x∧x<n∧x≠1)∧cut.Pairwise (·<·)∧cut.head?=some 0
instance (n:Int) (cut:List Int):Decidable (w5 n cut):=by unfold w5;infer_instance
def pB (n:Int) (cut:List Int):Bool:=decide (w5 n cut)
structure CuI (n:Int) (cut:List Int) (j:Nat):Prop where
 le:j≤cut.length
 ok:∀ i (h:i<cut.length),i<j→0≤cut[i]∧cut[i]<n∧cut[i]≠1
 ord:∀ i (h:i+1<cut.length),i+1<j→cut[i]<cut[i+1]
theorem CuI.all {n:Int} {cut:List Int} (h:CuI n cut cut.length):(∀ x∈cut,0≤x∧x<n∧x≠1)∧cut.Pairwise (·<·):=by
 refine ⟨fun k hk=>?_,yaI.2 fun i j hi hj hij=>?_⟩
 ·obtain ⟨j,hj,rfl⟩:=yaR hk
  exact h.ok j hj hj
 ·obtain ⟨d,rfl⟩:∃ d,j=i+1+d:=⟨j-(i+1),by omega⟩
  induction d with
  | zero=>exact h.ord i (by omega) (by omega)
  | succ d ih =>
   have h1:=ih (by omega) (by omega)
   have h2:=h.ord (i+1+d) (by omega) (by omega)
   exact yaS h1 h2
theorem Fe {n:Int} {cut:List Int} {j:Nat} (hj:j<cut.length) (h:¬(0≤cut[j]∧cut[j]<n∧cut[j]≠1)):false=pB n cut:=(decide_eq_false fun q=>h (q.1 _ (yak hj))).symm
theorem Wu {n:Int} {cut:List Int} {j:Nat} (hj:j+1<cut.length) (h:¬cut[j]<cut[j+1]):false=pB n cut:=(decide_eq_false fun q=>h (yaI.1 q.2.1 j (j+1) (by omega) hj (by omega))).symm
theorem aaI (n:Int) (cut:List Int) (hcl:cut.length≤1000000):Ok 53 [.agg [.i n,.any],bI' cut] (Is (.b (pB n cut))):=by
 refine ok_of lw53 (by simp) ?_
 unfold c53
 simp -implicitDefEqProofs only [rX,↓rY,aA,cells?,↓reduceIte,Nat.reduceEqDiff,reduceCtorEq,aC,aJ,aK]
 intro hml
 refine cD (fun j:Nat=>(⟨[(9,.i j),(8,.i cut.length),(7,bI' cut),(2,.ptr 0 0 0),(1,bI' cut)],[.var [.i n,.any]],1⟩:St)) (CuI n cut) (fun j=>cut.length-j) 0 ⟨yap _,fun i _ h=>by omega,fun i _ h=>by omega⟩ ?_ ?_
 ·exact ⟨by simp -implicitDefEqProofs only [rX,↓reduceIte,Nat.reduceEqDiff,reduceCtorEq,leE];rfl,bA _,trivial,by simp -implicitDefEqProofs only [rX,aB,wfE,wfV],by simp -implicitDefEqProofs only [rX,wfB,wfV,wfL]⟩
 intro j hI N hN
 have hle:=hI.le
 have b0:lo IntKind.i64≤(j:Int)+1∧(j:Int)+1≤Fx.hi IntKind.i64:=⟨by simp only [lo];omega,by simp only [Fx.hi];omega⟩
 simp only [c53l0]
 simp -implicitDefEqProofs only [rX,↓rY,aA,↓reduceIte,Nat.reduceEqDiff,aL,aM,wfV,yaf,yaa]
 cases h1:decide ((j:Int)<(cut.length:Int)) with
 | true =>
  have h1':=of_decide_eq_true h1
  have hj:j<cut.length:=by omega
  have fin:∀ (e:Env) (b:Nat),(0≤cut[j]∧cut[j]<n∧cut[j]≠1)→(∀ i (h:i+1<cut.length),i+1=j→cut[i]<cut[i+1])→get e 9=.v (.int .i64 ((j:Int)+1))→get e 8=.i cut.length→get e 7=bI' cut→get e 2=.ptr 0 0 0→get e 1=bI' cut→N ⟨e,[.var [.i n,.any]],b⟩:=by
   intro e b q1 q2 q9 q8 q7 q22 q11
   refine hN _ (j+1) ⟨by omega,fun i hi hlt=>?_,fun i hi hlt=>?_⟩ (by omega) ?_
   ·by_cases e:i=j
    ·subst e;exact q1
    ·exact hI.ok i hi (by omega)
   ·by_cases e:i+1=j
    ·exact q2 i hi e
    ·exact hI.ord i hi (by omega)
   ·simp -implicitDefEqProofs only [rX,leE,leH,leB,leV,aZ,aD,aB,wfE,wfB,wfV,wfL,q9,q8,q7,q22,q11]
    rfl
  simp -implicitDefEqProofs only [rX,↓rY,yab hj,P.bW]
  refine ⟨⟨by omega,by omega⟩,hj,?_⟩
  cases d1:decide (cut[j]<0) with
  | true =>
   have d1':=of_decide_eq_true d1
   simp -implicitDefEqProofs only [↓rY]
   exact Fe hj (by omega)
  | false =>
   have d1':=of_decide_eq_false d1
   simp -implicitDefEqProofs only [↓rY]
   cases d2:decide (n≤cut[j]) with
   | true =>
    have d2':=of_decide_eq_true d2
    simp -implicitDefEqProofs only [↓rY]
    exact Fe hj (by omega)
   | false =>
    have d2':=of_decide_eq_false d2
    simp -implicitDefEqProofs only [↓rY]
    cases d3:(cut[j]==1) with
    | true =>
     have d3':=eq_of_beq d3
     simp -implicitDefEqProofs only [↓rY]
     exact Fe hj (by omega)
    | false =>
     have d3':=ne_of_beq_false d3
     simp -implicitDefEqProofs only [↓rY]
     have q1:0≤cut[j]∧cut[j]<n∧cut[j]≠1:=⟨by omega,by omega,d3'⟩
     cases d4:decide (0<(j:Int)) with
     | false =>
      have d4':=of_decide_eq_false d4
      simp -implicitDefEqProofs only [↓rY]
      exact ⟨b0,fin _ _ q1 (fun i h e=>by omega) rfl rfl rfl rfl rfl⟩
     | true =>
      have d4':=of_decide_eq_true d4
      obtain ⟨m,rfl⟩:∃ m,j=m+1:=⟨j-1,by omega⟩
      have hm:m<cut.length:=by omega
      have em:((m+1:Nat):Int)-1=(m:Int):=by omega
      simp -implicitDefEqProofs only [↓rY,yaa,em]
      refine ⟨⟨by simp only [lo];omega,by simp only [Fx.hi];omega⟩,⟨by omega,by omega⟩,hm,?_⟩
      cases d5:decide (cut[m+1]≤cut[m]) with
      | true =>
       have d5':=of_decide_eq_true d5
       simp -implicitDefEqProofs only [↓rY]
       exact Wu hj (by omega)
      | false =>
       have d5':=of_decide_eq_false d5
       simp -implicitDefEqProofs only [↓rY]
       refine ⟨b0,fin _ _ q1 (fun i h e=>?_) rfl rfl rfl rfl rfl⟩
       obtain rfl:i=m:=by omega
       omega
 | false =>
  have h1':=of_decide_eq_false h1
  have:j=cut.length:=by omega
  subst this
  obtain ⟨a1,a2⟩:=hI.all
  simp -implicitDefEqProofs only [↓rY]
  intro _
  cases hc:cut with
  | nil =>
   have:pB n []=false:=decide_eq_false fun q=>by have:=q.2.2;simp at this
   simp -implicitDefEqProofs only [rX,this]
   exact ⟨fun h=>by simp at h,fun _=>trivial⟩
  | cons x r =>
   rw [hc] at a1 a2
   have hx:pB n (x::r)=(x==0):=by
    rw [Bool.eq_iff_iff]
    unfold pB w5
    simp only [decide_eq_true_eq,List.head?_cons,yaB,beq_iff_eq]
    exact ⟨fun h=>h.2.2,fun h=>⟨a1,a2,h⟩⟩
   rw [hx]
   have hd:decide ((0:Int)<((x::r).length:Int))=true:=decide_eq_true (by simp)
   simp only [hd,wc]
   simp -implicitDefEqProofs only [rX,↓rY,P.bW]
   exact ⟨⟨by omega,by omega⟩,by simp,rfl⟩
set_option maxRecDepth 20000
open Go.Fx.P (Arc aH)
def hasB (l:List Int) (x:Int):Bool:=decide (x∈l)
structure NoI (l:List Int) (x:Int) (j:Nat):Prop where
 le:j≤l.length
 no:∀ i (h:i<l.length),i<j→l[i]≠x
theorem NoI.next {l:List Int} {x:Int} {j:Nat} (h:NoI l x j) (hj:j<l.length) (hx:l[j]≠x):NoI l x (j+1):=⟨by omega,fun i hi hlt=>by
 by_cases e:i=j
 ·subst e;exact hx
 ·exact h.no i hi (by omega)⟩
theorem afN {l:List Int} {x:Int} {j:Nat} (hj:j<l.length) (h:l[j]=x):hasB l x=true:=decide_eq_true (h▸yak hj)
theorem NoI.none {l:List Int} {x:Int} (h:NoI l x l.length):hasB l x=false:=decide_eq_false fun hm=>by
 obtain ⟨i,hi,rfl⟩:=yaR hm
 exact h.no i hi hi rfl
theorem ajA (l:List Int) (x:Int):Ok 78 [bI' l,.i x] (IsQ (fun k:Int=>decide (k≥0)=hasB l x) (fun k=>.i k) (fun _=>[])):=by
 refine ok_of lw78 (by simp) ?_
 unfold c78
 simp -implicitDefEqProofs only [rX,↓rY,aA,↓reduceIte,reduceCtorEq,aJ,aK]
 intro hml
 simp only [maxLen] at hml
 refine cD (fun j:Nat=>(⟨[(8,.i j),(7,.i l.length),(1,.i x),(0,bI' l)],[],0⟩:St)) (NoI l x) (fun j=>l.length-j) 0 ⟨yap _,fun i _ h=>by omega⟩ ?_ ?_
 ·exact ⟨by simp -implicitDefEqProofs only [rX,↓reduceIte,Nat.reduceEqDiff,reduceCtorEq,leE];rfl,bA _,trivial,by simp -implicitDefEqProofs only [rX,wfE,wfV],by simp -implicitDefEqProofs only [wfB]⟩
 intro j hI N hN
 have hle:=hI.le
 simp only [c78l0]
 simp -implicitDefEqProofs only [rX,↓rY,aA,↓reduceIte,Nat.reduceEqDiff,reduceCtorEq,yaf,yaa]
 cases h1:decide ((j:Int)<(l.length:Int)) with
 | true =>
  have h1':=of_decide_eq_true h1
  have hj:j<l.length:=by omega
  simp -implicitDefEqProofs only [rX,↓rY,yab hj,P.bW]
  refine ⟨⟨by omega,by omega⟩,hj,?_⟩
  cases h2:(x==l[j]) with
  | true =>
   have h2':=eq_of_beq h2
   simp -implicitDefEqProofs only [↓rY]
   refine dT (Q:=fun k:Int=>decide (k≥0)=hasB l x) (j:Int) (by rw [afN hj h2'.symm];exact decide_eq_true (by omega)) ?_
   simp -implicitDefEqProofs only [rX,↓reduceIte,aL,aM,leH,aD,wfB,wfV]
  | false =>
   have h2':=ne_of_beq_false h2
   simp -implicitDefEqProofs only [↓rY]
   refine ⟨⟨by simp only [lo];omega,by simp only [Fx.hi];omega⟩,hN _ (j+1) (hI.next hj (fun h=>h2' h.symm)) (by omega) ?_⟩
   exact ⟨by simp -implicitDefEqProofs only [rX,↓reduceIte,Nat.reduceEqDiff,reduceCtorEq,leE];rfl,bA _,trivial,by simp -implicitDefEqProofs only [rX,wfE,wfV],by simp -implicitDefEqProofs only [wfB]⟩
 | false =>
  have h1':=of_decide_eq_false h1
  have:j=l.length:=by omega
  subst this
  simp -implicitDefEqProofs only [↓rY]
  refine dT (Q:=fun k:Int=>decide (k≥0)=hasB l x) (-1:Int) (by rw [hI.none];rfl) ?_
  simp -implicitDefEqProofs only [rX,↓reduceIte,aL,aM,leH,aD,wfB,wfV]
theorem ajN (l:List Int) (x:Int):Ok 56 [bI' l,.i x] (Is (.b (hasB l x))):=by
 refine ok_of lw56 (by simp) ?_
 unfold c56
 simp -implicitDefEqProofs only [rX,aA,↓reduceIte,Nat.reduceEqDiff,reduceCtorEq,aK]
 refine tL _ _ _ (ajA l x) (by simp [aF,aG,aN,bD,wkL,wk,wkR,wkB]) (fun g=>rfl) trivial ?_
 intro k hk
 simp -implicitDefEqProofs only [rX,↓rY,aA,↓reduceIte,aL,aM,wfV,hk]
def fU (ps:List aH) (p:Int):Option aH:=if 0≤p then (ps[p.toNat]?).filter (fun x=>x.kind==1) else none
theorem Lu {ps:List aH} {p:Int} (h:p<0):fU ps p=none:=if_neg (by omega)
theorem Lv {ps:List aH} {p:Int} (h:(ps.length:Int)≤p):fU ps p=none:=by
 unfold fU
 rw [if_pos (by omega),yaF (by omega)];rfl
theorem Ql {ps:List aH} {k:Nat} (h:k<ps.length):fU ps (k:Int)=if ps[k].kind=1 then some ps[k] else none:=by
 unfold fU
 rw [if_pos (by omega),yaa,yab h,Option.filter_some]
 by_cases e:ps[k].kind=1
 ·simp [e]
 ·simp [e]
theorem pI {ps:List aH} {p:Int} {x:aH} (h:fU ps p=some x):∃ (k:Nat) (hk:k<ps.length),p=k∧ps[k]=x∧x.kind=1:=by
 unfold fU at h
 split at h
 ·rename_i h0
  obtain ⟨h1,h2⟩:=Option.filter_eq_some_iff.1 h
  obtain ⟨h3,h4⟩:=List.getElem?_eq_some_iff.1 h1
  exact ⟨p.toNat,h3,by omega,h4,by simpa using h2⟩
 ·cases h
def zSp:aH:=⟨0,0,0⟩
theorem aaK (ps:List aH) (rs:List P.Road) (p:Int) (hl:ps.length≤1000):Ok 34 [P.bF ps rs,.i p] (Is (.tup [.agg ((fU ps p).getD zSp).enc,.b (fU ps p).isSome])):=by
 refine ok_of lw34 (by simp) ?_
 unfold c34 P.bF P.sps P.rds
 simp -implicitDefEqProofs only [rX,↓rY,aA,cells?,splice,↓reduceIte,Nat.reduceEqDiff,Nat.reduceAdd,reduceCtorEq,aC,bH,aL,aM,wfV,wfL,isC,yaf,aQ,aK]
 cases d1:decide (p<0) with
 | true =>
  have d1':=of_decide_eq_true d1
  simp -implicitDefEqProofs only [rX,↓rY,Lu d1',yaj]
  rfl
 | false =>
  have d1':=of_decide_eq_false d1
  simp -implicitDefEqProofs only [↓rY]
  intro hml
  cases d2:decide ((ps.length:Int)≤p) with
  | true =>
   have d2':=of_decide_eq_true d2
   simp -implicitDefEqProofs only [rX,↓rY,Lv d2',yaj]
   rfl
  | false =>
   have d2':=of_decide_eq_false d2
   obtain ⟨k,rfl⟩:∃ k:Nat,p=k:=⟨p.toNat,by omega⟩
   have hk:k<ps.length:=by omega
   have hs:=Ql hk
   simp -implicitDefEqProofs only [rX,↓rY,yaa,P.nH,P.iU,P.uA,P.oP]
   refine ⟨⟨by omega,by omega⟩,hk,?_⟩
   by_cases e:ps[k].kind=1
   ·rw [if_pos e] at hs
    simp -implicitDefEqProofs only [rX,↓rY,hs,e,bne_self_eq_false,yav]
    exact ⟨⟨by omega,by omega⟩,hk,⟨trivial,trivial,trivial,trivial⟩⟩
   ·rw [if_neg e] at hs
    have e2:(ps[k].kind != 1)=true:=bne_iff_ne.2 e
    simp -implicitDefEqProofs only [rX,↓rY,hs,e2,yaj]
    rfl
theorem ajU (ps:List aH) (rs:List P.Road) (p:Int) (hl:ps.length≤1000):Ok 44 [P.bF ps rs,.i p] (Is (.b (fU ps p).isSome)):=by
 refine ok_of lw44 (by simp) ?_
 unfold c44 P.bF P.sps P.rds
 simp -implicitDefEqProofs only [rX,↓rY,aA,cells?,↓reduceIte,Nat.reduceEqDiff,reduceCtorEq,aC,aL,aM,wfV,yaf,aK]
 cases d1:decide (p≥0) with
 | false =>
  have d1':=of_decide_eq_false d1
  simp -implicitDefEqProofs only [↓rY,Lu (show p<0 by omega),yaj]
 | true =>
  have d1':=of_decide_eq_true d1
  simp -implicitDefEqProofs only [↓rY]
  intro hml
  cases d2:decide (p<(ps.length:Int)) with
  | false =>
   have d2':=of_decide_eq_false d2
   simp -implicitDefEqProofs only [↓rY,Lv (show (ps.length:Int)≤p by omega),yaj]
  | true =>
   have d2':=of_decide_eq_true d2
   obtain ⟨k,rfl⟩:∃ k:Nat,p=k:=⟨p.toNat,by omega⟩
   have hk:k<ps.length:=by omega
   have hs:=Ql hk
   simp -implicitDefEqProofs only [rX,↓rY,yaa,P.uA]
   refine ⟨⟨by omega,by omega⟩,hk,?_⟩
   by_cases e:ps[k].kind=1
   ·rw [if_pos e] at hs
    rw [hs,e];rfl
   ·rw [if_neg e] at hs
    rw [hs,beq_eq_false_iff_ne.2 e];rfl
set_option maxRecDepth 20000
open Go.Fx.P (Arc aH)
structure CuS (n:Int) (cut:List Int) (j:Nat):Prop where
 le:j≤cut.length
 ok:∀ i (h:i<cut.length),i<j→0≤cut[i]∧cut[i]<n
 ord:∀ i (h:i+1<cut.length),i+1<j→cut[i]<cut[i+1]
theorem CuS.all {n:Int} {cut:List Int} (h:CuS n cut cut.length):pB n cut=(hasB cut 0&&!hasB cut 1):=by
 have h1:∀ x∈cut,0≤x∧x<n:=fun k hk=>by
  obtain ⟨j,hj,rfl⟩:=yaR hk
  exact h.ok j hj hj
 have h2:cut.Pairwise (·<·):=yaI.2 fun i j hi hj hij=>by
  obtain ⟨d,rfl⟩:∃ d,j=i+1+d:=⟨j-(i+1),by omega⟩
  induction d with
  | zero=>exact h.ord i (by omega) (by omega)
  | succ d ih=>exact yaS (ih (by omega) (by omega)) (h.ord (i+1+d) (by omega) (by omega))
 have e1:pB n cut=true↔w5 n cut:=decide_eq_true_iff
 have e2:(hasB cut 0&&!hasB cut 1)=true↔(0:Int)∈cut∧¬(1:Int)∈cut:=by
  unfold hasB
  rw [yaC,yaT,decide_eq_false_iff_not,decide_eq_true_eq]
 rw [Bool.eq_iff_iff,e1,e2]
 constructor
 ·rintro ⟨a,b,c⟩
  exact ⟨ybf c,fun h=>(a 1 h).2.2 rfl⟩
 ·rintro ⟨a,b⟩
  refine ⟨fun x hx=>⟨(h1 x hx).1,(h1 x hx).2,fun e=>b (e▸hx)⟩,h2,?_⟩
  cases cut with
  | nil=>simp at a
  | cons x r =>
   rw [List.head?_cons]
   rcases yad.1 a with e|e
   ·rw [←e]
   ·have:=(yaU.1 h2).1 0 e
    have:=(h1 x yay).1
    omega
structure gK (ps:List aH) (rs:List P.Road):Prop where
 ok:P.fI ps rs=0
 pl:ps.length≤6
 rl:rs.length≤20
theorem gK.net {ps:List aH} {rs:List P.Road} (h:gK ps rs):P.K.Val (P.nN ps) (P.cK ps rs):=P.xB h.ok
theorem gK.e25 {ps:List aH} {rs:List P.Road} (h:gK ps rs):Ok 25 [P.bF ps rs] (Is (P.net (P.nN ps) (P.cK ps rs))):=by
 have:=P.adT ps rs (by have:=h.pl;omega) (by have:=h.rl;omega) (P.iJ h.ok).2.2
 rw [P.Hc] at this
 exact this
theorem gK.e51 {ps:List aH} {rs:List P.Road} (h:gK ps rs):Ok 51 [P.bF ps rs] (Is (P.net (P.nN ps) (P.cK ps rs))):=by
 have:=P.aaJ ps rs (by have:=h.pl;omega) (by have:=h.rl;omega) (P.iJ h.ok).2.2
 rw [P.Hc] at this
 exact this
theorem bB {h:List Blk} {g:Nat→Option Nat} {ps:List aH} {rs:List P.Road}:aG h g (.agg [P.sps ps,P.rds rs])∧wk (P.bF ps rs) (bD h g (.agg [P.sps ps,P.rds rs])):=⟨⟨trivial,trivial,trivial⟩,⟨⟨rfl,rfl⟩,⟨rfl,rfl⟩,trivial⟩⟩
theorem akH (ps:List aH) (rs:List P.Road) (cut:List Int) (hF:gK ps rs) (hcl:cut.length≤1000000):Ok 18 [P.bF ps rs,P.li cut] (Is (.tup (if pB (P.nN ps) cut then [.i (bnd (P.cK ps rs) cut),.i 0] else [.i 0,.i 110]))):=by
 refine ok_of lw18 (by simp) ?_
 unfold c18 P.bF
 simp -implicitDefEqProofs only [rX,↓rY,aA,cells?,↓reduceIte,Nat.reduceEqDiff,Nat.reduceAdd,aC,aK]
 refine aE hF.e51 ⟨⟨bB.1,trivial⟩,bB.2,trivial⟩ rfl trivial ?_
 have hV:=hF.net
 unfold P.net
 simp -implicitDefEqProofs only [rX,↓rY,aA,cells?,splice,↓reduceIte,Nat.reduceEqDiff,Nat.reduceAdd,reduceCtorEq,aC,isC,aQ]
 refine aE (aaI (P.nN ps) cut hcl) (by simp [aF,aG,aN,bD,wkL,wk,wkR,wkB,P.li]) rfl trivial ?_
 cases hc:pB (P.nN ps) cut with
 | false=>simp -implicitDefEqProofs only [rX,↓rY,aA,↓reduceIte,Nat.reduceEqDiff,Nat.reduceAdd,aL,aM,wfV,wfL]
 | true =>
  have hcP:w5 (P.nN ps) cut:=of_decide_eq_true hc
  simp -implicitDefEqProofs only [rX,↓rY,↓reduceIte,Nat.reduceEqDiff,Nat.reduceAdd,reduceCtorEq]
  refine aE (adM (P.nN ps) (P.cK ps rs) cut hV hcl (fun x hx=>⟨(hcP.1 x hx).1,(hcP.1 x hx).2.1⟩)) (by simp [aF,aG,aN,bD,wkL,wk,wkR,wkB,P.net,P.li]) rfl trivial ?_
  simp -implicitDefEqProofs only [rX,aA,↓reduceIte,Nat.reduceEqDiff,aL,aM,wfV,wfL]
set_option maxRecDepth 20000
open Go.Fx.P (Arc aH)
def lZ (ps:List aH) (rs:List P.Road) (r:Rf):Bool:=pB (P.nN ps) r.cut&&(bnd (P.cK ps rs) r.cut==r.sent)&&decide (r.sent<P.dem ps)&&hasB r.cut (2+2*r.place)
theorem gK.e55 {ps:List aH} {rs:List P.Road} (h:gK ps rs):Ok 55 [P.bF ps rs] (Is (.i (P.dem ps))):=P.aaH ps rs (by have:=h.pl;omega) (P.iJ h.ok).2.1
theorem Ed {r:Rf}:r.enc.all isC=true:=by unfold Rf.enc P.li;simp [isC,isD,tY]
set_option maxHeartbeats 1000000 in
theorem ajO (ps:List aH) (rs:List P.Road) (r:Rf) (hF:gK ps rs) (hcl:r.cut.length≤1000000) (hp:0≤r.place∧r.place≤1000) :
  OkN Tryz.prog 52 [.ptr 0 0 0,.ptr 1 0 0,.ptr 2 0 0] [.var [.i (P.nN ps),.ro 4 ((P.cK ps rs).map Arc.enc)],.var r.enc,.var [P.sps ps,P.rds rs]] [] (IsA (.b (lZ ps rs r)) [.var [.i (P.nN ps),.ro 4 ((P.cK ps rs).map Arc.enc)],.var r.enc,.var [P.sps ps,P.rds rs]]):=by
 refine eR pol [0,1,2] lw52 (by simp) ⟨trivial,trivial,trivial,trivial⟩ (by intro k hk _;simp at hk ⊢;omega) ?_
 have hV:=hF.net
 unfold c52 Rf.enc lZ P.li P.sps P.rds
 have ul:∀ l:Bs,aZ (us l) (us l)=True:=fun l=>eq_true acG
 simp -implicitDefEqProofs only [rX,↓rY,rdK,aA,↓reduceIte,Nat.reduceEqDiff,Nat.reduceAdd,reduceCtorEq,aJ,aK]
 refine aE (aaI (P.nN ps) r.cut hcl) (by simp [aF,aG,aN,bD,wkL,wk,wkR,wkB,P.li]) rfl ⟨trivial,trivial,trivial,trivial⟩ ?_
 cases hc:pB (P.nN ps) r.cut with
 | false =>
  simp -implicitDefEqProofs only [rX,↓rY,rdK,aA,↓reduceIte,Nat.reduceEqDiff,Nat.reduceAdd,reduceCtorEq,aL,aM,leH,leB,leV,aZ,aD,aB,wfB,wfV,wfL,yaV,cA,ul,cX]
 | true =>
  have hcP:w5 (P.nN ps) r.cut:=of_decide_eq_true hc
  simp -implicitDefEqProofs only [rX,↓rY,rdK,↓reduceIte,Nat.reduceEqDiff,Nat.reduceAdd,reduceCtorEq,aJ]
  refine aE (adM (P.nN ps) (P.cK ps rs) r.cut hV hcl (fun x hx=>⟨(hcP.1 x hx).1,(hcP.1 x hx).2.1⟩)) (by simp [aF,aG,aN,bD,wkL,wk,wkR,wkB,P.net,P.li]) rfl ⟨trivial,trivial,trivial,trivial⟩ ?_
  cases hb:(bnd (P.cK ps rs) r.cut==r.sent) with
  | false =>
   simp -implicitDefEqProofs only [rX,↓rY,rdK,aA,↓reduceIte,Nat.reduceEqDiff,Nat.reduceAdd,reduceCtorEq,aL,aM,leH,leB,leV,aZ,aD,aB,wfB,wfV,wfL,yaV,yaJ,cA,hb,ul,cX]
  | true =>
   simp -implicitDefEqProofs only [rX,↓rY,rdK,↓reduceIte,Nat.reduceEqDiff,Nat.reduceAdd,reduceCtorEq,aJ,hb]
   refine aE hF.e55 ⟨⟨bB.1,trivial⟩,bB.2,trivial⟩ rfl ⟨trivial,trivial,trivial,trivial⟩ ?_
   cases hd:decide (r.sent<P.dem ps) with
   | false =>
    simp -implicitDefEqProofs only [rX,↓rY,rdK,aA,↓reduceIte,Nat.reduceEqDiff,Nat.reduceAdd,aL,aM,leH,leB,leV,aZ,aD,aB,wfB,wfV,wfL,yaV,yaJ,cA,hd,ul,cX]
   | true =>
    simp -implicitDefEqProofs only [rX,↓rY,rdK,aA,↓reduceIte,Nat.reduceEqDiff,reduceCtorEq,aJ,hd]
    refine ⟨⟨by simp only [lo];omega,by simp only [Fx.hi];omega⟩,⟨by simp only [lo];omega,by simp only [Fx.hi];omega⟩,?_⟩
    refine aE (ajN r.cut (2+2*r.place)) (by simp [aF,aG,aN,bD,wkL,wk,wkR,wkB,P.li]) rfl ⟨trivial,trivial,trivial,trivial⟩ ?_
    simp -implicitDefEqProofs only [rX,↓rY,↓reduceIte,Nat.reduceEqDiff,Nat.reduceAdd,aL,aM,leH,leB,leV,aZ,aD,aB,wfB,wfV,wfL,yaJ,cA,ul,cX]
def Ba (ps:List aH) (rs:List P.Road) (r:Rf):Int :=
 match fU ps r.place with
 | none=>5
 | some x=>if r.n<0∨x.cap≤r.n∨pS r.win=false then 1 else if lZ ps rs r then 0 else 110
set_option maxHeartbeats 1000000 in
theorem aeB (ps:List aH) (rs:List P.Road) (r:Rf) (hF:gK ps rs) (hcl:r.cut.length≤1000000):Ok 14 [P.bF ps rs,.agg r.enc] (Is (.i (Ba ps rs r))):=by
 refine ok_of lw14 (by simp) ?_
 have o34:=aaK ps rs r.place (by have:=hF.pl;omega)
 unfold c14 P.bF Rf.enc
 simp -implicitDefEqProofs only [rX,↓rY,aA,cells?,↓reduceIte,Nat.reduceEqDiff,Nat.reduceAdd,reduceCtorEq,aC,aK]
 unfold Ba
 cases hs:fU ps r.place with
 | none =>
  rw [hs] at o34
  refine aE o34 ⟨⟨bB.1,trivial,trivial⟩,bB.2,rfl,trivial⟩ rfl trivial ?_
  simp -implicitDefEqProofs only [rX,↓rY,aA,cells?,splice,↓reduceIte,Nat.reduceEqDiff,Nat.reduceAdd,aC,aL,aM,wfV,isC,aQ,P.aH.enc,zSp,yaj]
 | some x =>
  rw [hs] at o34
  obtain ⟨k,hk,hpk,hx,hkind⟩:=pI hs
  refine aE o34 ⟨⟨bB.1,trivial,trivial⟩,bB.2,rfl,trivial⟩ rfl trivial ?_
  simp -implicitDefEqProofs only [rX,↓rY,aA,cells?,splice,↓reduceIte,Nat.reduceEqDiff,Nat.reduceAdd,aC,aL,aM,wfV,isC,aQ,P.aH.enc,yav]
  cases d1:decide (r.n<0) with
  | true =>
   have d1':=of_decide_eq_true d1
   simp -implicitDefEqProofs only [↓rY]
   rw [if_pos (.inl d1')]
  | false =>
   have d1':=of_decide_eq_false d1
   simp -implicitDefEqProofs only [↓rY]
   cases d2:decide (x.cap≤r.n) with
   | true =>
    have d2':=of_decide_eq_true d2
    simp -implicitDefEqProofs only [↓rY]
    rw [if_pos (.inr (.inl d2'))]
   | false =>
    have d2':=of_decide_eq_false d2
    simp -implicitDefEqProofs only [↓rY]
    refine aE (adQ r.win) ⟨⟨trivial,trivial⟩,rfl,trivial⟩ rfl trivial ?_
    cases d3:pS r.win with
    | false =>
     simp -implicitDefEqProofs only [rX,↓rY,aA,↓reduceIte,Nat.reduceEqDiff,Nat.reduceAdd,aL,aM,wfV]
     rw [if_pos (.inr (.inr trivial))]
    | true =>
     rw [if_neg (by simp;omega)]
     simp -implicitDefEqProofs only [rX,↓rY,↓reduceIte,Nat.reduceEqDiff,Nat.reduceAdd]
     refine aE hF.e51 ⟨⟨bB.1,trivial⟩,bB.2,trivial⟩ rfl trivial ?_
     unfold P.net
     simp -implicitDefEqProofs only [rX,↓rY,aA,cells?,splice,↓reduceIte,Nat.reduceEqDiff,Nat.reduceAdd,aC,isC,aQ]
     refine cY [3,1,0] [.ptr 0 0 0,.ptr 1 0 0,.ptr 2 0 0] (.b (lZ ps rs r)) (.b (lZ ps rs r)) [.var [.i (P.nN ps),.ro 4 ((P.cK ps rs).map Arc.enc)],.var r.enc,.var [P.sps ps,P.rds rs]] [.var [.i (P.nN ps),.ro 4 ((P.cK ps rs).map Arc.enc)],.var r.enc,.var [P.sps ps,P.rds rs]] [.var [P.sps ps,P.rds rs],.var r.enc,.var [.i x.kind,.i x.num,.i x.cap],.var [.i (P.nN ps),.ro 4 ((P.cK ps rs).map Arc.enc)]]
      (ajO ps rs r hF hcl (by have:=hF.pl;omega)) (by simp [aQ]) (by simp [blk,bX,cI,ren,f9,P.li,P.sps,P.rds,Rf.enc]) (by simp [aF,aG,aN,bD,wkL,wk,wkR,pos]) (by simp) (by simp [bM,bX,cI,ren,f9,P.li,P.sps,P.rds,Rf.enc]) rfl trivial ?_
     cases hq:lZ ps rs r with
     | false=>simp -implicitDefEqProofs only [rX,↓rY,aA,↓reduceIte,Nat.reduceAdd,aL,aM,wfV]
     | true=>simp -implicitDefEqProofs only [rX,↓rY,aA,↓reduceIte,Nat.reduceAdd,aL,aM,wfV]
set_option maxRecDepth 20000
open Go.Fx.P (Arc aH)
theorem Ea {k:Ky} {r:Rf} (hk:k.sec.length≤1000) (hr:r.Ok):Xj k (partsOf r):=by
 have h1:=Se hr.n7 (by simp)
 have h2:=Se hr.cut (by have:=hr.len;omega)
 have h3:=hr.len
 simp only [yaD,yaK] at h1
 have t1:=Jb (t:=k.sec) (by omega)
 have t2:=Jb (t:=lB [r.place,r.n,r.win,r.sent,r.lo,r.hi,r.serial]) (by omega)
 have t3:=Jb (t:=lB r.cut) (by omega)
 refine ⟨?_,by simp [partsOf]⟩
 unfold inB partsOf
 simp only [yaD,yaq,yao,yaW,yaE,List.nil_append,List.flatten_cons,List.flatten_nil,yaK]
 omega
def Wx (ring:List Ky) (ps:List aH) (r:Rf):Int :=
 match fU ps r.place with
 | none=>5
 | some x=>Ty ring (1000+x.num) r.serial 410 (partsOf r) r.sg r.lo r.hi
theorem Pe {ps:List aH} {rs:List P.Road} (h:P.fI ps rs=0):∀ i (hi:i<ps.length),P.lF ps[i]:=by
 unfold P.fI at h
 by_cases h1:100<ps.length∨1500<rs.length
 ·rw [if_pos h1] at h;cases h
 rw [if_neg h1] at h
 by_cases h2:P.iO (P.eAt ps) ps.length 0≠0
 ·rw [if_pos h2] at h;exact absurd h h2
 simp only [ne_eq,Classical.not_not] at h2
 have key:∀ n i,i≤n→i<ps.length→P.eAt ps i=0:=by
  intro n
  induction n with
  | zero =>
   intro i hi hil
   by_cases h4:P.eAt ps i=0
   ·exact h4
   ·exact absurd (P.i5 (n:=ps.length) (k:=0) (by omega) (by omega) (fun j _ hj=>by omega) h4) (by rw [h2];exact fun h5=>h4 h5.symm)
  | succ n ih =>
   intro i hi hil
   by_cases h4:P.eAt ps i=0
   ·exact h4
   ·exact absurd (P.i5 (n:=ps.length) (k:=0) (by omega) (by omega) (fun j _ hj=>ih j (by omega) (by omega)) h4) (by rw [h2];exact fun h5=>h4 h5.symm)
 intro i hi
 have:=key i i (yar _) hi
 rw [P.Fc hi] at this
 by_cases h4:P.gC ps[i]=false
 ·rw [if_pos h4] at this;cases this
 ·simpa [P.gC] using h4
theorem xZ {ps:List aH} {rs:List P.Road} (hF:gK ps rs) {p:Int} {x:aH} (h:fU ps p=some x):0≤x.num∧x.num<64:=by
 obtain ⟨k,hk,_,rfl,hkind⟩:=pI h
 have h1:=Pe hF.ok k hk
 unfold P.lF at h1
 omega
theorem eA {h:List Blk} {g:Nat→Option Nat} {r:Rf} {s:List V} (hs:s=r.enc):aG h g (.agg s)∧wk (.agg r.enc) (bD h g (.agg s)):=by
 subst hs
 exact ⟨⟨trivial,trivial,trivial,trivial,trivial,trivial,trivial,trivial,(dR _ nA).1⟩,⟨rfl,rfl,rfl,rfl,⟨rfl,rfl⟩,rfl,rfl,rfl,(dR _ nA).2⟩⟩
theorem Vq {r:Rf} (h:r.sg.length=16):yac 24 (.i r.place::.i r.n::.i r.win::.i r.sent::P.li r.cut::.i r.lo::.i r.hi::.i r.serial::us r.sg)=r.enc:=yah (by simp [fL,h])
set_option maxHeartbeats 1000000 in
theorem akI (ring:List Ky) (ps:List aH) (rs:List P.Road) (r:Rf) (hF:gK ps rs) (hr:r.Ok) (hR:Bi ring) (hl:ring.length≤1000000) (hsg:r.sg.length=16):Ok 16 [bK ring,P.bF ps rs,.agg r.enc] (Is (.i (Wx ring ps r))):=by
 refine ok_of lw16 (by simp) ?_
 have o34:=aaK ps rs r.place (by have:=hF.pl;omega)
 have hser:=hr.n7 r.serial (by simp)
 obtain ⟨u1,u2,u3⟩:=Du hsg
 unfold c16 P.bF Rf.enc
 simp -implicitDefEqProofs only [rX,↓rY,aA,cells?,↓reduceIte,Nat.reduceEqDiff,Nat.reduceAdd,reduceCtorEq,aC,aK]
 unfold Wx
 cases hs:fU ps r.place with
 | none =>
  rw [hs] at o34
  refine aE o34 ⟨⟨bB.1,trivial,trivial⟩,bB.2,rfl,trivial⟩ rfl trivial ?_
  simp -implicitDefEqProofs only [rX,↓rY,aA,cells?,splice,↓reduceIte,Nat.reduceEqDiff,Nat.reduceAdd,aC,aL,aM,wfV,isC,aQ,P.aH.enc,zSp,yaj]
 | some x =>
  rw [hs] at o34
  have hnum:=xZ hF hs
  have o58:=ajM ring (1000+x.num) r.serial 410 (partsOf r) r.sg r.lo r.hi hR hl ⟨by omega,hser⟩ hsg (fun k hk=>Ea (by have:=(hR.ok k hk).2.2.1;omega) hr)
  refine aE o34 ⟨⟨bB.1,trivial,trivial⟩,bB.2,rfl,trivial⟩ rfl trivial ?_
  simp -implicitDefEqProofs only [rX,↓rY,rdK,aA,cells?,splice,↓reduceIte,Nat.reduceEqDiff,Nat.reduceAdd,reduceCtorEq,aC,isC,Nat.reduceLeDiff,aQ,aJ,P.aH.enc,yav,fL,u2,hsg,Vq hsg]
  refine ⟨⟨by simp only [lo];omega,by simp only [Fx.hi];omega⟩,?_⟩
  refine aE (adN r hr) ⟨⟨(eA rfl).1,trivial⟩,(eA rfl).2,trivial⟩ rfl trivial ?_
  simp -implicitDefEqProofs only [rX,aA,↓reduceIte,Nat.reduceEqDiff,aJ]
  refine aE o58 ⟨⟨trivial,trivial,trivial,trivial,trivial,(dR _ nA).1,⟨trivial,trivial,trivial⟩,trivial⟩,⟨rfl,rfl⟩,rfl,rfl,rfl,⟨rfl,rfl⟩,(dR _ nA).2,⟨rfl,rfl,trivial⟩,trivial⟩ rfl trivial ?_
  simp -implicitDefEqProofs only [rX,↓reduceIte,aL,aM,wfV]
set_option maxRecDepth 20000
open Go.Fx.P (Arc aH)
theorem ajR (ps:List aH) (rs:List P.Road) (fr:P.Fr) (i:Nat) (hi:i<ps.length) (hl:ps.length≤fr.flow.length):Ok 47 [P.bF ps rs,fr.enc,.i i] (Is (.i (fr.flow.getD i 0))):=by
 refine ok_of lw47 (by simp) ?_
 unfold c47 P.bF P.sps P.rds P.Fr.enc P.li
 simp -implicitDefEqProofs only [rX,↓rY,aA,cells?,↓reduceIte,Nat.reduceEqDiff,Nat.reduceAdd,reduceCtorEq,aC,aL,aM,wfV,yaf,yaa,P.bW,aK]
 simp only [br,decide_eq_true_eq,decide_eq_false_iff_not,yaa]
 have e:fr.flow.getD i 0=fr.flow[i]'(by omega):=by rw [yam,yab (by omega),Option.getD_some]
 rw [yam] at e
 rw [e]
 exact ⟨fun h=>absurd h (by omega),fun _ _=>⟨fun h=>absurd h (by omega),fun _=>⟨⟨by omega,by omega⟩,by omega,rfl⟩⟩⟩
theorem ajX (l:List Int) (hl:l.length≤1000000):Ok 39 [P.li l] (Is (P.li l)):=by
 refine oU (ok_of lw39 (by simp) ?_)
 unfold c39 P.li
 simp -implicitDefEqProofs only [rX,↓rY,aA,↓reduceIte,Nat.reduceEqDiff,reduceCtorEq,aC,bZ,bO,bE,kill,St.kill,aQ,aJ,aK]
 refine ⟨fun _=>⟨.inr trivial,by omega,Ee rfl rfl (by simp)⟩,fun he=>⟨?_,.inr trivial,by omega,Ee rfl rfl (by simp)⟩⟩
 rw [he]
 exact Vr rfl
theorem u16:us z16=[.v (.int .u8 0),.v (.int .u8 0),.v (.int .u8 0),.v (.int .u8 0),.v (.int .u8 0),.v (.int .u8 0),.v (.int .u8 0),.v (.int .u8 0),.v (.int .u8 0),.v (.int .u8 0),.v (.int .u8 0),.v (.int .u8 0),.v (.int .u8 0),.v (.int .u8 0),.v (.int .u8 0),.v (.int .u8 0)]:=by
 unfold us z16;rfl
theorem ahT {x0 x1 x2 x3 x4 x5 x6 x7 x8 x9 x10 x11 x12 x13 x14 x15 x16 x17 x18 x19 x20 x21 x22 x23:V}:yac 24 [x0,x1,x2,x3,x4,x5,x6,x7,x8,x9,x10,x11,x12,x13,x14,x15,x16,x17,x18,x19,x20,x21,x22,x23]=[x0,x1,x2,x3,x4,x5,x6,x7,x8,x9,x10,x11,x12,x13,x14,x15,x16,x17,x18,x19,x20,x21,x22,x23]:=rfl
theorem uW {x0 x1 x2 x3 x4 x5 x6 x7 x8 x9 x10 x11 x12 x13 x14 x15 x16 x17 x18 x19 x20 x21 x22 x23:V} {r:List V}:List.drop 24 (x0::x1::x2::x3::x4::x5::x6::x7::x8::x9::x10::x11::x12::x13::x14::x15::x16::x17::x18::x19::x20::x21::x22::x23::r)=r:=rfl
theorem Dt {M:Nat→Bool} {h:List Blk}:∀ {l:List V},(∀ x∈l,∃ u,x=.v u)→wkL l (gvL M h l)
 | [],_=>trivial
 | x::r,q=>by
  obtain ⟨u,rfl⟩:=q x yay
  exact ⟨rfl,Dt fun y hy=>q y (yas _ hy)⟩
def zRf:Rf:=⟨0,0,0,0,[],0,0,0,z16⟩
def rf0 (k:Ky) (fr:P.Fr) (place n w a b:Int):Rf:=⟨place,n,w,fr.sent,fr.cut,a,b,k.serial,z16⟩
def rf1 (k:Ky) (fr:P.Fr) (place n w a b:Int):Rf:={ rf0 k fr place n w a b with sg:=fQ k 410 (partsOf (rf0 k fr place n w a b)) }
theorem eZ {h:List Blk} {g:Nat→Option Nat} {fr:P.Fr}:aG h g (.agg [.i fr.sent,.i fr.cost,P.li fr.flow,P.li fr.price,P.li fr.cut])∧wk fr.enc (bD h g (.agg [.i fr.sent,.i fr.cost,P.li fr.flow,P.li fr.price,P.li fr.cut])):=⟨⟨trivial,trivial,trivial,trivial,trivial,trivial⟩,⟨rfl,rfl,⟨rfl,rfl⟩,⟨rfl,rfl⟩,⟨rfl,rfl⟩,trivial⟩⟩
theorem Np {ps:List aH} {rs:List P.Road} {fr:P.Fr} (hF:gK ps rs) (h:P.oK ps rs fr=0):P.K.OkAc (P.nN ps) (P.cK ps rs) 0 1 (P.dem ps) fr∧ps.length≤fr.flow.length:=by
 have hc:=hF.ok
 unfold P.oK P.K.accI at h
 rw [if_neg (by simp [hc])] at h
 by_cases hA:P.K.OkAc (P.nN ps) (P.cK ps rs) 0 1 (P.dem ps) fr
 ·refine ⟨hA,?_⟩
  rw [hA.fl.hl]
  unfold P.cK P.nA4 P.nA3
  simp only [yaq,P.xD]
  omega
 ·rw [if_neg hA] at h;cases h
def oL (k:Ky) (ps:List aH) (place n w a b:Int):Prop:=∃ x,fU ps place=some x∧KyP k∧k.party=1000+x.num∧PeP a b∧pS w=true∧0≤n∧n<x.cap
open Classical in
noncomputable def mkE (k:Ky) (ps:List aH) (rs:List P.Road) (fr:P.Fr) (place n w a b:Int):Int :=
 if oL k ps place n w a b then if P.oK ps rs fr=0 then if n<fr.flow.getD place.toNat 0 then 4 else 0 else 110 else 1
open Classical in
noncomputable def mkR (k:Ky) (ps:List aH) (rs:List P.Road) (fr:P.Fr) (place n w a b:Int):Rf:=if mkE k ps rs fr place n w a b=0 then rf1 k fr place n w a b else zRf
theorem He {k:Ky} {ps:List aH} {rs:List P.Road} {fr:P.Fr} {place n w a b:Int} (h:¬oL k ps place n w a b):mkE k ps rs fr place n w a b=1∧mkR k ps rs fr place n w a b=zRf:=by
 have e:mkE k ps rs fr place n w a b=1:=by unfold mkE;rw [if_neg h]
 exact ⟨e,by unfold mkR;rw [e,if_neg (by decide)]⟩
theorem Ek {k:Ky} {ps:List aH} {rs:List P.Road} {fr:P.Fr} {place n w a b:Int} (h:oL k ps place n w a b) (h2:P.oK ps rs fr≠0):mkE k ps rs fr place n w a b=110∧mkR k ps rs fr place n w a b=zRf:=by
 have e:mkE k ps rs fr place n w a b=110:=by unfold mkE;rw [if_pos h,if_neg h2]
 exact ⟨e,by unfold mkR;rw [e,if_neg (by decide)]⟩
theorem aaN {k:Ky} {ps:List aH} {rs:List P.Road} {fr:P.Fr} {place n w a b:Int} (h:oL k ps place n w a b) (h2:P.oK ps rs fr=0) (h3:n<fr.flow.getD place.toNat 0):mkE k ps rs fr place n w a b=4∧mkR k ps rs fr place n w a b=zRf:=by
 have e:mkE k ps rs fr place n w a b=4:=by unfold mkE;rw [if_pos h,if_pos h2,if_pos h3]
 exact ⟨e,by unfold mkR;rw [e,if_neg (by decide)]⟩
theorem Vy {k:Ky} {ps:List aH} {rs:List P.Road} {fr:P.Fr} {place n w a b:Int} (h:oL k ps place n w a b) (h2:P.oK ps rs fr=0) (h3:¬n<fr.flow.getD place.toNat 0):mkE k ps rs fr place n w a b=0∧mkR k ps rs fr place n w a b=rf1 k fr place n w a b:=by
 have e:mkE k ps rs fr place n w a b=0:=by unfold mkE;rw [if_pos h,if_pos h2,if_neg h3]
 exact ⟨e,by unfold mkR;rw [e,if_pos rfl]⟩
set_option maxHeartbeats 4000000 in
theorem Vx (k:Ky) (ps:List aH) (rs:List P.Road) (fr:P.Fr) (place n w a b:Int) (hF:gK ps rs) (hr:(rf0 k fr place n w a b).Ok) (hsec:k.sec.length≤1000) :
  Ok 10 [.agg k.enc,P.bF ps rs,fr.enc,.i place,.i n,.i w,.agg [.i a,.i b]] (Is (.tup [.agg (mkR k ps rs fr place n w a b).enc,.i (mkE k ps rs fr place n w a b)])):=by
 refine oU (ok_of lw10 (by simp) ?_)
 have o34:=aaK ps rs place (by have:=hF.pl;omega)
 unfold c10 P.bF Ky.enc P.Fr.enc
 simp -implicitDefEqProofs only [rX,↓rY,aA,cells?,↓reduceIte,Nat.reduceEqDiff,Nat.reduceAdd,reduceCtorEq,aC,aK]
 have zret:∀ (e:Env) (h:List Blk) (b:Nat) (E:Int),get e 14=.ptr 4 0 0→h[4]?=some (.var [.i 0,.i 0,.i 0,.i 0,.v (.slice none 0 0),.i 0,.i 0,.i 0,.v (.int .u8 0),.v (.int .u8 0),.v (.int .u8 0),.v (.int .u8 0),.v (.int .u8 0),.v (.int .u8 0),.v (.int .u8 0),.v (.int .u8 0),.v (.int .u8 0),.v (.int .u8 0),.v (.int .u8 0),.v (.int .u8 0),.v (.int .u8 0),.v (.int .u8 0),.v (.int .u8 0),.v (.int .u8 0)])→get e 15=.i E →
   eL [] 0 [.cell 14 (some 24),.tmp 15] (Gv (.tup [.agg zRf.enc,.i E])) ⟨e,h,b⟩:=by
  intro e h b E h1 h2 h3
  refine mD ?_
  simp -implicitDefEqProofs only [rX,↓rY,Nat.reduceAdd,aL,aM,wfV,wfL,h1,h2,h3,zRf,Rf.enc,P.li,u16]
  exact ⟨by simp [wfL,wfV],by simp [Gv,gvV,gvL,wk,wkL,wkR]⟩
 cases hs:fU ps place with
 | none =>
  rw [hs] at o34
  have hno:¬oL k ps place n w a b:=by rintro ⟨x,hx,_⟩;rw [hs] at hx;cases hx
  rw [(He hno).1,(He hno).2]
  refine aE o34 ⟨⟨bB.1,trivial,trivial⟩,bB.2,rfl,trivial⟩ rfl trivial ?_
  simp -implicitDefEqProofs only [rX,↓rY,aA,cells?,splice,↓reduceIte,Nat.reduceEqDiff,Nat.reduceAdd,aC,bH,isC,aQ,P.aH.enc,zSp,yaj]
  exact zret _ _ _ 1 rfl rfl rfl
 | some x =>
  rw [hs] at o34
  refine aE o34 ⟨⟨bB.1,trivial,trivial⟩,bB.2,rfl,trivial⟩ rfl trivial ?_
  simp -implicitDefEqProofs only [rX,↓rY,aA,cells?,splice,↓reduceIte,Nat.reduceEqDiff,Nat.reduceAdd,aC,isC,aQ,P.aH.enc,yav]
  have bad:∀ (e:Env) (h:List Blk) (b':Nat),¬oL k ps place n w a b→get e 14=.ptr 4 0 0→h[4]?=some (.var [.i 0,.i 0,.i 0,.i 0,.v (.slice none 0 0),.i 0,.i 0,.i 0,.v (.int .u8 0),.v (.int .u8 0),.v (.int .u8 0),.v (.int .u8 0),.v (.int .u8 0),.v (.int .u8 0),.v (.int .u8 0),.v (.int .u8 0),.v (.int .u8 0),.v (.int .u8 0),.v (.int .u8 0),.v (.int .u8 0),.v (.int .u8 0),.v (.int .u8 0),.v (.int .u8 0),.v (.int .u8 0)])→get e 15=.i 1 →
    eL [] 0 [.cell 14 (some 24),.tmp 15] (Gv (.tup [.agg (mkR k ps rs fr place n w a b).enc,.i (mkE k ps rs fr place n w a b)])) ⟨e,h,b'⟩:=by
   intro e h b' hno h1 h2 h3
   rw [(He hno).1,(He hno).2]
   exact zret e h b' 1 h1 h2 h3
  have hA:∀ {q:Prop},(oL k ps place n w a b→q)→¬q→¬oL k ps place n w a b:=fun f g h=>g (f h)
  have arg:oL k ps place n w a b→KyP k∧k.party=1000+x.num∧PeP a b∧pS w=true∧0≤n∧n<x.cap:=by
   rintro ⟨y,hy,q⟩
   rw [hs] at hy;cases hy;exact q
  have hnum:=xZ hF hs
  obtain ⟨pk,hpk,rfl,hpx,hkind⟩:=pI hs
  refine aE (ajZ k) ⟨⟨eY.1,trivial⟩,eY.2,trivial⟩ rfl trivial ?_
  cases d1:kyB k with
  | false =>
   have d1':=of_decide_eq_false d1
   simp -implicitDefEqProofs only [rX,↓rY,aA,cells?,splice,↓reduceIte,Nat.reduceEqDiff,Nat.reduceAdd,bH,isC,aQ]
   exact bad _ _ _ (hA arg fun q=>d1' q.1) rfl rfl rfl
  | true =>
  have d1':KyP k:=of_decide_eq_true d1
  simp -implicitDefEqProofs only [rX,↓rY,aA,cells?,splice,↓reduceIte,Nat.reduceEqDiff,Nat.reduceAdd,bH,isC,aQ]
  refine ⟨⟨by simp only [lo];omega,by simp only [Fx.hi];omega⟩,?_⟩
  cases d2:(k.party != 1000+x.num) with
  | true =>
   have d2':=bne_iff_ne.1 d2
   simp -implicitDefEqProofs only [↓rY]
   exact bad _ _ _ (hA arg fun q=>d2' q.2.1) rfl rfl rfl
  | false =>
  have d2':k.party=1000+x.num:=by simpa using d2
  simp -implicitDefEqProofs only [↓rY]
  refine aE (ajY a b) ⟨⟨⟨trivial,trivial,trivial⟩,trivial⟩,⟨rfl,rfl,trivial⟩,trivial⟩ rfl trivial ?_
  cases d3:peB a b with
  | false =>
   have d3':=of_decide_eq_false d3
   simp -implicitDefEqProofs only [rX,↓rY,aA,cells?,splice,↓reduceIte,Nat.reduceEqDiff,Nat.reduceAdd,bH,isC,aQ]
   exact bad _ _ _ (hA arg fun q=>d3' q.2.2.1) rfl rfl rfl
  | true =>
  have d3':PeP a b:=of_decide_eq_true d3
  simp -implicitDefEqProofs only [rX,↓rY,↓reduceIte,Nat.reduceEqDiff,reduceCtorEq]
  refine aE (adQ w) ⟨⟨trivial,trivial⟩,rfl,trivial⟩ rfl trivial ?_
  cases d4:pS w with
  | false =>
   simp -implicitDefEqProofs only [rX,↓rY,aA,cells?,splice,↓reduceIte,Nat.reduceEqDiff,Nat.reduceAdd,bH,isC,aQ]
   exact bad _ _ _ (hA arg fun q=>by rw [d4] at q;exact absurd q.2.2.2.1 (by simp)) rfl rfl rfl
  | true =>
  simp -implicitDefEqProofs only [rX,↓rY,aA,cells?,splice,↓reduceIte,Nat.reduceEqDiff,Nat.reduceAdd,reduceCtorEq,bH,isC,aQ]
  cases d5:decide (n<0) with
  | true =>
   have d5':=of_decide_eq_true d5
   simp -implicitDefEqProofs only [↓rY]
   exact bad _ _ _ (hA arg fun q=>by omega) rfl rfl rfl
  | false =>
  have d5':=of_decide_eq_false d5
  simp -implicitDefEqProofs only [↓rY]
  cases d6:decide (x.cap≤n) with
  | true =>
   have d6':=of_decide_eq_true d6
   simp -implicitDefEqProofs only [↓rY]
   exact bad _ _ _ (hA arg fun q=>by omega) rfl rfl rfl
  | false =>
  have d6':=of_decide_eq_false d6
  have hArg:oL k ps (pk:Int) n w a b:=⟨x,hs,d1',d2',d3',d4,by omega,by omega⟩
  simp -implicitDefEqProofs only [↓rY]
  by_cases h2:P.oK ps rs fr=0
  ·have hfl:=(Np hF h2).2
   refine aE (P.adP ps rs fr) ⟨⟨bB.1,eZ.1,trivial⟩,bB.2,eZ.2,trivial⟩ rfl trivial ?_
   simp -implicitDefEqProofs only [rX,↓rY,aA,cells?,splice,↓reduceIte,Nat.reduceEqDiff,Nat.reduceAdd,reduceCtorEq,bH,isC,aQ,h2,bne_self_eq_false]
   refine aE (P.akB ps rs fr pk hpk hfl) ⟨⟨bB.1,eZ.1,trivial,trivial⟩,bB.2,eZ.2,rfl,trivial⟩ rfl trivial ?_
   cases d7:decide (n<fr.flow.getD pk 0) with
   | true =>
    have d7':=of_decide_eq_true d7
    obtain ⟨e1,e2⟩:=aaN hArg h2 (by rw [yaa];exact d7')
    rw [e1,e2]
    rw [yam] at d7
    simp -implicitDefEqProofs only [rX,↓rY,aA,cells?,splice,↓reduceIte,Nat.reduceEqDiff,Nat.reduceAdd,bH,isC,aQ,d7]
    exact zret _ _ _ 4 rfl rfl rfl
   | false =>
    have d7':=of_decide_eq_false d7
    obtain ⟨e1,e2⟩:=Vy hArg h2 (by rw [yaa];exact d7')
    rw [e1,e2]
    rw [yam] at d7
    simp -implicitDefEqProofs only [rX,↓rY,rdK,aA,cells?,↓reduceIte,Nat.reduceEqDiff,Nat.reduceAdd,reduceCtorEq,aC,aJ,d7]
    have hz:[.i (pk:Int),.i n,.i w,.i fr.sent,P.li fr.cut,.i a,.i b,.i k.serial,.v (.int .u8 0),.v (.int .u8 0),.v (.int .u8 0),.v (.int .u8 0),.v (.int .u8 0),.v (.int .u8 0),.v (.int .u8 0),.v (.int .u8 0),.v (.int .u8 0),.v (.int .u8 0),.v (.int .u8 0),.v (.int .u8 0),.v (.int .u8 0),.v (.int .u8 0),.v (.int .u8 0),.v (.int .u8 0)]=(rf0 k fr (pk:Int) n w a b).enc:=by unfold Rf.enc rf0;simp only [u16]
    have o41:=adN (rf0 k fr (pk:Int) n w a b) hr
    have o39:=ajX fr.cut hr.len
    have o40:=adO k 410 (partsOf (rf0 k fr (pk:Int) n w a b)) (Ea hsec hr)
    obtain ⟨v1,v2,v3⟩:=Du (dA (k:=k) (tag:=410) (l:=partsOf (rf0 k fr (pk:Int) n w a b)))
    have hv:∀ {c0 c1 c2 c3 c4 c5 c6 c7:V},yac 24 (c0::c1::c2::c3::c4::c5::c6::c7::us (fQ k 410 (partsOf (rf0 k fr (pk:Int) n w a b))))=c0::c1::c2::c3::c4::c5::c6::c7::us (fQ k 410 (partsOf (rf0 k fr (pk:Int) n w a b))):=yah (by simp [v1])
    simp only [P.li] at hz o39 ⊢
    refine ⟨?_,?_⟩
    all_goals
     refine aE o39 ⟨⟨trivial,trivial⟩,⟨rfl,rfl⟩,trivial⟩ rfl trivial ?_
     simp -implicitDefEqProofs only [rX,↓rY,rdK,aA,cells?,splice,↓reduceIte,Nat.reduceEqDiff,Nat.reduceAdd,aC,bH,isC,Nat.reduceLeDiff,aJ,ahT,uW]
     refine aE o41 ⟨⟨(eA hz).1,trivial⟩,(eA hz).2,trivial⟩ rfl trivial ?_
     simp -implicitDefEqProofs only [rX,aA,↓reduceIte,Nat.reduceEqDiff,aJ]
     refine aE o40 ⟨⟨eY.1,trivial,trivial,trivial⟩,eY.2,rfl,⟨rfl,rfl⟩,trivial⟩ (by simp [ren,f9]) trivial ?_
     simp -implicitDefEqProofs only [rX,↓rY,aA,cells?,splice,↓reduceIte,Nat.reduceEqDiff,Nat.reduceAdd,isC,Nat.reduceLeDiff,aQ,aJ,uW,v1,tY,hv]
     refine mD ?_
     simp -implicitDefEqProofs only [rX,↓rY,↓reduceIte,Nat.reduceEqDiff,Nat.reduceAdd,aL,aM,wfV,wfL,v1,hv,cX]
     exact ⟨⟨rfl,rfl,rfl,rfl,⟨rfl,rfl⟩,rfl,rfl,rfl,Dt nA⟩,rfl,trivial⟩
  ·have h2':(P.oK ps rs fr != 0)=true:=bne_iff_ne.2 h2
   refine aE (P.adP ps rs fr) ⟨⟨bB.1,eZ.1,trivial⟩,bB.2,eZ.2,trivial⟩ rfl trivial ?_
   simp -implicitDefEqProofs only [rX,↓rY,aA,cells?,splice,↓reduceIte,Nat.reduceEqDiff,Nat.reduceAdd,reduceCtorEq,bH,isC,aQ,h2']
   rw [(Ek hArg h2).1,(Ek hArg h2).2]
   exact zret _ _ _ 110 rfl rfl rfl
set_option maxRecDepth 20000
open Go.Fx.P (Arc aH)
theorem Pi (ps:List aH) (rs:List P.Road) (fr:P.Fr):P.oK ps rs fr=P.Ju ps rs fr:=by
 unfold P.oK P.Ju
 by_cases h:P.fI ps rs=0
 ·simp [h]
 ·simp [h]
theorem ahS {x0 x1 x2 x3 x4 x5 x6 x7 x8 x9 x10 x11 x12 x13 x14 x15 x16 x17 x18 x19 x20 x21 x22 x23 x24:V}:yac 25 [x0,x1,x2,x3,x4,x5,x6,x7,x8,x9,x10,x11,x12,x13,x14,x15,x16,x17,x18,x19,x20,x21,x22,x23,x24]=[x0,x1,x2,x3,x4,x5,x6,x7,x8,x9,x10,x11,x12,x13,x14,x15,x16,x17,x18,x19,x20,x21,x22,x23,x24]:=rfl
theorem Fd {x0 x1 x2 x3 x4 x5 x6 x7 x8 x9 x10 x11 x12 x13 x14 x15 x16 x17 x18 x19 x20 x21 x22 x23 x24:V} {r:List V}:List.drop 25 (x0::x1::x2::x3::x4::x5::x6::x7::x8::x9::x10::x11::x12::x13::x14::x15::x16::x17::x18::x19::x20::x21::x22::x23::x24::r)=r:=rfl
theorem vC {x0 x1 x2 x3 x4 x5 x6 x7 x8 x9 x10 x11 x12 x13 x14 x15 x16 x17 x18 x19 x20 x21 x22 x23:V} {r:List V}:yac 24 (x0::x1::x2::x3::x4::x5::x6::x7::x8::x9::x10::x11::x12::x13::x14::x15::x16::x17::x18::x19::x20::x21::x22::x23::r)=[x0,x1,x2,x3,x4,x5,x6,x7,x8,x9,x10,x11,x12,x13,x14,x15,x16,x17,x18,x19,x20,x21,x22,x23]:=rfl
theorem Fz {l:Bs} {v:Value}:∀ x∈us l++[.v v],∃ u,x=V.v u:=fun x hx=>(yaG.1 hx).elim (nA x) fun h=>⟨v,yaH.1 h⟩
theorem Lq {q:List Blk}:∀ {l:List V},(∀ x∈l,∃ u,x=.v u)→wfL q l
 | [],_=>trivial
 | x::r,h=>by
  obtain ⟨u,rfl⟩:=h x yay
  exact ⟨trivial,Lq fun y hy=>h y (yas _ hy)⟩
def Sq:Nat→List Nat→LCode→LCode
 | 0,xs,c=>.frz xs c
 | n+1,xs,.seq a b=>.seq a (Sq n xs b)
 | _,_,c=>c
def c11f:LCode:=Sq 8 [85] c11
theorem lw11f:rlF Tryz.prog 11 c11f=some (c11f,[.cell 14 (some 25)],97):=by kernel_rfl
set_option maxHeartbeats 4000000 in
theorem akK (k:Ky) (ps:List aH) (rs:List P.Road) (fr:P.Fr) (place n w a b:Int) (hF:gK ps rs) (hr:(rf0 k fr place n w a b).Ok) (hsec:k.sec.length≤1000) :
  Ok 11 [.agg k.enc,P.bF ps rs,fr.enc,.i place,.i n,.i w,.agg [.i a,.i b]] (Is (.agg ((mkR k ps rs fr place n w a b).enc++[.i (mkE k ps rs fr place n w a b)]))):=by
 refine oU (ok_of lw11f (by simp) ?_)
 have o44:=ajU ps rs place (by have:=hF.pl;omega)
 unfold c11f c11 P.bF Ky.enc P.Fr.enc
 simp -implicitDefEqProofs only [rX,↓rY,Sq,aA,cells?,↓reduceIte,Nat.reduceEqDiff,Nat.reduceAdd,reduceCtorEq,aC,aK]
 have zret:∀ (e:Env) (h:List Blk) (b:Nat) (E:Int),get e 14=.ptr 4 0 0→h[4]?=some (.var [.i 0,.i 0,.i 0,.i 0,.v (.slice none 0 0),.i 0,.i 0,.i 0,.v (.int .u8 0),.v (.int .u8 0),.v (.int .u8 0),.v (.int .u8 0),.v (.int .u8 0),.v (.int .u8 0),.v (.int .u8 0),.v (.int .u8 0),.v (.int .u8 0),.v (.int .u8 0),.v (.int .u8 0),.v (.int .u8 0),.v (.int .u8 0),.v (.int .u8 0),.v (.int .u8 0),.v (.int .u8 0),.i E]) →
   eL [] 0 [.cell 14 (some 25)] (Gv (.agg (zRf.enc++[.i E]))) ⟨e,h,b⟩:=by
  intro e h b E h1 h2
  refine mD ?_
  simp -implicitDefEqProofs only [rX,↓rY,Nat.reduceAdd,aL,aM,wfV,wfL,h1,h2,zRf,Rf.enc,P.li,u16,ahS]
  simp [Gv,gvV,gvL,wk,wkL,wkR]
 refine aE (ajW k) ⟨⟨eY.1,trivial⟩,eY.2,trivial⟩ rfl trivial ?_
 simp -implicitDefEqProofs only [rX,↓rY,↓reduceIte,Nat.reduceEqDiff,Nat.reduceAdd]
 refine aE (ajV a b) ⟨⟨⟨trivial,trivial,trivial⟩,trivial⟩,⟨rfl,rfl,trivial⟩,trivial⟩ rfl trivial ?_
 simp -implicitDefEqProofs only [rX,↓rY,rdK,↓reduceIte,Nat.reduceEqDiff,Nat.reduceAdd,reduceCtorEq,aJ]
 cases hs:fU ps place with
 | none =>
  rw [hs] at o44
  have hno:¬oL k ps place n w a b:=by rintro ⟨x,hx,_⟩;rw [hs] at hx;cases hx
  rw [(He hno).1,(He hno).2]
  refine aE o44 ⟨⟨bB.1,trivial,trivial⟩,bB.2,rfl,trivial⟩ rfl trivial ?_
  simp -implicitDefEqProofs only [rX,↓rY,rdK,aA,cells?,splice,↓reduceIte,Nat.reduceEqDiff,Nat.reduceAdd,bH,isC,aQ,yaj,vC,Fd]
  exact zret _ _ _ 1 rfl rfl
 | some x =>
  rw [hs] at o44
  refine aE o44 ⟨⟨bB.1,trivial,trivial⟩,bB.2,rfl,trivial⟩ rfl trivial ?_
  have bad:∀ (e:Env) (h:List Blk) (b':Nat),¬oL k ps place n w a b→get e 14=.ptr 4 0 0→h[4]?=some (.var [.i 0,.i 0,.i 0,.i 0,.v (.slice none 0 0),.i 0,.i 0,.i 0,.v (.int .u8 0),.v (.int .u8 0),.v (.int .u8 0),.v (.int .u8 0),.v (.int .u8 0),.v (.int .u8 0),.v (.int .u8 0),.v (.int .u8 0),.v (.int .u8 0),.v (.int .u8 0),.v (.int .u8 0),.v (.int .u8 0),.v (.int .u8 0),.v (.int .u8 0),.v (.int .u8 0),.v (.int .u8 0),.i 1]) →
    eL [] 0 [.cell 14 (some 25)] (Gv (.agg ((mkR k ps rs fr place n w a b).enc++[.i (mkE k ps rs fr place n w a b)]))) ⟨e,h,b'⟩:=by
   intro e h b' hno h1 h2
   rw [(He hno).1,(He hno).2]
   exact zret e h b' 1 h1 h2
  have hA:∀ {q:Prop},(oL k ps place n w a b→q)→¬q→¬oL k ps place n w a b:=fun f g h=>g (f h)
  have arg:oL k ps place n w a b→KyP k∧k.party=1000+x.num∧PeP a b∧pS w=true∧0≤n∧n<x.cap:=by
   rintro ⟨y,hy,q⟩
   rw [hs] at hy;cases hy;exact q
  have hnum:=xZ hF hs
  obtain ⟨pk,hpk,rfl,hpx,hkind⟩:=pI hs
  have bk:0≤(pk:Int)∧(pk:Int)<(ps.length:Int):=by omega
  simp -implicitDefEqProofs only [rX,↓rY,rdK,aA,cells?,splice,↓reduceIte,Nat.reduceEqDiff,Nat.reduceAdd,reduceCtorEq,bH,isC,aQ,aJ,yav,vC,Fd]
  cases d1:kyB k with
  | false =>
   have d1':=of_decide_eq_false d1
   simp -implicitDefEqProofs only [rX,↓rY]
   exact bad _ _ _ (hA arg fun q=>d1' q.1) rfl rfl
  | true =>
  have d1':KyP k:=of_decide_eq_true d1
  simp -implicitDefEqProofs only [rX,↓rY,yaf,yaa,P.sps,yab hpk,P.Qh,hpx]
  refine ⟨bk,hpk,⟨by simp only [lo];omega,by simp only [Fx.hi];omega⟩,?_⟩
  cases d2:(k.party != 1000+x.num) with
  | true =>
   have d2':=bne_iff_ne.1 d2
   simp -implicitDefEqProofs only [↓rY]
   exact bad _ _ _ (hA arg fun q=>d2' q.2.1) rfl rfl
  | false =>
  have d2':k.party=1000+x.num:=by simpa using d2
  simp -implicitDefEqProofs only [↓rY]
  cases d3:peB a b with
  | false =>
   have d3':=of_decide_eq_false d3
   simp -implicitDefEqProofs only [rX,↓rY]
   exact bad _ _ _ (hA arg fun q=>d3' q.2.2.1) rfl rfl
  | true =>
  have d3':PeP a b:=of_decide_eq_true d3
  simp -implicitDefEqProofs only [rX,↓rY]
  refine aE (ajT w) ⟨⟨trivial,trivial⟩,rfl,trivial⟩ rfl trivial ?_
  cases d4:pS w with
  | false =>
   simp -implicitDefEqProofs only [rX,↓rY,aA,cells?,splice,↓reduceIte,Nat.reduceEqDiff,Nat.reduceAdd,bH,isC,aQ,vC,Fd]
   exact bad _ _ _ (hA arg fun q=>by rw [d4] at q;exact absurd q.2.2.2.1 (by simp)) rfl rfl
  | true =>
  simp -implicitDefEqProofs only [rX,↓rY,aA,cells?,splice,↓reduceIte,Nat.reduceEqDiff,Nat.reduceAdd,reduceCtorEq,bH,isC,yaf,yaa,aQ,vC,Fd]
  cases d5:decide (n<0) with
  | true =>
   have d5':=of_decide_eq_true d5
   simp -implicitDefEqProofs only [↓rY]
   exact bad _ _ _ (hA arg fun q=>by omega) rfl rfl
  | false =>
  have d5':=of_decide_eq_false d5
  simp -implicitDefEqProofs only [rX,↓rY,yab hpk,P.vY,hpx]
  refine ⟨bk,hpk,?_⟩
  cases d6:decide (x.cap≤n) with
  | true =>
   have d6':=of_decide_eq_true d6
   simp -implicitDefEqProofs only [↓rY]
   exact bad _ _ _ (hA arg fun q=>by omega) rfl rfl
  | false =>
  have d6':=of_decide_eq_false d6
  have hArg:oL k ps (pk:Int) n w a b:=⟨x,hs,d1',d2',d3',d4,by omega,by omega⟩
  simp -implicitDefEqProofs only [↓rY]
  have o46:=P.ajS ps rs fr
  rw [←Pi] at o46
  by_cases h2:P.oK ps rs fr=0
  ·have hfl:=(Np hF h2).2
   refine aE o46 ⟨⟨bB.1,eZ.1,trivial⟩,bB.2,eZ.2,trivial⟩ rfl trivial ?_
   simp -implicitDefEqProofs only [rX,↓rY,aA,cells?,splice,↓reduceIte,Nat.reduceEqDiff,Nat.reduceAdd,reduceCtorEq,bH,isC,aQ,h2,bne_self_eq_false,vC,Fd]
   refine aE (ajR ps rs fr pk hpk hfl) ⟨⟨bB.1,eZ.1,trivial,trivial⟩,bB.2,eZ.2,rfl,trivial⟩ rfl trivial ?_
   cases d7:decide (n<fr.flow.getD pk 0) with
   | true =>
    have d7':=of_decide_eq_true d7
    obtain ⟨e1,e2⟩:=aaN hArg h2 (by rw [yaa];exact d7')
    rw [e1,e2]
    rw [yam] at d7
    simp -implicitDefEqProofs only [rX,↓rY,aA,cells?,splice,↓reduceIte,Nat.reduceEqDiff,Nat.reduceAdd,bH,isC,aQ,d7,vC,Fd]
    exact zret _ _ _ 4 rfl rfl
   | false =>
    have d7':=of_decide_eq_false d7
    obtain ⟨e1,e2⟩:=Vy hArg h2 (by rw [yaa];exact d7')
    rw [e1,e2]
    rw [yam] at d7
    have hz:[.i (pk:Int),.i n,.i w,.i fr.sent,.ro 1 (fr.cut.map P.encI),.i a,.i b,.i k.serial,.v (.int .u8 0),.v (.int .u8 0),.v (.int .u8 0),.v (.int .u8 0),.v (.int .u8 0),.v (.int .u8 0),.v (.int .u8 0),.v (.int .u8 0),.v (.int .u8 0),.v (.int .u8 0),.v (.int .u8 0),.v (.int .u8 0),.v (.int .u8 0),.v (.int .u8 0),.v (.int .u8 0),.v (.int .u8 0)]=(rf0 k fr (pk:Int) n w a b).enc:=by unfold Rf.enc rf0 P.li;simp only [u16]
    have o49:=ajP (rf0 k fr (pk:Int) n w a b) hr
    have o48:=ajQ k 410 (partsOf (rf0 k fr (pk:Int) n w a b)) (Ea hsec hr)
    obtain ⟨v1,v2,v3⟩:=Du (dA (k:=k) (tag:=410) (l:=partsOf (rf0 k fr (pk:Int) n w a b)))
    have hv:∀ {c0 c1 c2 c3 c4 c5 c6 c7:V},yac 24 (c0::c1::c2::c3::c4::c5::c6::c7::us (fQ k 410 (partsOf (rf0 k fr (pk:Int) n w a b))))=c0::c1::c2::c3::c4::c5::c6::c7::us (fQ k 410 (partsOf (rf0 k fr (pk:Int) n w a b))):=yah (by simp [v1])
    have hlen:fr.cut.length≤1000000:=hr.len
    have tkc:yac fr.cut.length (yag P.encI fr.cut)=yag P.encI fr.cut:=yah (by simp)
    simp only [P.li]
    simp -implicitDefEqProofs only [rX,↓rY,rdK,aA,cells?,splice,↓reduceIte,Nat.reduceEqDiff,Nat.reduceAdd,reduceCtorEq,aC,bH,bZ,bO,bE,kill,bQ,St.kill,isC,Nat.reduceLeDiff,aJ,d7,vC,uW,abU,An,Ao,So,Ss,Bu,nS,r4,r5,tkc]
    repeat' (with_reducible first|refine And.intro ?_ ?_|exact Or.inr trivial)
    all_goals try omega
    all_goals try trivial
    all_goals
     refine aE o49 ⟨⟨(eA hz).1,trivial⟩,(eA hz).2,trivial⟩ rfl trivial ?_
     simp -implicitDefEqProofs only [rX,aA,↓reduceIte,Nat.reduceEqDiff,aJ]
     refine aE o48 ⟨⟨eY.1,trivial,trivial,trivial⟩,eY.2,rfl,⟨rfl,rfl⟩,trivial⟩ (by simp [ren,f9]) trivial ?_
     simp -implicitDefEqProofs only [rX,↓rY,cells?,splice,↓reduceIte,Nat.reduceEqDiff,Nat.reduceAdd,bH,isC,Nat.reduceLeDiff,aQ,aJ,uW,Fd,v1,tY,hv]
     refine ⟨by simp [tY,isC,isD],mD ?_⟩
     have hv5:∀ {c0 c1 c2 c3 c4 c5 c6 c7 c8:V},yac 25 (c0::c1::c2::c3::c4::c5::c6::c7::(us (fQ k 410 (partsOf (rf0 k fr (pk:Int) n w a b)))++[c8]))=c0::c1::c2::c3::c4::c5::c6::c7::(us (fQ k 410 (partsOf (rf0 k fr (pk:Int) n w a b)))++[c8]):=yah (by simp [v1])
     simp -implicitDefEqProofs only [rX,↓rY,↓reduceIte,Nat.reduceEqDiff,Nat.reduceAdd,aL,aM,wfV,wfL,v1,hv5]
     exact ⟨Lq Fz,⟨rfl,rfl,rfl,rfl,⟨rfl,rfl⟩,rfl,rfl,rfl,Dt Fz⟩⟩
  ·have h2':(P.oK ps rs fr != 0)=true:=bne_iff_ne.2 h2
   refine aE o46 ⟨⟨bB.1,eZ.1,trivial⟩,bB.2,eZ.2,trivial⟩ rfl trivial ?_
   simp -implicitDefEqProofs only [rX,↓rY,aA,cells?,splice,↓reduceIte,Nat.reduceEqDiff,Nat.reduceAdd,reduceCtorEq,bH,isC,aQ,h2',vC,Fd]
   rw [(Ek hArg h2).1,(Ek hArg h2).2]
   exact zret _ _ _ 110 rfl rfl
end Go.Fx.E
namespace Go.Proofs
open Go.Shelf
def Tryz.lays189_ren:Go.Shelf.Ren:=⟨fun|189=>63|125=>85|257=>84|128=>119|129=>120|294=>110|295=>111|296=>112|297=>113|298=>114|299=>115|216=>116|300=>117|301=>118|328=>138|329=>139|330=>140|331=>141|332=>142|215=>143|343=>153|n=>n,fun|28=>28|3=>3|46=>135|0=>0|51=>149|53=>152|4=>4|183=>170|182=>169|131=>166|5=>5|9=>9|218=>198|222=>202|228=>215|229=>107|n=>n,fun|n=>n⟩
theorem Tryz.lays189:Go.Proofs.Lays.n189 Tryz.prog Tryz.lays189_ren:={
 mixed:=by kernel_rfl
 f125:=Tryz.func85.trans (congrArg some (by kernel_rfl))
 f128:=Tryz.func119.trans (congrArg some (by kernel_rfl))
 f129:=Tryz.func120.trans (congrArg some (by kernel_rfl))
 f189:=Tryz.func63.trans (congrArg some (by kernel_rfl))
 f215:=Tryz.func143.trans (congrArg some (by kernel_rfl))
 f216:=Tryz.func116.trans (congrArg some (by kernel_rfl))
 f257:=Tryz.func84.trans (congrArg some (by kernel_rfl))
 f294:=Tryz.func110.trans (congrArg some (by kernel_rfl))
 f295:=Tryz.func111.trans (congrArg some (by kernel_rfl))
 f296:=Tryz.func112.trans (congrArg some (by kernel_rfl))
 f297:=Tryz.func113.trans (congrArg some (by kernel_rfl))
 f298:=Tryz.func114.trans (congrArg some (by kernel_rfl))
 f299:=Tryz.func115.trans (congrArg some (by kernel_rfl))
 f300:=Tryz.func117.trans (congrArg some (by kernel_rfl))
 f301:=Tryz.func118.trans (congrArg some (by kernel_rfl))
 f328:=Tryz.func138.trans (congrArg some (by kernel_rfl))
 f329:=Tryz.func139.trans (congrArg some (by kernel_rfl))
 f330:=Tryz.func140.trans (congrArg some (by kernel_rfl))
 f331:=Tryz.func141.trans (congrArg some (by kernel_rfl))
 f332:=Tryz.func142.trans (congrArg some (by kernel_rfl))
 f343:=Tryz.func153.trans (congrArg some (by kernel_rfl))
 t0:=Tryz.underlying0
 a0:=Tryz.isAgg0
 z0:=Tryz.sizeOf0
 v0:=Tryz.zeroValue0
 t3:=Tryz.underlying3
 a3:=Tryz.isAgg3
 z3:=Tryz.sizeOf3
 v3:=Tryz.zeroValue3
 t4:=Tryz.underlying4
 a4:=Tryz.isAgg4
 z4:=Tryz.sizeOf4
 v4:=Tryz.zeroValue4
 t5:=Tryz.underlying5
 a5:=Tryz.isAgg5
 z5:=Tryz.sizeOf5
 v5:=Tryz.zeroValue5
 t9:=Tryz.underlying9
 a9:=Tryz.isAgg9
 z9:=Tryz.sizeOf9
 v9:=Tryz.zeroValue9
 t28:=Tryz.underlying28
 a28:=Tryz.isAgg28
 z28:=Tryz.sizeOf28
 v28:=Tryz.zeroValue28
 t46:=Tryz.underlying135
 a46:=Tryz.isAgg135
 z46:=Tryz.sizeOf135
 v46:=Tryz.zeroValue135
 t51:=Tryz.underlying149
 a51:=Tryz.isAgg149
 z51:=Tryz.sizeOf149
 v51:=Tryz.zeroValue149
 t53:=Tryz.underlying152
 a53:=Tryz.isAgg152
 z53:=Tryz.sizeOf152
 v53:=Tryz.zeroValue152
 t131:=Tryz.underlying166
 a131:=Tryz.isAgg166
 z131:=Tryz.sizeOf166
 v131:=Tryz.zeroValue166
 t182:=Tryz.underlying169
 a182:=Tryz.isAgg169
 z182:=Tryz.sizeOf169
 v182:=Tryz.zeroValue169
 t183:=Tryz.underlying170
 a183:=Tryz.isAgg170
 z183:=Tryz.sizeOf170
 v183:=Tryz.zeroValue170
 t218:=Tryz.underlying198
 a218:=Tryz.isAgg198
 z218:=Tryz.sizeOf198
 v218:=Tryz.zeroValue198
 t222:=Tryz.underlying202
 a222:=Tryz.isAgg202
 z222:=Tryz.sizeOf202
 v222:=Tryz.zeroValue202
 t228:=Tryz.underlying215
 a228:=Tryz.isAgg215
 z228:=Tryz.sizeOf215
 v228:=Tryz.zeroValue215
 t229:=Tryz.underlying107
 a229:=Tryz.isAgg107
 z229:=Tryz.sizeOf107
 v229:=Tryz.zeroValue107 }
open Go.Sort Go.RowKit in
theorem Tryz.slices_Sort_int (blk off cap:Nat) (zs:List Int) (w:World) (hH:Holds (Value.int .i64) w blk off zs.toArray) (hblk:blk<w.heap.size) (hsz:zs.length<4611686018427387904) :
  Calls Tryz.prog 63 #[.slice (some ⟨blk,off,none⟩) zs.length cap] w fun e w' =>
   e=.returned (.tuple #[])∧∃ n os,w'=grow (putRow (Value.int .i64) (Sort.ahead w n) blk off (zs.mergeSort fun x y=>decide (x≤y)).toArray) os:=Any.slices_Sort_int Tryz.lays189 blk off cap zs w hH hblk hsz
open Go.RowKit Go.Sort in
theorem Tryz.slices_Sort_int_none (p:Option Addr) (cap:Nat) (w:World) :
  Calls Tryz.prog 63 #[.slice p 0 cap] w fun e w'=>e=.returned (.tuple #[])∧w'=w:=Any.slices_Sort_int_none Tryz.lays189 p cap w
end Go.Proofs
namespace Go.Fx.E
open Go Go.Fx Go.Proofs Go.RowKit
set_option maxRecDepth 20000
def srt (l:List Int):List Int:=l.mergeSort fun x y=>decide (x≤y)
theorem Lt {l:List Int}:(srt l).length=l.length:=List.length_mergeSort ..
theorem Zu {l:List Int}:(srt l).Pairwise (·≤·):=by
 have:=List.pairwise_mergeSort (le:=fun x y:Int=>decide (x≤y)) (fun a b c h1 h2=>by simp at *;omega) (fun a b=>by simp;omega) l
 exact this.imp fun h=>by simpa using h
theorem Wa {l:List Int} {x:Int}:x∈srt l↔x∈l:=List.mem_mergeSort
theorem yO {S:Nat→Prop} {w:World} {b:Nat}:∀ {l:List Int} {off:Nat},dB S w 1 b off (l.map P.encI)→∀ j (h:j<l.length),w.cell? ⟨b,off+j,none⟩=some (.int .i64 l[j])
 | [],_,_,j,h=>by simp at h
 | x::r,off,hr,j,h=>by
  obtain ⟨⟨_,⟨val,h1,h2⟩,_⟩,h3⟩:=hr
  cases j with
  | zero =>
   have:val=.int .i64 x:=h2.1
   subst this;exact h1
  | succ j =>
   have:=yO h3 j (by simpa using h)
   rw [show off+(j+1)=off+1+j by omega]
   exact this
theorem Cq {S:Nat→Prop} {w:World} {b:Nat}:∀ {l:List Int} {off:Nat},(∀ j (h:j<l.length),w.cell? ⟨b,off+j,none⟩=some (.int .i64 l[j]))→dB S w 1 b off (l.map P.encI)
 | [],_,_=>trivial
 | x::r,off,h=>⟨⟨rfl,⟨_,h 0 (by simp),rfl,rfl⟩,trivial⟩,Cq fun j hj=>by
   have:=h (j+1) (by simpa using hj)
   rw [show off+1+j=off+(j+1) by omega]
   exact this⟩
theorem ajK (l:List Int) (hl:l.length<4611686018427387904):OkN Tryz.prog 63 [.sl 0 0 l.length] [.arr 1 (l.map P.encI)] [] (IsA (.tup []) [.arr 1 ((srt l).map P.encI)]):=by
 refine ⟨cal Tryz.func63 (by kernel_rfl) (by kernel_rfl),?_⟩
 intro ρ X w vals hr ha
 match vals,ha with
 | [val],⟨hv,_⟩ =>
 obtain ⟨cap,h1,h2,h3⟩:=hv
 rcases h3 with ⟨h4,a,rfl⟩|⟨hre,rfl,hroom⟩
 ·have hl0:l=[]:=List.length_eq_zero_iff.1 (by omega)
  subst hl0
  refine (Tryz.slices_Sort_int_none a 0 w).mono ?_
  rintro e w' ⟨rfl,rfl⟩
  exact ⟨_,.tup [],[.arr 1 []],ρ,rfl,⟨⟨rfl,by simp [srt]⟩,yar _⟩,Fr.refl _ _,hr,⟨#[],rfl,trivial⟩,fun _ _ _=>rfl⟩
 ·have hb:=hr.blk 0 _ rfl
  obtain ⟨⟨hsz,_⟩,hb|⟨_,c,T,hc,hcs,hlen,hels⟩⟩:=hb
  ·rw [hb.1] at hre;cases hre
  have hoff:(ρ 0).off+0*(ρ 0).sz=(ρ 0).off:=by omega
  rw [hoff]
  rw [yan] at hlen
  have hg:=fun j hj=>yO hels j hj
  have hH:Sort.Holds (Value.int .i64) w (ρ 0).blk (ρ 0).off l.toArray:=by
   intro j hj
   have hj':j<l.length:=by simpa using hj
   refine ⟨?_,by simp [World.frozen?,hc]⟩
   rw [hg j hj']
   simp [hj']
  refine (Tryz.slices_Sort_int (ρ 0).blk (ρ 0).off cap l w hH (hr.lt 0 hre) hl).mono ?_
  rintro e w' ⟨rfl,n,os,rfl⟩
  have hbl:=hr.lt 0 hre
  have hsl:(srt l).length=l.length:=Lt
  have hw1:(Sort.grow (Sort.putRow (Value.int .i64) (Sort.ahead w n) (ρ 0).blk (ρ 0).off (srt l).toArray) os).heap[(ρ 0).blk]?=some (.cells (Sort.putCells (Value.int .i64) (ρ 0).off (srt l).toArray c) T (0,0)):=by
   simp only [Sort.grow,Sort.putRow,Sort.mapBlock,Sort.ahead]
   rw [ybg (by simpa using hbl),ybh,if_pos rfl,hc]
   rfl
  have hw2:∀ b,b<w.heap.size→b≠(ρ 0).blk→(Sort.grow (Sort.putRow (Value.int .i64) (Sort.ahead w n) (ρ 0).blk (ρ 0).off (srt l).toArray) os).heap[b]?=w.heap[b]?:=by
   intro b hb hne
   simp only [Sort.grow,Sort.putRow,Sort.mapBlock,Sort.ahead]
   rw [ybg (by simpa using hb),ybh,if_neg (fun h=>hne h.symm)]
  have hsize:w.heap.size≤(Sort.grow (Sort.putRow (Value.int .i64) (Sort.ahead w n) (ρ 0).blk (ρ 0).off (srt l).toArray) os).heap.size:=by
   simp [Sort.grow,Sort.putRow,Sort.mapBlock,Sort.ahead]
  have hfr:Fr ρ w ρ (Sort.grow (Sort.putRow (Value.int .i64) (Sort.ahead w n) (ρ 0).blk (ρ 0).off (srt l).toArray) os):=⟨rfl,rfl,rfl,hsize,fun b hb ho=>⟨hw2 b hb fun h=>ho ⟨0,hre,h.symm⟩,ho⟩⟩
  have hcell:∀ j (hj:j<l.length),(Sort.grow (Sort.putRow (Value.int .i64) (Sort.ahead w n) (ρ 0).blk (ρ 0).off (srt l).toArray) os).cell? ⟨(ρ 0).blk,(ρ 0).off+j,none⟩=some (.int .i64 ((srt l)[j]'(by rw [hsl];exact hj))):=by
   intro j hj
   have hjc:(ρ 0).off+j<c.size:=by rw [hcs];rw [hsz] at hroom;omega
   simp only [World.cell?,hw1]
   simp [Sort.putCells,hjc,hsl,hj]
  refine ⟨_,.tup [],[.arr 1 ((srt l).map P.encI)],ρ,rfl,⟨⟨rfl,rfl⟩,yar _⟩,hfr,⟨hr.inj,hr.out,fun k b hk=>?_,hr.disj,fun k hk=>Nat.lt_of_lt_of_le (hr.lt k hk) hsize,hr.xfr hfr⟩,⟨#[],rfl,trivial⟩,fun _ _ _=>rfl⟩
  cases k with
  | succ k=>simp at hk
  | zero =>
   simp only [List.getElem?_cons_zero,yaB] at hk
   subst hk
   refine ⟨⟨hsz,by omega⟩,.inr ⟨hre,_,T,hw1,by simp [Sort.putCells,hcs],by rw [yan,hsl];exact hlen,Cq fun j hj=>?_⟩⟩
   rw [hsl] at hj
   exact hcell j hj
theorem ajJ (l:List Int) (hl:l.length≤1000000) (ho:l.Pairwise (·<·)):OkN Tryz.prog 64 [.sl 0 0 l.length] [.arr 1 (l.map P.encI)] [] (IsA (.sl 0 0 l.length) [.arr 1 (l.map P.encI)]):=by
 refine eR pol [0] lw64 (by simp) ⟨trivial,trivial⟩ (by simp) ?_
 unfold c64
 simp -implicitDefEqProofs only [rX,↓rY,aA,↓reduceIte,reduceCtorEq,aJ,aK]
 cases h0:decide ((l.length:Int)<2) with
 | true =>
  have h0':=of_decide_eq_true h0
  simp -implicitDefEqProofs only [rX,↓rY,↓reduceIte,aL,aM,leH,leB,aD,aB,wfB,wfV,cA]
  exact fun _=>trivial
 | false =>
  have h0':=of_decide_eq_false h0
  simp -implicitDefEqProofs only [↓rY]
  intro _
  refine cD (fun k:Nat=>(⟨[(3,.i ((k:Int)+1)),(0,.sl 0 0 l.length)],[.arr 1 (l.map P.encI)],0⟩:St)) (fun k=>k+1≤l.length) (fun k=>l.length-k) 0 (by omega) ?_ ?_
  ·exact ⟨by simp -implicitDefEqProofs only [rX,↓reduceIte,reduceCtorEq,leE];simp,⟨aU _,trivial⟩,⟨trivial,trivial⟩,by simp -implicitDefEqProofs only [rX,aB,wfE,wfV],by simp -implicitDefEqProofs only [wfB]⟩
  intro k hk N hN
  simp only [c64l0]
  simp -implicitDefEqProofs only [rX,↓rY,aA,↓reduceIte,Nat.reduceEqDiff,cR,reduceCtorEq,dP,yaf,yaa,aJ]
  cases h1:decide ((k:Int)+1<(l.length:Int)) with
  | true =>
   have h1':=of_decide_eq_true h1
   have hk1:k+1<l.length:=by omega
   have hlt:=yaI.1 ho k (k+1) (by omega) hk1 (by omega)
   have e1:((k:Int)+1).toNat=k+1:=by omega
   have e2:(k:Int)+1-1=(k:Int):=by omega
   have hne:(l[k+1]==l[k])=false:=by simp;omega
   simp -implicitDefEqProofs only [rX,↓rY,yaa,e1,e2,P.bW,hne]
   refine fun _=>⟨⟨by omega,by omega⟩,hk1,⟨by simp only [lo];omega,by simp only [Fx.hi];omega⟩,⟨by omega,by omega⟩,by omega,⟨by simp only [lo];omega,by simp only [Fx.hi];omega⟩,hN _ (k+1) (by omega) (by omega) ?_⟩
   exact ⟨by simp -implicitDefEqProofs only [rX,↓reduceIte,reduceCtorEq,leE];rfl,⟨aU _,trivial⟩,⟨trivial,trivial⟩,by simp -implicitDefEqProofs only [rX,aB,wfE,wfV],by simp -implicitDefEqProofs only [wfB]⟩
  | false =>
   have h1':=of_decide_eq_false h1
   simp -implicitDefEqProofs only [rX,↓rY,↓reduceIte,aL,aM,leH,leB,aD,aB,wfB,wfV,cA]
   exact fun _=>trivial
def rP (ps:List P.aH) (rs:List P.Road):List (Int × Int):=(yae ps.length).map (fun i:Nat=>((i:Int),(0:Int)))++(P.ofN ps 1 ps.length).map (fun i:Nat=>((i:Int),(0:Int)))++(P.ofN ps 3 ps.length).map (fun i:Nat=>((i:Int),(0:Int)))++(yae rs.length).map (fun j:Nat=>((-1:Int),(j:Int)))
def gone (ps:List P.aH) (q j:Nat):List Nat:=if q=0 then P.ofN ps 1 j else if q=1 then P.ofN ps 1 ps.length++P.ofN ps 3 j else P.ofN ps 1 ps.length++P.ofN ps 3 ps.length
theorem Om {ps:List P.aH} {rs:List P.Road} {k:Nat} (h:k<ps.length):(rP ps rs)[k]?=some ((k:Int),0):=by
 unfold rP
 rw [yai,yai,yaN (by simpa using h)]
 simp [h]
theorem Ri {ps:List P.aH} {rs:List P.Road} {a:Nat} (h:a<rs.length):(rP ps rs)[ps.length+(gone ps 2 0).length+a]?=some (-1,(a:Int)):=by
 unfold rP gone
 rw [yaA (by simp<;>omega)]
 simp only [yaq,yan,List.length_range]
 rw [show (if 2=0 then P.ofN ps 1 0 else if 2=1 then P.ofN ps 1 ps.length++P.ofN ps 3 0 else P.ofN ps 1 ps.length++P.ofN ps 3 ps.length)=P.ofN ps 1 ps.length++P.ofN ps 3 ps.length from rfl,yaq]
 rw [show ps.length+((P.ofN ps 1 ps.length).length+(P.ofN ps 3 ps.length).length)+a-(ps.length+(P.ofN ps 1 ps.length).length+(P.ofN ps 3 ps.length).length)=a by omega]
 simp [h]
theorem Rj {ps:List P.aH} {rs:List P.Road} {k a:Nat} (h:(gone ps 2 0)[k]?=some a):(rP ps rs)[ps.length+k]?=some ((a:Int),0):=by
 unfold gone at h
 have h2:(P.ofN ps 1 ps.length++P.ofN ps 3 ps.length)[k]?=some a:=h
 have hk:k<(P.ofN ps 1 ps.length++P.ofN ps 3 ps.length).length:=by
  rcases Nat.lt_or_ge k (P.ofN ps 1 ps.length++P.ofN ps 3 ps.length).length with c|c
  ·exact c
  ·rw [yaF c] at h2;cases h2
 unfold rP
 rw [yai,yai,yaA (by simp),←yai]
 simp only [yan,List.length_range]
 rw [show ps.length+k-ps.length=k by omega,←yal,yaN (by rw [yan];exact hk),yaz,h2]
 rfl
theorem aaU {ps:List P.aH} {q j:Nat} (hq:q<2) (hj:j<ps.length):gone ps q (j+1)=gone ps q j++(if ps[j].kind=(if q=0 then 1 else 3) then [j] else []):=by
 have hk:∀ kind:Int,P.ofN ps kind (j+1)=P.ofN ps kind j++(if ps[j].kind=kind then [j] else []):=by
  intro kind
  rw [P.mJ]
  congr 1
  have:P.isK ps kind j=(ps[j].kind==kind):=by rw [P.isK,yab hj]
  rw [this]
  simp
 unfold gone
 rcases (by omega:q=0∨q=1) with rfl|rfl
 ·simp only [if_pos];exact hk 1
 ·simp only [Nat.one_ne_zero,if_false,if_pos]
  rw [hk 3,yai]
theorem aaV {ps:List P.aH} {q:Nat} (hq:q<2):gone ps q ps.length=gone ps (q+1) 0:=by
 unfold gone
 rcases (by omega:q=0∨q=1) with rfl|rfl
 ·simp [P.ofN]
 ·simp
theorem Wh {ps:List P.aH} {q j:Nat} (hq:q<2) (hj:j≤ps.length):∃ r,gone ps 2 0=gone ps q j++r:=by
 have key:∀ kind:Int,∀ d j,j+d=ps.length→∃ r,P.ofN ps kind ps.length=P.ofN ps kind j++r:=by
  intro kind d
  induction d with
  | zero=>intro j h;exact ⟨[],by rw [show j=ps.length by omega];simp⟩
  | succ d ih =>
   intro j h
   obtain ⟨r,hr⟩:=ih (j+1) (by omega)
   rw [hr,P.mJ,yai]
   exact ⟨_,rfl⟩
 rcases (by omega:q=0∨q=1) with rfl|rfl
 ·obtain ⟨r,hr⟩:=key 1 (ps.length-j) j (by omega)
  refine ⟨r++P.ofN ps 3 ps.length,?_⟩
  show P.ofN ps 1 ps.length++P.ofN ps 3 ps.length=P.ofN ps 1 j++_
  rw [hr,yai]
 ·obtain ⟨r,hr⟩:=key 3 (ps.length-j) j (by omega)
  refine ⟨r,?_⟩
  show P.ofN ps 1 ps.length++P.ofN ps 3 ps.length=(P.ofN ps 1 ps.length++P.ofN ps 3 j)++_
  rw [hr,yai]
set_option maxRecDepth 20000
open Go.Fx.P (Arc aH)
def kd (q:Nat):Int:=if q=0 then 1 else 3
abbrev h62 (ps:List aH) (rs:List P.Road):List Blk:=[.var [.ro 3 (ps.map aH.enc),P.rds rs],.arr 1 [[.i 1],[.i 3]]]
set_option maxHeartbeats 1000000 in
theorem ajL (ps:List aH) (rs:List P.Road) (k:Nat) (hF:gK ps rs) (o:Int × Int) (ho:(rP ps rs)[k]?=some o):Ok 62 [P.bF ps rs,.i k] (Is (.tup [.i o.1,.i o.2])):=by
 have hpl:=hF.pl
 have hrl:=hF.rl
 have hko:k<(rP ps rs).length:=by
  rcases Nat.lt_or_ge k (rP ps rs).length with c|c
  ·exact c
  ·rw [yaF c] at ho;cases ho
 have hlen:(rP ps rs).length=ps.length+(gone ps 2 0).length+rs.length:=by
  show (rP ps rs).length=ps.length+(P.ofN ps 1 ps.length++P.ofN ps 3 ps.length).length+rs.length
  unfold rP;simp;omega
 have hgl:(gone ps 2 0).length≤12:=by
  show (P.ofN ps 1 ps.length++P.ofN ps 3 ps.length).length≤12
  have h1:=P.fF (ps:=ps) (kind:=1) (n:=ps.length)
  have h2:=P.fF (ps:=ps) (kind:=3) (n:=ps.length)
  rw [yaq];omega
 have hkb:k≤100:=by omega
 refine ok_of lw62 (by simp) ?_
 unfold c62 P.bF P.sps
 simp -implicitDefEqProofs only [rX,↓rY,aA,cells?,↓reduceIte,Nat.reduceEqDiff,Nat.reduceAdd,reduceCtorEq,aC,bZ,aL,aM,wfV,wfL,isD,Nat.reduceLT,aJ,aK]
 intro _
 cases h0:decide ((k:Int)<(ps.length:Int)) with
 | true =>
  have h0':=of_decide_eq_true h0
  rw [Om (by omega)] at ho
  cases ho
  simp -implicitDefEqProofs only [↓rY]
 | false =>
  have h0':=of_decide_eq_false h0
  simp -implicitDefEqProofs only [↓rY]
  refine fun _=>⟨⟨by simp only [lo];omega,by simp only [Fx.hi];omega⟩,fun _=>?_⟩
  refine cD (fun q:Nat=>(⟨[(23,.i q),(22,.i 2),(21,.sl 1 0 2),(2,.ptr 0 0 0),(1,.i ((k:Int)-ps.length-(gone ps q 0).length))],h62 ps rs,2⟩:St)) (fun q=>q≤2∧ps.length+(gone ps q 0).length≤k) (fun q=>2-q) 0 ⟨by omega,by simp [gone,P.ofN];omega⟩ ?_ ?_
  ·exact ⟨by simp -implicitDefEqProofs only [rX,↓reduceIte,Nat.reduceEqDiff,leE];exact ⟨rfl,rfl,by simp [gone,P.ofN]⟩,bA _,trivial,by simp -implicitDefEqProofs only [rX,aB,wfE,wfV,h62],by simp -implicitDefEqProofs only [rX,wfB,wfV,wfL,h62,P.rds]⟩
  rintro q ⟨hq,hqk⟩ N hN
  simp only [c62l0,h62]
  simp -implicitDefEqProofs only [rX,↓rY,aA,↓reduceIte,Nat.reduceEqDiff,cR,Nat.reduceAdd,aL,aM,wfV,wfL,yaa,aJ]
  cases h1:decide ((q:Int)<2) with
  | false =>
   have h1':=of_decide_eq_false h1
   obtain rfl:q=2:=by omega
   obtain ⟨a,ha⟩:∃ a,k=ps.length+(gone ps 2 0).length+a:=⟨k-(ps.length+(gone ps 2 0).length),by omega⟩
   rw [ha,Ri (by omega)] at ho
   cases ho
   simp -implicitDefEqProofs only [↓rY]
   have:(k:Int)-ps.length-(gone ps 2 0).length=(a:Int):=by omega
   rw [this]
  | true =>
   have h1':=of_decide_eq_true h1
   have hq2:q<2:=by omega
   simp -implicitDefEqProofs only [↓rY]
   refine ⟨⟨by omega,by omega⟩,by simpa using hq2,?_⟩
   have hkd:∀ h:q<[[V.i 1],[V.i 3]].length,([[V.i 1],[V.i 3]][q]'h)[0]?=some (.i (kd q)):=by
    rcases (by omega:q=0∨q=1) with rfl|rfl<;>intro h<;>rfl
   rw [hkd]
   simp -implicitDefEqProofs only [↓rY]
   intro hml
   refine cD (fun j:Nat=>(⟨[(30,.i j),(29,.i ps.length),(28,.ro 3 (ps.map aH.enc)),(7,.i (kd q)),(23,.i q),(22,.i 2),(21,.sl 1 0 2),(2,.ptr 0 0 0),(1,.i ((k:Int)-ps.length-(gone ps q j).length))],h62 ps rs,2⟩:St)) (fun j=>j≤ps.length∧ps.length+(gone ps q j).length≤k) (fun j=>ps.length-j) 0 ⟨by omega,hqk⟩ ?_ ?_
   ·exact ⟨by simp -implicitDefEqProofs only [rX,↓reduceIte,Nat.reduceEqDiff,leE];rfl,bA _,trivial,by simp -implicitDefEqProofs only [rX,aB,wfE,wfV,h62],by simp -implicitDefEqProofs only [rX,wfB,wfV,wfL,h62,P.rds]⟩
   rintro j ⟨hj,hjk⟩ N1 hN1
   simp only [c62l1,h62]
   simp -implicitDefEqProofs only [rX,↓rY,aA,cells?,splice,↓reduceIte,Nat.reduceEqDiff,Nat.reduceAdd,aC,aL,aM,wfV,wfL,yaf,yaa,aQ]
   cases h2:decide ((j:Int)<(ps.length:Int)) with
   | false =>
    have h2':=of_decide_eq_false h2
    obtain rfl:j=ps.length:=by omega
    rw [aaV hq2] at hjk ⊢
    simp -implicitDefEqProofs only [↓rY]
    refine ⟨⟨by simp only [lo];omega,by simp only [Fx.hi];omega⟩,hN _ (q+1) ⟨by omega,hjk⟩ (by omega) ?_⟩
    exact ⟨by simp -implicitDefEqProofs only [rX,↓reduceIte,Nat.reduceEqDiff,leE];simp,bA _,trivial,by simp -implicitDefEqProofs only [rX,aB,wfE,wfV,h62],by simp -implicitDefEqProofs only [rX,wfB,wfV,wfL,h62,P.rds]⟩
   | true =>
    have h2':=of_decide_eq_true h2
    have hj':j<ps.length:=by omega
    have hs:gone ps q (j+1)=gone ps q j++(if ps[j].kind=kd q then [j] else []):=aaU hq2 hj'
    have b0:lo IntKind.i64≤(j:Int)+1∧(j:Int)+1≤Fx.hi IntKind.i64:=⟨by simp only [lo];omega,by simp only [Fx.hi];omega⟩
    simp -implicitDefEqProofs only [rX,↓rY,yab hj',P.nH,P.iU,P.uA,P.oP]
    refine ⟨⟨by omega,by omega⟩,hj',?_⟩
    cases h3:(ps[j].kind != kd q) with
    | true =>
     have h3':=bne_iff_ne.1 h3
     rw [if_neg h3',yaQ] at hs
     simp -implicitDefEqProofs only [↓rY]
     refine ⟨b0,hN1 _ (j+1) ⟨by omega,by rw [hs];exact hjk⟩ (by omega) ?_⟩
     rw [hs]
     exact ⟨by simp -implicitDefEqProofs only [rX,↓reduceIte,Nat.reduceEqDiff,leE];rfl,⟨aU _,aU _,trivial⟩,trivial,by simp -implicitDefEqProofs only [rX,aB,wfE,wfV,h62],by simp -implicitDefEqProofs only [rX,wfB,wfV,wfL,h62,P.rds]⟩
    | false =>
     have h3':ps[j].kind=kd q:=by simpa using h3
     rw [if_pos h3'] at hs
     simp -implicitDefEqProofs only [↓rY]
     cases h4:((k:Int)-ps.length-(gone ps q j).length==0) with
     | true =>
      have h4':=eq_of_beq h4
      obtain ⟨r,hr⟩:=Wh (ps:=ps) hq2 (show j+1≤ps.length by omega)
      have hg:(gone ps 2 0)[(gone ps q j).length]?=some j:=by
       rw [hr,hs,yai,yaA (yar _),Nat.sub_self];rfl
      have:=Rj (rs:=rs) hg
      rw [show ps.length+(gone ps q j).length=k by omega,ho] at this
      cases this
      simp -implicitDefEqProofs only [↓rY]
     | false =>
      have h4':=ne_of_beq_false h4
      simp -implicitDefEqProofs only [↓rY]
      have hl:(gone ps q (j+1)).length=(gone ps q j).length+1:=by rw [hs];simp
      refine ⟨⟨by simp only [lo];omega,by simp only [Fx.hi];omega⟩,b0,hN1 _ (j+1) ⟨by omega,by omega⟩ (by omega) ?_⟩
      exact ⟨by simp -implicitDefEqProofs only [rX,↓reduceIte,Nat.reduceEqDiff,leE];exact ⟨by simp,by omega⟩,⟨aU _,aU _,trivial⟩,trivial,by simp -implicitDefEqProofs only [rX,aB,wfE,wfV,h62],by simp -implicitDefEqProofs only [rX,wfB,wfV,wfL,h62,P.rds]⟩
set_option maxRecDepth 20000
open Go.Fx.P (Arc aH)
theorem rH {α:Type} {r:α→α→Prop} (hi:∀ a,¬r a a) (ht:∀ a b c,r a b→r b c→r a c):∀ {l m:List α},l.Pairwise r→m.Pairwise r→(∀ x,x∈l↔x∈m)→l=m
 | [],[],_,_,_=>rfl
 | [],b::m,_,_,h=>by have:=(h b).2 (by simp);cases this
 | a::l,[],_,_,h=>by have:=(h a).1 (by simp);cases this
 | a::l,b::m,h1,h2,h=>by
  obtain ⟨h3,h4⟩:=yaU.1 h1
  obtain ⟨h5,h6⟩:=yaU.1 h2
  have hab:a=b:=by
   rcases yad.1 ((h a).1 (by simp)) with e|e
   ·exact e
   ·rcases yad.1 ((h b).2 (by simp)) with f|f
    ·exact f.symm
    ·exact absurd (ht _ _ _ (h3 b f) (h5 a e)) (hi a)
  subst hab
  congr 1
  refine rH hi ht h4 h6 fun x=>⟨fun hx=>?_,fun hx=>?_⟩
  ·rcases yad.1 ((h x).1 (yas _ hx)) with e|e
   ·subst e;exact absurd (h3 _ hx) (hi _)
   ·exact e
  ·rcases yad.1 ((h x).2 (yas _ hx)) with e|e
   ·subst e;exact absurd (h5 _ hx) (hi _)
   ·exact e
def rAt (rs:List P.Road) (j:Nat):P.Road:=rs.getD j default
def ZL (ps:List aH) (rs:List P.Road):List (Arc × Int × Int) :=
 (yae ps.length).map (fun i:Nat=>(P.aP ps i,((i:Int),(0:Int))))++(P.ofN ps 1 ps.length).map (fun i:Nat=>(P.aS ps i,((i:Int),(0:Int))))++(P.ofN ps 3 ps.length).map (fun i:Nat=>(P.aO ps i,((i:Int),(0:Int))))++(yae rs.length).map (fun j:Nat=>(P.aR (rAt rs j),((-1:Int),(j:Int))))
theorem Vt {rs:List P.Road}:(yae rs.length).map (fun j=>P.aR (rAt rs j))=rs.map P.aR:=by
 apply yaO
 ·simp
 ·intro i h1 h2
  have:i<rs.length:=by simpa using h2
  simp [rAt,this]
theorem agL {ps:List aH} {rs:List P.Road}:(ZL ps rs).map (·.1)=P.cK ps rs:=by
 unfold ZL P.cK P.nA4 P.nA3 P.nA2 P.nA1
 rw [←Vt]
 simp [yal,Function.comp_def]
theorem agK {ps:List aH} {rs:List P.Road}:(ZL ps rs).map (·.2)=rP ps rs:=by
 unfold ZL rP
 simp [yal,Function.comp_def]
def pl1 (z:Arc × Int × Int):Option Int:=if 0≤z.2.1 then some z.2.1 else none
def rd1 (z:Arc × Int × Int):Option Int:=if 0≤z.2.1 then none else some z.2.2
def fPl (Z:List (Arc × Int × Int)) (cut:List Int) (i:Nat):List Int:=((Z.take i).filter fun z=>lA cut z.1).filterMap pl1
def fRd (Z:List (Arc × Int × Int)) (cut:List Int) (i:Nat):List Int:=((Z.take i).filter fun z=>lA cut z.1).filterMap rd1
theorem f_n {Z:List (Arc × Int × Int)} {cut:List Int} {i:Nat} (h:i<Z.length) (ho:lA cut Z[i].1=false):fPl Z cut (i+1)=fPl Z cut i∧fRd Z cut (i+1)=fRd Z cut i:=by
 unfold fPl fRd
 rw [←yaw h,yax,ybe (by simp [ho])]
 simp
theorem f_p {Z:List (Arc × Int × Int)} {cut:List Int} {i:Nat} (h:i<Z.length) (ho:lA cut Z[i].1=true) (hp:0≤Z[i].2.1):fPl Z cut (i+1)=fPl Z cut i++[Z[i].2.1]∧fRd Z cut (i+1)=fRd Z cut i:=by
 unfold fPl fRd
 rw [←yaw h,yax,show [Z[i]].filter (fun z=>lA cut z.1)=[Z[i]] by simp [ho]]
 simp [pl1,rd1,hp]
theorem f_r {Z:List (Arc × Int × Int)} {cut:List Int} {i:Nat} (h:i<Z.length) (ho:lA cut Z[i].1=true) (hp:Z[i].2.1<0):fPl Z cut (i+1)=fPl Z cut i∧fRd Z cut (i+1)=fRd Z cut i++[Z[i].2.2]:=by
 unfold fPl fRd
 rw [←yaw h,yax,show [Z[i]].filter (fun z=>lA cut z.1)=[Z[i]] by simp [ho]]
 have:¬0≤Z[i].2.1:=by omega
 simp [pl1,rd1,this]
theorem Ys {Z:List (Arc × Int × Int)} {cut:List Int} {i:Nat}:(fPl Z cut i).length≤Z.length∧(fRd Z cut i).length≤Z.length:=by
 unfold fPl fRd
 have h1:=ybi pl1 ((Z.take i).filter fun z=>lA cut z.1)
 have h3:=ybi rd1 ((Z.take i).filter fun z=>lA cut z.1)
 have h2:=List.length_filter_le (fun z:Arc × Int × Int=>lA cut z.1) (Z.take i)
 rw [yaX] at h2
 omega
def abM (ps:List aH) (cut:List Int) (i:Nat):Bool:=hasB cut (2+2*i)&&!hasB cut (3+2*i)||P.isK ps 1 i&&!hasB cut (2+2*i)||P.isK ps 3 i&&hasB cut (3+2*i)
def afX (rs:List P.Road) (cut:List Int) (j:Nat):Bool:=hasB cut (3+2*(rAt rs j).from_)&&!hasB cut (2+2*(rAt rs j).to)
def spP (ps:List aH) (cut:List Int) (n:Nat):List Int:=((yae n).filter (abM ps cut)).map fun i:Nat=>(i:Int)
def spR (rs:List P.Road) (cut:List Int) (n:Nat):List Int:=((yae n).filter (afX rs cut)).map fun i:Nat=>(i:Int)
theorem gE {l:List Nat} {f:Nat→Arc × Int × Int} {q:Nat→Bool} {cut:List Int} (g:Arc × Int × Int→Option Int) (h:∀ i∈l,lA cut (f i).1=q i) (hg:∀ i∈l,g (f i)=some (i:Int)):((l.map f).filter fun z=>lA cut z.1).filterMap g=(l.filter q).map fun i:Nat=>(i:Int):=by
 induction l with
 | nil=>rfl
 | cons x l ih =>
  have ih':=ih (fun i hi=>h i (yas _ hi)) (fun i hi=>hg i (yas _ hi))
  have hx:=h x yay
  have hgx:=hg x yay
  rw [yao,List.filter_cons,List.filter_cons,hx]
  cases q x with
  | true=>simp only [if_pos];rw [List.filterMap_cons,hgx,yao,ih']
  | false=>simpa using ih'
theorem gF {l:List Nat} {f:Nat→Arc × Int × Int} {cut:List Int} (g:Arc × Int × Int→Option Int) (hg:∀ i∈l,g (f i)=none):((l.map f).filter fun z=>lA cut z.1).filterMap g=[]:=by
 rw [List.filterMap_eq_nil_iff]
 intro z hz
 obtain ⟨hz,_⟩:=yat.1 hz
 obtain ⟨i,hi,rfl⟩:=yaY.1 hz
 exact hg i hi
theorem Sx {ps:List aH} {rs:List P.Road} {cut:List Int} {n:Int} (hc:w5 n cut) :
  (fPl (ZL ps rs) cut (ZL ps rs).length=(((yae ps.length).filter fun i:Nat=>hasB cut (2+2*i)&&!hasB cut (3+2*i))++((P.ofN ps 1 ps.length).filter fun i:Nat=>!hasB cut (2+2*i))++((P.ofN ps 3 ps.length).filter fun i:Nat=>hasB cut (3+2*i))).map fun i:Nat=>(i:Int))∧fRd (ZL ps rs) cut (ZL ps rs).length=spR rs cut rs.length:=by
 have h0:decide ((0:Int)∈cut)=true:=decide_eq_true (ybf hc.2.2)
 have h1:decide ((1:Int)∈cut)=false:=decide_eq_false fun h=>(hc.1 1 h).2.2 rfl
 unfold fPl fRd
 rw [List.take_length]
 unfold ZL
 simp only [yax,List.filterMap_append,yal]
 constructor
 ·rw [gE (q:=fun i:Nat=>hasB cut (2+2*i)&&!hasB cut (3+2*i)) pl1 (fun i _=>rfl) (fun i _=>by simp [pl1]),
   gE (q:=fun i:Nat=>!hasB cut (2+2*i)) pl1 (fun i _=>by unfold lA P.aS;simp only [h0,yaJ];rfl) (fun i _=>by simp [pl1]),
   gE (q:=fun i:Nat=>hasB cut (3+2*i)) pl1 (fun i _=>by unfold lA P.aO;simp only [h1,Bool.not_false,Bool.and_true];rfl) (fun i _=>by simp [pl1]),
   gF pl1 (fun i _=>by simp [pl1]),yaQ]
 ·rw [gF rd1 (fun i _=>by simp [rd1]),gF rd1 (fun i _=>by simp [rd1]),gF rd1 (fun i _=>by simp [rd1]),
   gE (q:=afX rs cut) rd1 (fun i _=>rfl) (fun i _=>by simp [rd1])]
  rfl
theorem Kp {l:List Nat} (h:l.Nodup):(l.map fun i:Nat=>(i:Int)).Nodup:=by
 rw [List.Nodup,List.pairwise_map]
 exact h.imp fun hab he=>hab (by omega)
theorem Gq {n:Nat} {q:Nat→Bool}:(((yae n).filter q).map fun i:Nat=>(i:Int)).Pairwise (·<·):=by
 rw [List.pairwise_map]
 refine (List.Pairwise.filter q (List.pairwise_lt_range (n:=n))).imp fun h=>by omega
theorem El {ps:List aH} {kind:Int} {n i:Nat}:i∈P.ofN ps kind n↔i<n∧P.isK ps kind i=true:=by unfold P.ofN;simp
theorem My {ps:List aH} {rs:List P.Road} {cut:List Int} {n:Int} (hc:w5 n cut):(fPl (ZL ps rs) cut (ZL ps rs).length).Nodup:=by
 rw [(Sx (rs:=rs) hc).1]
 refine Kp ?_
 have hr:(yae ps.length).Nodup:=List.nodup_range
 have hk:∀ i,P.isK ps 1 i=true→P.isK ps 3 i=true→False:=by
  intro i h1 h3
  unfold P.isK at h1 h3
  split at h1
  ·rename_i x hx;rw [hx] at h3;simp at h1 h3;omega
  ·cases h1
 rw [List.nodup_append,List.nodup_append]
 refine ⟨⟨hr.filter _,(hr.filter _).filter _,fun a ha b hb e=>?_⟩,(hr.filter _).filter _,fun a ha b hb e=>?_⟩
 ·subst e
  have h1:=(yat.1 ha).2
  have h2:=(yat.1 hb).2
  simp only [yaC,yaT] at h1 h2
  rw [h1.1] at h2;cases h2
 ·subst e
  have h2:=yat.1 hb
  rcases yaG.1 ha with h|h
  ·have h1:=(yat.1 h).2
   simp only [yaC,yaT] at h1
   rw [h2.2] at h1;cases h1.2
  ·have h1:=(yat.1 h).1
   exact hk a (El.1 h1).2 (El.1 h2.1).2
theorem Zv {l:List Int} (h:l.Nodup):(srt l).Pairwise (·<·):=by
 have h1:(srt l).Nodup:=(List.mergeSort_perm l _).nodup_iff.2 h
 have h2:=Zu (l:=l)
 refine (h2.and h1).imp fun ⟨a,b⟩=>by omega
theorem afT {ps:List aH} {rs:List P.Road} {cut:List Int} {n:Int} (hc:w5 n cut):srt (fPl (ZL ps rs) cut (ZL ps rs).length)=spP ps cut ps.length:=by
 refine rH (r:=fun a b:Int=>a<b) (fun a h=>by omega) (fun a b c h1 h2=>by omega) (Zv (My hc)) Gq fun x=>?_
 rw [Wa,(Sx (rs:=rs) hc).1]
 unfold spP
 rw [yaY,yaY]
 have key:∀ i:Nat,(i∈((yae ps.length).filter fun i:Nat=>hasB cut (2+2*i)&&!hasB cut (3+2*i))++((P.ofN ps 1 ps.length).filter fun i:Nat=>!hasB cut (2+2*i))++((P.ofN ps 3 ps.length).filter fun i:Nat=>hasB cut (3+2*i)))↔i∈(yae ps.length).filter (abM ps cut):=by
  intro i
  simp only [yaG,yat,El,List.mem_range,abM,Bool.or_eq_true,yaC]
  constructor
  ·rintro ((⟨a,b⟩|⟨⟨a,b⟩,c⟩)|⟨⟨a,b⟩,c⟩)
   ·exact ⟨a,.inl (.inl b)⟩
   ·exact ⟨a,.inl (.inr ⟨b,c⟩)⟩
   ·exact ⟨a,.inr ⟨b,c⟩⟩
  ·rintro ⟨a,(b|b)|b⟩
   ·exact .inl (.inl ⟨a,b⟩)
   ·exact .inl (.inr ⟨⟨a,b.1⟩,b.2⟩)
   ·exact .inr ⟨⟨a,b.1⟩,b.2⟩
 constructor
 ·rintro ⟨i,hi,rfl⟩;exact ⟨i,(key i).1 hi,rfl⟩
 ·rintro ⟨i,hi,rfl⟩;exact ⟨i,(key i).2 hi,rfl⟩
theorem f_0 {Z:List (Arc × Int × Int)} {cut:List Int}:fPl Z cut 0=[]∧fRd Z cut 0=[]:=⟨by simp [fPl],by simp [fRd]⟩
theorem agJ {ps:List aH} {rs:List P.Road} {arcs:List Arc} (ha:P.cK ps rs=arcs) {i:Nat} (h:i<arcs.length):∃ hz:i<(ZL ps rs).length,(ZL ps rs)[i].1=arcs[i]∧(rP ps rs)[i]?=some (ZL ps rs)[i].2:=by
 have hZ1:=agL (ps:=ps) (rs:=rs)
 rw [ha] at hZ1
 have hZ2:=agK (ps:=ps) (rs:=rs)
 have hz:i<(ZL ps rs).length:=by rw [←hZ1,yan] at h;exact h
 refine ⟨hz,?_,?_⟩
 ·have:(yag (fun x:Arc × Int × Int=>x.1) (ZL ps rs))[i]?=some arcs[i]:=by rw [hZ1];exact yab h
  rw [yaz,yab hz] at this
  exact Option.some.inj this
 ·rw [←hZ2,yaz,yab hz];rfl
attribute [irreducible] fPl fRd ZL
set_option maxRecDepth 20000
open Go.Fx.P (Arc aH)
abbrev Wf (ps:List aH) (rs:List P.Road) (N:Nat) (arcs:List Arc) (cut:List Int) (g:List Int × List Int):List Blk:=[.var [.ro 3 (ps.map aH.enc),(.ro 4 (rs.map P.Road.enc))],.var [.i N,.ro 4 (arcs.map Arc.enc)],.var [.sl 7 0 g.1.length],.var [.sl 8 0 g.2.length],.var [.i N,.ro 4 (arcs.map Arc.enc)],.var [.ro 1 (cut.map P.encI)],.rcd .ready [(2,.ptr 0 0 0),(7,.ptr 2 0 0),(8,.ptr 3 0 0)],.arr 1 (g.1.map P.encI),.arr 1 (g.2.map P.encI)]
theorem akN (ps:List aH) (rs:List P.Road) (N:Nat) (arcs:List Arc) (cut:List Int):acB (Wf ps rs N arcs cut) 9 N arcs cut 6 4 5 [6]:=by
 refine ⟨fun g=>rfl,fun g tl=>rfl,fun g tl=>rfl,fun g=>⟨trivial,trivial⟩,fun g tl=>?_,fun g tl=>⟨_,_,rfl⟩⟩
 simp -implicitDefEqProofs only [rX,aB,wfE,wfB,wfV,wfL]
def aaX (ps:List aH) (cut:List Int):List Int:=if pB (P.nN ps) cut then spP ps cut ps.length else []
def aaW (ps:List aH) (rs:List P.Road) (cut:List Int):List Int:=if pB (P.nN ps) cut then spR rs cut rs.length else []
theorem E83.kill {N:Nat} {arcs:List Arc} {L k i:Nat} {e:Env} (he:E83 N arcs L k i e) {m:Nat} (hm:m≠L∧m≠k):E83 N arcs L k i (bO [m] e):=by
 obtain ⟨h0,h4,h23,h24,h25,h43⟩:=he
 have a:¬L=m:=fun h=>hm.1 h.symm
 have b:¬k=m:=fun h=>hm.2 h.symm
 exact ⟨by rw [eP,h0];simp [Fx.kill,b],by rw [eP,h4];simp [Fx.kill,a],by rw [eP,h23];rfl,by rw [eP,h24];rfl,by rw [eP,h25];rfl,by rw [eP,h43];rfl⟩
set_option maxHeartbeats 2000000 in
theorem akG (ps:List aH) (rs:List P.Road) (cut:List Int) (hF:gK ps rs) (hcl:cut.length≤1000000):Ok 20 [P.bF ps rs,P.li cut] (Is (.tup [P.li (aaX ps cut),P.li (aaW ps rs cut)])):=by
 have hV:=hF.net
 have hN:=hV.hn
 have hal:=hV.hl
 refine oU (ok_of lw20 (by simp) ?_)
 unfold c20 P.bF P.sps P.rds
 simp -implicitDefEqProofs only [rX,↓rY,aA,cells?,↓reduceIte,Nat.reduceEqDiff,Nat.reduceAdd,aC,aK]
 refine aE hF.e51 ⟨⟨bB.1,trivial⟩,bB.2,trivial⟩ rfl trivial ?_
 unfold P.net
 simp -implicitDefEqProofs only [rX,↓rY,aA,cells?,splice,↓reduceIte,Nat.reduceEqDiff,Nat.reduceAdd,reduceCtorEq,aC,isC,aQ]
 refine aE (aaI (P.nN ps) cut hcl) (by simp [aF,aG,aN,bD,wkL,wk,wkR,wkB,P.li]) rfl trivial ?_
 unfold aaX aaW
 cases hc:pB (P.nN ps) cut with
 | false =>
  simp -implicitDefEqProofs only [rX,↓rY,aA,↓reduceIte,Nat.reduceAdd]
  exact mD ⟨by simp [aM,wfV,wfL,get],by simp [Gv,aM,gvV,gvL,wk,wkL,wkR,P.li,get]⟩
 | true =>
  have hcP:w5 (P.nN ps) cut:=of_decide_eq_true hc
  have hs:=afT (ps:=ps) (rs:=rs) hcP
  have hr:=(Sx (ps:=ps) (rs:=rs) hcP).2
  simp -implicitDefEqProofs only [rX,↓rY,aA,cells?,↓reduceIte,Nat.reduceEqDiff,Nat.reduceAdd,reduceCtorEq,aC]
  have hnd:=My (ps:=ps) (rs:=rs) hcP
  generalize hNe:P.nN ps=N at *
  generalize hAe:P.cK ps rs=arcs at *
  have hZ1:=agL (ps:=ps) (rs:=rs)
  rw [hAe] at hZ1
  have hZ2:=agK (ps:=ps) (rs:=rs)
  have hZl:(ZL ps rs).length=arcs.length:=by rw [←hZ1,yan]
  refine dE [P.net N arcs,P.li cut] (.clo 83 [.ptr 0 0 0,.ptr 1 0 0]) (.clo 83 [.ptr 4 0 0,.ptr 5 0 0]) [.var [.i N,.ro 4 (arcs.map Arc.enc)],.var [P.li cut]] [.var [.i N,.ro 4 (arcs.map Arc.enc)],.var [P.li cut]] (adL N arcs cut) (by simp [aF,aG,aN,bD,wkL,wk,wkR,P.net,P.li]) rfl rfl trivial ?_
  simp -implicitDefEqProofs only [rX]
  refine Ec 6 rfl rfl trivial ?_
  refine Um (as':=[.itr 6,.ptr 4 0 0,.ptr 5 0 0]) (h':=Wf ps rs N arcs cut ([],[])) rfl ⟨_,.virt 2 1 (by decide) (.nilB 2 [.nil] [.sl 7 0 0] rfl ⟨rfl,fun i a b h1 h2=>?_⟩ (.nilB 3 [.nil] [.sl 8 0 0] rfl ⟨rfl,fun i a b h1 h2=>?_⟩ (.refl _))),?_⟩
   (afK (Inv:=fun i g=>g=(fPl (ZL ps rs) cut i,fRd (ZL ps rs) cut i)) (akN ps rs N arcs cut) (by omega) (by omega) hcl (fun x hx=>⟨(hcP.1 x hx).1,(hcP.1 x hx).2.1⟩) (fun x hx=>⟨(hV.ha x hx).1,(hV.ha x hx).2.1⟩) ?_ ?_ ?_ _ ?_)
  ·match i with
   | 0=>simp at h1 h2;subst h1 h2;exact .inr ⟨rfl,_,rfl⟩
   | i+1=>simp at h1
  ·match i with
   | 0=>simp at h1 h2;subst h1 h2;exact .inr ⟨rfl,_,rfl⟩
   | i+1=>simp at h1
  ·simp -implicitDefEqProofs only [rX,↓reduceIte,Nat.reduceEqDiff,Nat.reduceAdd,reduceCtorEq,leE,leH,leB,leV,aZ,aD,aB,wfE,wfB,wfV,wfL,aJ,aK,P.li,List.replicate_succ]
   exact .inr trivial
  ·rintro i g hi rfl ho
   obtain ⟨hz,z1,z2⟩:=agJ hAe hi
   rw [←z1] at ho
   rw [(f_n hz ho).1,(f_n hz ho).2]
  ·rintro i g hi rfl ho e bb Z he hZ
   obtain ⟨hz,z1,z2⟩:=agJ hAe hi
   rw [←z1] at ho
   obtain ⟨l1,l2⟩:=Ys (Z:=ZL ps rs) (cut:=cut) (i:=i)
   have e1:=he.e0;have e2:=he.e4;have e3:=he.e23;have e4:=he.e24;have e5:=he.e25;have e6:=he.e43
   generalize hP:fPl (ZL ps rs) cut i=PL at *
   generalize hR:fRd (ZL ps rs) cut i=RL at *
   have tkP:yac PL.length (yag P.encI PL)=yag P.encI PL:=yah (by simp)
   have tkR:yac RL.length (yag P.encI RL)=yag P.encI RL:=yah (by simp)
   refine Lg 11 rfl rfl rfl ?_
   unfold c20a0
   simp -implicitDefEqProofs only [rX,rZ,↓rW,↓reduceIte,Nat.reduceEqDiff,Nat.reduceAdd,aQ,aJ,l7]
   unfold c20r0
   simp -implicitDefEqProofs only [rX,↓rY,↓reduceIte,Nat.reduceEqDiff,Nat.reduceAdd]
   refine aE (ajL ps rs i hF _ z2) ⟨⟨bB.1,trivial,trivial⟩,bB.2,rfl,trivial⟩ rfl (by simp [aD,aB]) ?_
   cases hp:decide (0≤(ZL ps rs)[i].2.1) with
   | true =>
    have hp':=of_decide_eq_true hp
    obtain ⟨q1,q2⟩:=f_p hz ho hp'
    simp -implicitDefEqProofs only [rX,↓rY,rZ,↓rW,aA,cells?,splice,↓reduceIte,Nat.reduceEqDiff,Nat.reduceAdd,reduceCtorEq,aC,bZ,bO,bE,kill,bQ,St.kill,isD,isC,Nat.reduceLT,tkP,tkR,hp]
    refine ⟨by omega,?_⟩
    have hz':=hZ (bO [7] e) (PL++[(ZL ps rs)[i].2.1],RL) [.var (bQ [7] arcs[i].enc),.dead,.arr 1 [[.i (ZL ps rs)[i].2.1]],.dead] (E83.kill he (by decide)) (by rw [q1,q2,hP,hR])
    simp only [Wf,yal,yaq,yaD,yaK,yao,yaW] at hz'
    exact hz'
   | false =>
    have hp':=of_decide_eq_false hp
    obtain ⟨q1,q2⟩:=f_r hz ho (by omega)
    simp -implicitDefEqProofs only [rX,↓rY,rZ,↓rW,aA,cells?,splice,↓reduceIte,Nat.reduceEqDiff,Nat.reduceAdd,reduceCtorEq,aC,bZ,bO,bE,kill,bQ,St.kill,isD,isC,Nat.reduceLT,tkP,tkR,hp]
    refine ⟨by omega,?_⟩
    have hz':=hZ (bO [8] e) (PL,RL++[(ZL ps rs)[i].2.2]) [.var (bQ [8] arcs[i].enc),.dead,.arr 1 [[.i (ZL ps rs)[i].2.2]],.dead] (E83.kill he (by decide)) (by rw [q1,q2,hP,hR])
    simp only [Wf,yal,yaq,yaD,yaK,yao,yaW] at hz'
    exact hz'
  ·rintro g rfl
   obtain ⟨l1,l2⟩:=Ys (Z:=ZL ps rs) (cut:=cut) (i:=arcs.length)
   rw [←hZl] at l1 l2 ⊢
   rw [hr] at l2 ⊢
   generalize hP:fPl (ZL ps rs) cut (ZL ps rs).length=PL at *
   simp -implicitDefEqProofs only [rX,↓rY,rZ,↓rW,↓reduceIte,Nat.reduceEqDiff,Nat.reduceAdd,aB,wfE,wfB,wfV,wfL]
   have hpl:PL.length=(spP ps cut ps.length).length:=by rw [←hs,Lt]
   have hpb:(spP ps cut ps.length).length≤1000000:=by omega
   have o63:=ajK PL (by omega)
   rw [hs,hpl] at o63
   have o64:=ajJ (spP ps cut ps.length) hpb Gq
   have w1:∀ f:Nat→Option Nat,bX f (.arr 1 (PL.map P.encI))=.arr 1 (PL.map P.encI):=fun f=>rfl
   rw [hpl]
   refine cY [7] [.sl 0 0 (spP ps cut ps.length).length] (.tup []) (.tup []) [.arr 1 (PL.map P.encI)] [.arr 1 ((spP ps cut ps.length).map P.encI)] _ o63 (by simp [aQ]) rfl (by simp [aF,aG,aN,bD,wkL,wk,pos]) (by simp) rfl rfl trivial ?_
   simp -implicitDefEqProofs only [rX,↓rY,rdK,↓reduceIte,Nat.reduceEqDiff,Nat.reduceAdd,aJ,bM,bX,List.set_cons_succ]
   refine cY [7] [.sl 0 0 (spP ps cut ps.length).length] (.sl 0 0 (spP ps cut ps.length).length) (.sl 7 0 (spP ps cut ps.length).length) [.arr 1 ((spP ps cut ps.length).map P.encI)] [.arr 1 ((spP ps cut ps.length).map P.encI)] _ o64 (by simp) rfl (by simp [aF,aG,aN,bD,wkL,wk,pos]) (by simp) rfl rfl trivial ?_
   simp -implicitDefEqProofs only [rX,↓reduceIte,Nat.reduceEqDiff,Nat.reduceAdd,bM,bX,List.set_cons_succ]
   rw [fO]
   simp -implicitDefEqProofs only [rX,↓reduceIte,Nat.reduceEqDiff,aL,aM,aD,aB,wfV,wfL]
   have tkP:yac (spP ps cut ps.length).length (yag P.encI (spP ps cut ps.length))=yag P.encI (spP ps cut ps.length):=yah (by simp)
   have tkR:yac (spR rs cut rs.length).length (yag P.encI (spR rs cut rs.length))=yag P.encI (spR rs cut rs.length):=yah (by simp)
   refine ⟨[.dead,.dead,.dead,.dead,.dead,.dead,.dead,.arr 1 ((spP ps cut ps.length).map P.encI),.arr 1 ((spR rs cut rs.length).map P.encI)],⟨by simp [leH,leB],by simp [wfV,wfL,aB],by simp [wfB]⟩,?_⟩
   simp [Gv,gvV,gvL,wk,wkL,wkR,blk,P.li,tkP,tkR]
  ·rw [f_0.1,f_0.2]
set_option maxRecDepth 20000
open Go.Fx.P (Arc aH)
abbrev h21 (ps:List aH) (rs:List P.Road) (A B:List Int):List Blk:=[.var [.ro 3 (ps.map aH.enc),.ro 4 (rs.map P.Road.enc)],.var [.any,.any],.var [.sl 3 0 A.length,.sl 4 0 B.length],.arr 1 (A.map P.encI),.arr 1 (B.map P.encI)]
set_option maxRecDepth 20000
open Go.Fx.P (Arc aH)
theorem nJ {r:Rf} (h:r.sg.length=16):r.enc.length=24:=by unfold Rf.enc;simp [fL,h]
theorem Ly {r:Rf} (h:r.sg.length=16):yac 24 r.enc=r.enc:=yah (by rw [nJ h];exact yar _)
theorem aiL {r:Rf}:r.enc[0]?=some (.i r.place):=rfl
theorem aiK {r:Rf}:r.enc[1]?=some (.i r.n):=rfl
theorem aiJ {r:Rf}:r.enc[2]?=some (.i r.win):=rfl
theorem aiI {r:Rf}:r.enc[3]?=some (.i r.sent):=rfl
theorem adA {q:List Blk} {r:Rf}:wfL q r.enc:=⟨trivial,trivial,trivial,trivial,trivial,trivial,trivial,trivial,cX⟩
abbrev bR (l:List Rf):V:=.bro 24 (l.map Rf.enc)
def Ci (x y:Rf):Bool:=x.place==y.place&&x.n==y.n
def twR (l:List Rf) (x:Rf):Bool:=l.any (Ci x)
def Bx (ps:List aH) (rs:List P.Road) (l:List Rf) (k:Nat):Int :=
 match l[k]? with
 | none=>0
 | some r=>if Ba ps rs r≠0 then Ba ps rs r else if some r.win≠l.head?.map (·.win) then 1 else if twR (l.take k) r then 6 else if (k:Int)≥P.dem ps-r.sent then 4 else 0
def Kx (ps:List aH) (rs:List P.Road) (l:List Rf):Int × Int :=
 match (yae l.length).find? (fun k=>Bx ps rs l k != 0) with
 | none=>(-1,0)
 | some k=>(k,Bx ps rs l k)
structure AlI (ps:List aH) (rs:List P.Road) (l:List Rf) (k:Nat):Prop where
 le:k≤l.length
 h:∀ j,j<k→Bx ps rs l j=0
theorem AlI.at {ps:List aH} {rs:List P.Road} {l:List Rf} {k:Nat} (h:AlI ps rs l k) (hk:k<l.length) (he:Bx ps rs l k≠0):Kx ps rs l=((k:Int),Bx ps rs l k):=by
 unfold Kx
 have:(yae l.length).find? (fun k=>Bx ps rs l k != 0)=some k:=by
  rw [List.find?_eq_some_iff_getElem]
  refine ⟨by simpa using he,k,by simpa using hk,by simp,fun j hj=>?_⟩
  simp [h.h j hj]
 rw [this]
theorem AlI.all {ps:List aH} {rs:List P.Road} {l:List Rf} (h:AlI ps rs l l.length):Kx ps rs l=(-1,0):=by
 unfold Kx
 have:(yae l.length).find? (fun k=>Bx ps rs l k != 0)=none:=by
  rw [List.find?_eq_none]
  intro k hk
  have:=h.h k (by simpa using hk)
  simp [this]
 rw [this]
theorem AlI.next {ps:List aH} {rs:List P.Road} {l:List Rf} {k:Nat} (h:AlI ps rs l k) (hk:k<l.length) (he:Bx ps rs l k=0):AlI ps rs l (k+1):=⟨by omega,fun j hj=>by
 by_cases e:j=k
 ·subst e;exact he
 ·exact h.h j (by omega)⟩
theorem abF {ps:List aH} {rs:List P.Road} {l:List Rf} {k:Nat} (hk:k<l.length) (h0:0<l.length):Bx ps rs l k=if Ba ps rs l[k]≠0 then Ba ps rs l[k] else if l[k].win≠l[0].win then 1 else if twR (l.take k) l[k] then 6 else if (k:Int)≥P.dem ps-l[k].sent then 4 else 0:=by
 unfold Bx
 rw [yab hk]
 have:l.head?.map (·.win)=some l[0].win:=by
  cases l with
  | nil=>simp at h0
  | cons x r=>rfl
 simp only [this,ne_eq,yaB]
def Wc (x:Rf):Value:=.agg #[.int .i64 x.place,.int .i64 x.n]
def uT:List Rf→Nat→List (Value × V × Nat)
 | [],_=>[]
 | x::l,i=>(Wc x,.b true,i)::uT l (i+1)
theorem Ic:∀ {l:List Rf} {i:Nat} {x:Rf},uT (l++[x]) i=uT l i++[(Wc x,.b true,i+l.length)]
 | [],i,x=>rfl
 | y::l,i,x=>by
  simp only [yaE,uT,Ic,yaD]
  rw [show i+1+l.length=i+(l.length+1) by omega]
abbrev rfK:List (Nat × TypeDesc):=[(0,.int .i64),(1,.int .i64)]
theorem uS:∀ {l:List Rf} {i:Nat},pX rfK (uT l i)
 | [],_=>fun e he=>by cases he
 | x::l,i=>fun e he=>by
  rcases yad.1 he with rfl|he
  ·exact ⟨_,rfl,rfl,rfl⟩
  ·exact uS e he
theorem Mr:∀ {l:List Rf} {x:Rf} {i j:Nat},fJ [.int .i64 x.place,.int .i64 x.n] (uT l i) j=if twR l x then some (j+l.findIdx (Ci x),.b true) else none
 | [],x,i,j=>rfl
 | y::l,x,i,j=>by
  simp only [uT,fJ,Wc,Mr]
  have key:(List.zip [Value.int .i64 x.place,.int .i64 x.n] (#[Value.int .i64 y.place,.int .i64 y.n]:Array Value).toList).all (fun p=>eqK p.1 p.2)=Ci x y:=by
   simp [eqK,Ci]
  rw [key]
  cases h:Ci x y with
  | true=>simp [twR,h,List.findIdx_cons]
  | false =>
   simp only [twR,List.any_cons,h,Bool.false_or,List.findIdx_cons,yaZ,if_false,cond_false]
   by_cases h2:l.any (Ci x)=true
   ·simp only [h2,if_true];congr 2;omega
   ·simp only [h2,yaZ,if_false]
theorem Fa {h:List Blk}:∀ {l:List Rf} {i:Nat},wfL h ((uT l i).map fun x=>x.2.1)
 | [],_=>by simp [uT,wfL]
 | x::l,i=>by
  simp only [uT,yao,wfL]
  exact ⟨by simp [wfV],Fa⟩
theorem abN {ps:List aH} {rs:List P.Road} {r:Rf} (h:Ba ps rs r=0):lZ ps rs r=true∧∃ x,fU ps r.place=some x∧0≤r.n∧r.n<x.cap:=by
 unfold Ba at h
 split at h
 ·cases h
 ·rename_i x hx
  by_cases h1:r.n<0∨x.cap≤r.n∨pS r.win=false
  ·rw [if_pos h1] at h;cases h
  ·rw [if_neg h1] at h
   by_cases h2:lZ ps rs r=true
   ·exact ⟨h2,x,hx,by omega,by omega⟩
   ·rw [if_neg h2] at h;cases h
theorem Vj {ps:List aH} {rs:List P.Road} {r:Rf} (hF:gK ps rs) (h:lZ ps rs r=true):0≤r.sent∧r.sent<P.dem ps:=by
 unfold lZ at h
 simp only [yaC,decide_eq_true_eq,beq_iff_eq] at h
 have:=Uc (cut:=r.cut) (fun a ha=>(hF.net.ha a ha).2.2.2.1) (yar (P.cK ps rs).length)
 have e:bnd (P.cK ps rs) r.cut=uY (P.cK ps rs) r.cut (P.cK ps rs).length:=rfl
 omega
theorem afV {ps:List aH} {rs:List P.Road} (hF:gK ps rs):0≤P.dem ps∧P.dem ps≤10737418240:=by
 have hcap:=(P.iJ hF.ok).2.1
 have h1:=P.xX hcap (P.ofN ps 1 ps.length)
 have h2:=P.fF (ps:=ps) (kind:=1) (n:=ps.length)
 have:=hF.pl
 unfold P.dem
 omega
set_option maxHeartbeats 2000000 in
theorem akF (ps:List aH) (rs:List P.Road) (l:List Rf) (hF:gK ps rs) (hll:l.length≤1000000) (hsg:∀ r∈l,r.sg.length=16) (hcl:∀ r∈l,r.cut.length≤1000000):Ok 23 [P.bF ps rs,bR l] (Is (.tup [.i (Kx ps rs l).1,.i (Kx ps rs l).2])):=by
 have hdb:=afV hF
 refine ok_of lw23 (by simp) ?_
 unfold c23 P.bF
 simp -implicitDefEqProofs only [rX,↓rY,aA,cells?,↓reduceIte,Nat.reduceEqDiff,Nat.reduceAdd,aC,aK]
 refine aE hF.e55 ⟨⟨bB.1,trivial⟩,bB.2,trivial⟩ rfl trivial ?_
 simp -implicitDefEqProofs only [rX,↓rY,aA,↓reduceIte,Nat.reduceEqDiff,Nat.reduceAdd,reduceCtorEq,aC,aJ]
 intro hml
 refine cD (fun k:Nat=>(⟨[(17,.i k),(16,.i l.length),(15,bR l),(7,.mp 1),(6,.i (P.dem ps)),(2,.ptr 0 0 0),(1,bR l)],[.var [P.sps ps,P.rds rs],.map (uT (l.take k) 0) k],0⟩:St)) (AlI ps rs l) (fun k=>l.length-k) 0 ⟨yap _,fun j h=>by omega⟩ ?_ ?_
 ·refine ⟨by simp -implicitDefEqProofs only [rX,↓reduceIte,Nat.reduceEqDiff,reduceCtorEq,leE];rfl,⟨aU _,by rw [List.take_zero];exact aU _,trivial⟩,trivial,by simp -implicitDefEqProofs only [rX,aB,wfE,wfV],by simp -implicitDefEqProofs only [rX,wfB,wfV,wfL,P.sps,P.rds];exact Fa⟩
 intro k hI N hN
 have hle:=hI.le
 have b0:lo IntKind.i64≤(k:Int)+1∧(k:Int)+1≤Fx.hi IntKind.i64:=⟨by simp only [lo];omega,by simp only [Fx.hi];omega⟩
 simp only [c23l0]
 simp -implicitDefEqProofs only [rX,↓rY,aA,cells?,splice,↓reduceIte,Nat.reduceEqDiff,Nat.reduceAdd,aC,aL,aM,wfV,wfL,yaf,yaa,aQ]
 cases h1:decide ((k:Int)<(l.length:Int)) with
 | false =>
  have h1':=of_decide_eq_false h1
  obtain rfl:k=l.length:=by omega
  rw [hI.all]
  simp -implicitDefEqProofs only [↓rY]
 | true =>
  have h1':=of_decide_eq_true h1
  have hk:k<l.length:=by omega
  have hs:=hsg _ (yak hk)
  have he:=abF (ps:=ps) (rs:=rs) hk (by omega)
  simp -implicitDefEqProofs only [rX,↓rY,yab hk,nJ hs,Ly hs,Ed,uW]
  refine ⟨⟨by omega,by omega⟩,hk,?_⟩
  refine aE (aeB ps rs l[k] hF (hcl _ (yak hk))) ⟨⟨bB.1,(eA rfl).1,trivial⟩,bB.2,(eA rfl).2,trivial⟩ rfl trivial ?_
  cases d1:(Ba ps rs l[k] != 0) with
  | true =>
   have d1':=bne_iff_ne.1 d1
   rw [if_pos d1'] at he
   rw [hI.at hk (by rw [he];exact d1'),he]
   simp -implicitDefEqProofs only [rX,↓rY,aA,cells?,splice,↓reduceIte,Nat.reduceEqDiff,Nat.reduceAdd,aC,bH,aL,aM,wfV,wfL,Nat.reduceLeDiff,yaf,aQ,d1]
  | false =>
   have d1':Ba ps rs l[k]=0:=by simpa using d1
   obtain ⟨hsh,x,hx,hn1,hn2⟩:=abN d1'
   have hsb:=Vj hF hsh
   rw [if_neg (by simp [d1'])] at he
   have h0:0<l.length:=by omega
   have hs0:=hsg _ (yak h0)
   have e0:(l.map Rf.enc)[0]?=some l[0].enc:=by rw [yaz,yab h0];rfl
   simp -implicitDefEqProofs only [rX,↓rY,aA,cells?,splice,↓reduceIte,Nat.reduceEqDiff,Nat.reduceAdd,aC,bH,aL,aM,wfV,wfL,isC,Nat.reduceLeDiff,yaf,aQ,d1,yab hk,yab h0,nJ hs,nJ hs0,aiL,aiK,aiJ,aiI]
   refine ⟨⟨by omega,by omega⟩,h0,?_⟩
   have t0:Int.toNat 0=0:=rfl
   simp only [t0]
   cases d2:(l[k].win != l[0].win) with
   | true =>
    have d2':=bne_iff_ne.1 d2
    rw [if_pos d2'] at he
    rw [hI.at hk (by rw [he];decide),he]
    simp only [wc]
   | false =>
    have d2':l[k].win=l[0].win:=by simpa using d2
    rw [if_neg (by simp [d2'])] at he
    simp only [wd,Mr]
    refine ⟨rfl,uS,?_⟩
    cases d3:twR (l.take k) l[k] with
    | true =>
     rw [if_pos d3] at he
     rw [hI.at hk (by rw [he];decide),he]
     simp [d0,brV,br]
    | false =>
     rw [if_neg (by simp [d3])] at he
     simp only [yaZ,if_false,d0,aA,brV,wd]
     refine ⟨⟨by simp only [lo];omega,by simp only [Fx.hi];omega⟩,?_⟩
     cases d4:decide (P.dem ps-l[k].sent≤(k:Int)) with
     | true =>
      have d4':=of_decide_eq_true d4
      rw [if_pos (by omega)] at he
      rw [hI.at hk (by rw [he];decide),he]
      simp only [wc]
     | false =>
      have d4':=of_decide_eq_false d4
      rw [if_neg (by omega)] at he
      simp only [wd,gM]
      refine ⟨rfl,uS,b0,hN _ (k+1) (hI.next hk he) (by omega) ?_⟩
      have ent:uT (l.take (k+1)) 0=uT (l.take k) 0++[(Wc l[k],.b true,k)]:=by
       rw [List.take_succ_eq_append_getElem hk,Ic,yaX,show 0+min k l.length=k by omega]
      refine ⟨by simp -implicitDefEqProofs only [rX,↓reduceIte,Nat.reduceEqDiff,leE];rfl,⟨aU _,by rw [ent];exact aU _,by unfold leH;trivial⟩,trivial,by simp -implicitDefEqProofs only [rX,aB,wfE,wfV],by simp -implicitDefEqProofs only [rX,wfB,wfV,wfL,P.sps,P.rds];exact Fa⟩
set_option maxRecDepth 20000
open Go.Fx.P (Arc aH)
theorem adU (l:List Int) (hl:l.length≤1000000000):Ok 22 [bI' l,bI' l] (Is (.b true)):=by
 refine ok_of lw22 (by simp) ?_
 unfold c22
 simp -implicitDefEqProofs only [rX,↓rY,aA,↓reduceIte,Nat.reduceEqDiff,reduceCtorEq,aJ,aK,bne_self_eq_false]
 intros
 refine cD (fun j:Nat=>(⟨[(5,.i j),(1,bI' l),(0,bI' l)],[],0⟩:St)) (fun j=>j≤l.length) (fun j=>l.length-j) 0 (yap _) ?_ ?_
 ·exact ⟨by simp -implicitDefEqProofs only [rX,↓reduceIte,Nat.reduceEqDiff,reduceCtorEq,leE];rfl,bA _,trivial,by simp -implicitDefEqProofs only [rX,wfE,wfV],by simp -implicitDefEqProofs only [wfB]⟩
 intro j hj N hN
 simp only [c22l0]
 simp -implicitDefEqProofs only [rX,↓rY,aA,↓reduceIte,Nat.reduceEqDiff,reduceCtorEq,aL,aM,wfV,yaf,yaa]
 intro hml
 cases h1:decide ((j:Int)<(l.length:Int)) with
 | true =>
  have h1':=of_decide_eq_true h1
  have hj':j<l.length:=by omega
  have bj:0≤(j:Int)∧(j:Int)<(l.length:Int):=by omega
  simp -implicitDefEqProofs only [rX,↓rY,yab hj',P.bW,bne_self_eq_false]
  refine ⟨bj,hj',bj,hj',⟨by simp only [lo];omega,by simp only [Fx.hi];omega⟩,hN _ (j+1) (by omega) (by omega) ?_⟩
  exact ⟨by simp -implicitDefEqProofs only [rX,↓reduceIte,Nat.reduceEqDiff,reduceCtorEq,leE];rfl,bA _,trivial,by simp -implicitDefEqProofs only [rX,wfE,wfV],by simp -implicitDefEqProofs only [wfB]⟩
 | false =>
  have h1':=of_decide_eq_false h1
  simp -implicitDefEqProofs only [↓rY]
theorem afU {a b:Int} {K:Bool→Prop}:(dK (tP (.agg [.i a,.i b])) fun xs=>dK (tP (.agg [.i a,.i b])) fun ys=>gJ xs ys [(0,.int .i64),(1,.int .i64)] K)=K true:=by
 show ((_∧_)∧((_∧_)∧K _))=_
 simp [eqK,isKey]
set_option maxHeartbeats 1000000 in
theorem akJ (r:Rf) (hsg:r.sg.length=16) (hcl:r.cut.length≤1000000):Ok 12 [.agg r.enc,.agg r.enc] (Is (.b true)):=by
 refine ok_of lw12 (by simp) ?_
 obtain ⟨u1,u2,u3⟩:=Du hsg
 unfold c12 Rf.enc
 simp -implicitDefEqProofs only [rX,↓rY,aA,cells?,↓reduceIte,Nat.reduceEqDiff,Nat.reduceAdd,reduceCtorEq,aC,aL,aM,wfV,Nat.reduceLeDiff,aK,beq_self_eq_true,↓afU,↓Tg hsg hsg,fL,hsg,u2]
 refine aE (adU r.cut (by omega)) (by simp [aF,aG,aN,bD,wkL,wk,wkR,wkB,P.li]) rfl trivial ?_
 simp -implicitDefEqProofs only [rX,↓rY,↓reduceIte,Nat.reduceEqDiff,aL,aM,wfV]
open Classical in
noncomputable def Sw (ps:List aH) (rs:List P.Road):Bool:=decide (gK ps rs)
open Classical in
theorem ok8 (ps:List aH) (rs:List P.Road):Ok 8 [P.bF ps rs] (Is (.b (Sw ps rs))):=by
 refine ok_of lw8 (by simp) ?_
 unfold c8 P.bF P.sps P.rds Sw
 simp -implicitDefEqProofs only [rX,↓rY,aA,cells?,↓reduceIte,Nat.reduceEqDiff,Nat.reduceAdd,aC,aL,aM,wfV,aK]
 intro _
 cases h1:decide ((ps.length:Int)≤6) with
 | false =>
  have h1':=of_decide_eq_false h1
  simp -implicitDefEqProofs only [↓rY]
  rw [decide_eq_false fun q:gK ps rs=>h1' (by have:=q.pl;omega)]
 | true =>
  have h1':=of_decide_eq_true h1
  simp -implicitDefEqProofs only [↓rY]
  intro _
  cases h2:decide ((rs.length:Int)≤20) with
  | false =>
   have h2':=of_decide_eq_false h2
   simp -implicitDefEqProofs only [↓rY]
   rw [decide_eq_false fun q:gK ps rs=>h2' (by have:=q.rl;omega)]
  | true =>
   have h2':=of_decide_eq_true h2
   simp -implicitDefEqProofs only [↓rY]
   refine aE (P.adR ps rs) ⟨⟨⟨trivial,trivial,trivial⟩,trivial⟩,⟨⟨rfl,rfl⟩,⟨rfl,rfl⟩,trivial⟩,trivial⟩ rfl trivial ?_
   simp -implicitDefEqProofs only [rX,↓rY,aA,↓reduceIte,Nat.reduceEqDiff,aL,aM,wfV]
   by_cases h3:P.fI ps rs=0
   ·rw [h3,decide_eq_true (⟨h3,by omega,by omega⟩:gK ps rs)];rfl
   ·rw [decide_eq_false fun q:gK ps rs=>h3 q.ok,beq_eq_false_iff_ne.2 h3]
def keyK (n:Int):Ky:=⟨1000+n,1,[115],0,1099511627776⟩
theorem Jx (n:Int) (hn:-1000000≤n∧n≤1000000):Ok 30 [.i n] (Is (.agg (keyK n).enc)):=by
 refine ok_of lw30 (by simp) ?_
 unfold c30
 simp -implicitDefEqProofs only [rX,↓rY,aA,cells?,splice,↓reduceIte,Nat.reduceEqDiff,Nat.reduceAdd,reduceCtorEq,aC,bH,aL,aM,wfV,wfL,isC,Nat.reduceLeDiff,aQ,aK]
 exact ⟨⟨by simp only [lo];omega,by simp only [Fx.hi];omega⟩,rfl⟩
set_option maxRecDepth 20000
open Go.Fx.P (Arc aH)
def Ud (e:Env):List V→List (Nat × Nat × Operand)→Option V
 | acc,[]=>some (.agg acc)
 | acc,(off,sz,x)::r=>match cells? (ev e x) with
  | some cs=>if cs.length=sz∧off+sz≤acc.length then Ud e (splice acc off cs) r else none
  | none=>none
theorem Nl {e:Env} {K:V→Prop} {y:V}:∀ (ps:List (Nat × Nat × Operand)) (acc:List V),Ud e acc ps=some y→K y→bH e acc ps K
 | [],acc,h,hK=>by
  simp only [Ud,yaB] at h
  subst h;exact hK
 | (off,sz,x)::r,acc,h,hK=>by
  simp only [Ud] at h
  simp only [bH]
  cases hc:cells? (ev e x) with
  | none=>rw [hc] at h;exact absurd h (by simp)
  | some cs =>
   rw [hc] at h
   simp only at h
   split at h
   ·next q=>exact ⟨q,Nl r _ h hK⟩
   ·exact absurd h (by simp)
def Sb (e:Env) (sz:Nat):List (List V)→List (Nat × Operand)→Option (List (List V))
 | acc,[]=>some acc
 | acc,(i,x)::r=>match cells? (ev e x) with
  | some cs=>if (cs.length=sz∧i<acc.length)∧cs.all isD=true then Sb e sz (acc.set i cs) r else none
  | none=>none
theorem Mt {e:Env} {sz:Nat} {K:List (List V)→Prop} {y:List (List V)}:∀ (ps:List (Nat × Operand)) (acc:List (List V)),Sb e sz acc ps=some y→K y→bZ e sz acc ps K
 | [],acc,h,hK=>by
  simp only [Sb,yaB] at h
  subst h;exact hK
 | (i,x)::r,acc,h,hK=>by
  simp only [Sb] at h
  simp only [bZ]
  cases hc:cells? (ev e x) with
  | none=>rw [hc] at h;exact absurd h (by simp)
  | some cs =>
   rw [hc] at h
   simp only at h
   split at h
   ·next q=>exact ⟨q,Mt r _ h hK⟩
   ·exact absurd h (by simp)
theorem Kt {cx:Cx} {d:Option Nat} {z:List Value} {ps:List (Nat × Nat × Operand)} {r:List bP} {s:St} {Ks:St→Prop} (y:V)
  (hy:Ud s.e (z.map .v) ps=some y) (hK:eS cx r (s.put d y) Ks):eS cx (⟨d,.build z ps,none⟩::r) s Ks :=
 Nl (K:=fun y=>eS cx r (s.put d y) Ks) ps _ hy hK
theorem Sa {cx:Cx} {d:Option Nat} {z:List Value} {j sz n:Nat} {ps:List (Nat × Operand)} {r:List bP} {s:St} {Ks:St→Prop} (els:List (List V))
  (hy:Sb s.e sz (yaP n (z.map .v)) ps=some els) (hf:aC s.h (s.b+j))
  (hK:eS cx r (St.put { s with h:=s.h.set (s.b+j) (.arr sz els) } d (.sl (s.b+j) 0 n)) Ks):eS cx (⟨d,.lits j sz n z ps,none⟩::r) s Ks :=
 Mt (K:=fun els=>aC s.h (s.b+j)∧eS cx r (St.put { s with h:=s.h.set (s.b+j) (.arr sz els) } d (.sl (s.b+j) 0 n)) Ks) ps _ hy ⟨hf,hK⟩
def dZ:List aH:=[⟨1,1,5⟩,⟨1,2,3⟩,⟨2,10,6⟩,⟨3,7,4⟩]
def eO:List P.Road:=[⟨0,2,9,1⟩,⟨1,2,9,2⟩,⟨2,3,9,1⟩,⟨1,3,1,5⟩]
theorem akA:Ok 33 [] (Is (P.bF dZ eO)):=by
 refine oU (ok_of lw33 (by simp) ?_)
 unfold c33
 simp -implicitDefEqProofs only [zc,qY,aK]
 rw [zj,zp]
 refine ⟨trivial,?_⟩
 simp -implicitDefEqProofs only [zi,zc,qY,kQ]
 iterate 4 refine Kt _ (by rfl) ?_
 refine Sa _ (by rfl) (by exact trivial) ?_
 iterate 4 refine Kt _ (by rfl) ?_
 refine Sa _ (by rfl) (by exact trivial) ?_
 refine Kt _ (by rfl) ?_
 simp -implicitDefEqProofs only [rX,↓rY,cells?,splice,↓reduceIte,Nat.reduceEqDiff,Nat.reduceAdd,reduceCtorEq,isC,aQ,St.put]
 rw [fO]
 refine And.intro (by decide) ?_
 refine ⟨[.dead,.arr 3 (dZ.map aH.enc),.arr 4 (eO.map P.Road.enc)],⟨⟨trivial,aU _,aU _,trivial⟩,trivial,yap _,⟨trivial,trivial,trivial⟩,trivial⟩,?_⟩
 simp [Gv,aM,gvV,gvL,blk,wk,wkR,wkL,dZ,eO,P.bF,P.sps,P.rds]
set_option maxRecDepth 20000
open Go.Fx.P (Arc aH)
theorem Wv {n:Int} {cut:List Int} (h:P.K.OkS n cut cut.length∧P.K.hasB cut 0=true∧P.K.hasB cut 1=false):w5 n cut:=by
 obtain ⟨⟨hs⟩,c0,c1⟩:=h
 have:=CuS.all (n:=n) (cut:=cut) ⟨yar _,fun i hi _=>(hs i hi hi).1,fun i hi _=>by
  have:=(hs (i+1) hi hi).2 (by omega)
  rwa [Nat.add_sub_cancel,yam,yab (by omega)] at this⟩
 rw [show hasB cut 0=true from c0,show hasB cut 1=false from c1] at this
 exact of_decide_eq_true this
def iH:List Arc:=[⟨2,3,5,0⟩,⟨4,5,3,0⟩,⟨6,7,6,0⟩,⟨8,9,4,0⟩,⟨0,2,5,0⟩,⟨0,4,3,0⟩,⟨9,1,4,0⟩,⟨3,6,9,1⟩,⟨5,6,9,2⟩,⟨7,8,9,1⟩,⟨5,8,1,5⟩]
theorem Tc:P.fI dZ eO=0:=by
 rw [P.fI,if_neg (by decide),if_neg (by decide),if_pos]
 intro r hr
 rcases yad.1 hr with rfl|hr
 ·exact ⟨by decide,by decide,by decide⟩
 rcases yad.1 hr with rfl|hr
 ·exact ⟨by decide,by decide,by decide⟩
 rcases yad.1 hr with rfl|hr
 ·exact ⟨by decide,by decide,by decide⟩
 rcases yad.1 hr with rfl|hr
 ·exact ⟨by decide,by decide,by decide⟩
 ·cases hr
theorem o6:gK dZ eO:=⟨Tc,by decide,by decide⟩
def iI:List Int:=[0,2,3,4,5,6,7,8]
theorem Ex {fr:P.Fr} (h:P.K.OkAc 10 iH 0 1 8 fr):fr.sent=4∧fr.flow=[4,0,4,4,4,0,4,4,0,4,0]:=by
 obtain ⟨sent,cost,flow,price,cut⟩:=fr
 obtain ⟨⟨hl,hp,hz⟩,hs,hv,_,⟨pl,p0,_,pa⟩,hc⟩:=h
 simp only at hl hp hz hs hv pl p0 pa hc ⊢
 match flow,hl with
 | [x0,x1,x2,x3,x4,x5,x6,x7,x8,x9,x10],_ =>
 match price,pl with
 | [q0,q1,q2,q3,q4,q5,q6,q7,q8,q9],_ =>
 have b0:=hp 0 (by simp) (by decide)
 have b1:=hp 1 (by simp) (by decide)
 have b2:=hp 2 (by simp) (by decide)
 have b3:=hp 3 (by simp) (by decide)
 have b4:=hp 4 (by simp) (by decide)
 have b5:=hp 5 (by simp) (by decide)
 have b6:=hp 6 (by simp) (by decide)
 have b7:=hp 7 (by simp) (by decide)
 have b8:=hp 8 (by simp) (by decide)
 have b9:=hp 9 (by simp) (by decide)
 have b10:=hp 10 (by simp) (by decide)
 have z2:=hz 2 (by decide) (by decide) (by decide) (by decide)
 have z3:=hz 3 (by decide) (by decide) (by decide) (by decide)
 have z4:=hz 4 (by decide) (by decide) (by decide) (by decide)
 have z5:=hz 5 (by decide) (by decide) (by decide) (by decide)
 have z6:=hz 6 (by decide) (by decide) (by decide) (by decide)
 have z7:=hz 7 (by decide) (by decide) (by decide) (by decide)
 have z8:=hz 8 (by decide) (by decide) (by decide) (by decide)
 have z9:=hz 9 (by decide) (by decide) (by decide) (by decide)
 simp [P.K.valTo,iH] at z2 z3 z4 z5 z6 z7 z8 z9 hv
 simp only [iH,yaL,yaM] at b0 b1 b2 b3 b4 b5 b6 b7 b8 b9 b10
 rw [if_neg (by omega)] at hc
 obtain ⟨_,c0,c1,⟨ca⟩⟩:=hc
 have a0:=ca 0 (by decide) (by decide)
 have a1:=ca 1 (by decide) (by decide)
 have a2:=ca 2 (by decide) (by decide)
 have a3:=ca 3 (by decide) (by decide)
 have a4:=ca 4 (by decide) (by decide)
 have a5:=ca 5 (by decide) (by decide)
 have a6:=ca 6 (by decide) (by decide)
 have a7:=ca 7 (by decide) (by decide)
 have a8:=ca 8 (by decide) (by decide)
 have a9:=ca 9 (by decide) (by decide)
 have a10:=ca 10 (by decide) (by decide)
 simp only [iH,yaL,yaM,yba,ybb] at a0 a1 a2 a3 a4 a5 a6 a7 a8 a9 a10
 have e4:x6=4:=by
  apply Classical.byContradiction
  intro hne
  have n1:=c1
  have n9:P.K.hasB cut 9=false:=by
   cases e:P.K.hasB cut 9 with
   | false=>rfl
   | true=>exact absurd (a6.1 e n1) (by omega)
  have n8:P.K.hasB cut 8=false:=by
   cases e:P.K.hasB cut 8 with
   | false=>rfl
   | true=>exact absurd (a3.1 e n9) (by omega)
  have n7:P.K.hasB cut 7=false:=by
   cases e:P.K.hasB cut 7 with
   | false=>rfl
   | true=>exact absurd (a9.1 e n8) (by omega)
  have n6:P.K.hasB cut 6=false:=by
   cases e:P.K.hasB cut 6 with
   | false=>rfl
   | true=>exact absurd (a2.1 e n7) (by omega)
  have n3:P.K.hasB cut 3=false:=by
   cases e:P.K.hasB cut 3 with
   | false=>rfl
   | true=>exact absurd (a7.1 e n6) (by omega)
  have n2:P.K.hasB cut 2=false:=by
   cases e:P.K.hasB cut 2 with
   | false=>rfl
   | true=>exact absurd (a0.1 e n3) (by omega)
  exact absurd (a4.1 c0 n2) (by omega)
 have p10:=pa 0 (by decide)
 have p11:=pa 1 (by decide)
 have p12:=pa 2 (by decide)
 have p13:=pa 3 (by decide)
 have p14:=pa 4 (by decide)
 have p15:=pa 5 (by decide)
 have p16:=pa 6 (by decide)
 have p17:=pa 7 (by decide)
 have p18:=pa 8 (by decide)
 have p19:=pa 9 (by decide)
 have p20:=pa 10 (by decide)
 simp only [iH,yaL,yaM,yba,ybb,Int.reduceToNat] at p10 p11 p12 p13 p14 p15 p16 p17 p18 p19 p20
 have e1:x1=0:=by
  apply Classical.byContradiction
  intro hne
  have k4:¬(0+q0-q2<0):=fun hk=>by have:=p14.1 hk;omega
  have k0:¬(0+q2-q3<0):=fun hk=>by have:=p10.1 hk;omega
  have k7:¬(1+q3-q6<0):=fun hk=>by have:=p17.1 hk;omega
  have k5:¬(0<0+q0-q4):=fun hk=>by have:=p15.2 hk;omega
  have k1:¬(0<0+q4-q5):=fun hk=>by have:=p11.2 hk;omega
  have k9:¬(1+q7-q8<0):=fun hk=>by have:=p19.1 hk;omega
  have k2:¬(0+q6-q7<0):=fun hk=>by have:=p12.1 hk;omega
  rcases (by omega:0<x8∨0<x10) with h8|h10
  ·have k8:¬(0<2+q5-q6):=fun hk=>by have:=p18.2 hk;omega
   omega
  ·have k10:¬(0<5+q5-q8):=fun hk=>by have:=p20.2 hk;omega
   omega
 refine ⟨by omega,?_⟩
 rw [show x0=4 by omega,show x2=4 by omega,show x3=4 by omega,show x4=4 by omega,show x5=0 by omega,show x7=4 by omega,show x8=0 by omega,show x9=4 by omega,show x10=0 by omega,e1,e4]
theorem abC {fr:P.Fr} (h:P.K.OkAc 10 iH 0 1 8 fr) (ht:P.K.Tight iH 0 8 fr):fr.cut=iI:=by
 obtain ⟨g1,g2⟩:=Ex h
 have hc:=h.hc
 rw [if_neg (by omega)] at hc
 obtain ⟨⟨hs⟩,c0,c1,⟨ca⟩⟩:=hc
 rw [g2] at ca
 have ht:=ht (by omega)
 rw [g2] at ht
 obtain ⟨sent,cost,flow,price,cut⟩:=fr
 simp only at hs c0 c1 ca ht ⊢
 have m0:=c0
 have a0:=ca 0 (by decide) (by decide)
 have a1:=ca 1 (by decide) (by decide)
 have a2:=ca 2 (by decide) (by decide)
 have a4:=ca 4 (by decide) (by decide)
 have a5:=ca 5 (by decide) (by decide)
 have a7:=ca 7 (by decide) (by decide)
 have a9:=ca 9 (by decide) (by decide)
 simp only [iH,yaL,yaM,yba,ybb] at a0 a1 a2 a4 a5 a7 a9
 have m2:P.K.hasB cut 2=true:=by
  cases e:P.K.hasB cut 2 with
  | true=>rfl
  | false=>exact absurd (a4.1 m0 e) (by decide)
 have m3:P.K.hasB cut 3=true:=by
  cases e:P.K.hasB cut 3 with
  | true=>rfl
  | false=>exact absurd (a0.1 m2 e) (by decide)
 have m6:P.K.hasB cut 6=true:=by
  cases e:P.K.hasB cut 6 with
  | true=>rfl
  | false=>exact absurd (a7.1 m3 e) (by decide)
 have m7:P.K.hasB cut 7=true:=by
  cases e:P.K.hasB cut 7 with
  | true=>rfl
  | false=>exact absurd (a2.1 m6 e) (by decide)
 have m8:P.K.hasB cut 8=true:=by
  cases e:P.K.hasB cut 8 with
  | true=>rfl
  | false=>exact absurd (a9.1 m7 e) (by decide)
 have m4:P.K.hasB cut 4=true:=by
  cases e:P.K.hasB cut 4 with
  | true=>rfl
  | false=>exact absurd (a5.1 m0 e) (by decide)
 have m5:P.K.hasB cut 5=true:=by
  cases e:P.K.hasB cut 5 with
  | true=>rfl
  | false=>exact absurd (a1.1 m4 e) (by decide)
 have m9:(9:Int)∉cut:=by
  intro hm
  obtain ⟨i,⟨hi,hr⟩,hd,hsr⟩:=ht 9 hm (by decide)
  have hk:∀ i,i<22→0<P.K.wrm iH [4,0,4,4,4,0,4,4,0,4,0] i→(P.K.wdst iH i:Int)=9→(P.K.wsrc iH i:Int)=1:=by decide
  rw [hk i (by have:iH.length=11:=rfl;omega) hr hd] at hsr
  exact of_decide_eq_false c1 hsr
 have hP:=Wv (n:=10) ⟨⟨hs⟩,c0,c1⟩
 refine rH (r:=(·<·)) (fun a=>Int.lt_irrefl a) (fun a b c=>yaS) hP.2.1 (by decide) fun x=>⟨fun hx=>?_,fun hx=>?_⟩
 ·have hb:=hP.1 x hx
  have h9:x≠9:=fun e=>m9 (e▸hx)
  have:x=0∨x=2∨x=3∨x=4∨x=5∨x=6∨x=7∨x=8:=by omega
  simpa [iI] using this
 ·simp only [iI,yad,yau,or_false] at hx
  rcases hx with rfl|rfl|rfl|rfl|rfl|rfl|rfl|rfl
  ·exact of_decide_eq_true m0
  ·exact of_decide_eq_true m2
  ·exact of_decide_eq_true m3
  ·exact of_decide_eq_true m4
  ·exact of_decide_eq_true m5
  ·exact of_decide_eq_true m6
  ·exact of_decide_eq_true m7
  ·exact of_decide_eq_true m8
theorem Wm:Ok 29 [P.bF dZ eO] (IsQ (fun fr=>P.oC dZ eO fr∧P.K.Tight iH 0 8 fr) (fun fr=>.tup [fr.enc,.i 0]) (fun _=>[])):=P.akC dZ eO ⟨Tc,by decide,by decide⟩
set_option maxRecDepth 20000
open Go.Fx.P (Arc aH)
structure ExP (fr:P.Fr):Prop where
 acc:P.oK dZ eO fr=0
 sent:fr.sent=4
 flow:fr.flow=[4,0,4,4,4,0,4,4,0,4,0]
 cut:fr.cut=iI
theorem ExP.of {fr:P.Fr} (h:P.oC dZ eO fr∧P.K.Tight iH 0 8 fr):ExP fr:=by
 have ha:P.K.OkAc 10 iH 0 1 8 fr:=h.1.acc
 exact ⟨h.1.acc0,(Ex ha).1,(Ex ha).2,abC ha h.2⟩
def exR (place n:Int) (s:Bs):Rf:=⟨place,n,9,4,iI,5,6,1,s⟩
def exS (k:Int) (place n:Int):Bs:=fQ (keyK k) 410 (partsOf (exR place n z16))
theorem Au {fr:P.Fr} (h:ExP fr) (k place n:Int):rf0 (keyK k) fr place n 9 5 6=exR place n z16∧rf1 (keyK k) fr place n 9 5 6=exR place n (exS k place n):=by
 have e:rf0 (keyK k) fr place n 9 5 6=exR place n z16:=by
  unfold rf0 exR keyK
  rw [h.sent,h.cut]
 refine ⟨e,?_⟩
 unfold rf1
 rw [e];rfl
theorem Kk (k place n:Int) (hk:k=place+1) (hp:place=0∧0≤n∧n<5∨place=1∧0≤n∧n<3):oL (keyK k) dZ place n 9 5 6:=by
 subst hk
 rcases hp with ⟨rfl,h1,h2⟩|⟨rfl,h1,h2⟩
 ·exact ⟨⟨1,1,5⟩,by decide,by decide,by decide,by decide,by decide,h1,h2⟩
 ·exact ⟨⟨1,2,3⟩,by decide,by decide,by decide,by decide,by decide,h1,h2⟩
theorem Ta {fr:P.Fr} (h:ExP fr):mkE (keyK 1) dZ eO fr 0 4 9 5 6=0∧mkR (keyK 1) dZ eO fr 0 4 9 5 6=exR 0 4 (exS 1 0 4):=by
 have:=Vy (Kk 1 0 4 rfl (by decide)) h.acc (by rw [h.flow];decide)
 rw [(Au h 1 0 4).2] at this
 exact this
theorem Sy {fr:P.Fr} (h:ExP fr):mkE (keyK 1) dZ eO fr 0 3 9 5 6=4∧mkR (keyK 1) dZ eO fr 0 3 9 5 6=zRf:=aaN (Kk 1 0 3 rfl (by decide)) h.acc (by rw [h.flow];decide)
theorem Sz {fr:P.Fr} (h:ExP fr) {n:Int} (hn:0≤n∧n<3):mkE (keyK 2) dZ eO fr 1 n 9 5 6=0∧mkR (keyK 2) dZ eO fr 1 n 9 5 6=exR 1 n (exS 2 1 n):=by
 have:=Vy (Kk 2 1 n rfl (.inr ⟨rfl,hn⟩)) h.acc (by rw [h.flow];simp;omega)
 rw [(Au h 2 1 n).2] at this
 exact this
theorem Ey {place n:Int} {s:Bs} (hp:0≤place∧place≤5∧0≤n∧n≤5):(exR place n s).Ok:=by
 have hc:In64 iI∧iI.length≤1000000:=by unfold In64;decide
 refine ⟨?_,hc.1,hc.2⟩
 intro x hx
 simp only [exR,yad,yau,or_false] at hx
 omega
def exL:List Rf:=[exR 0 4 (exS 1 0 4),exR 1 0 (exS 2 1 0),exR 1 1 (exS 2 1 1),exR 1 2 (exS 2 1 2)]
theorem abE:Kx dZ eO exL=(-1,0):=by kernel_rfl
theorem Wo:aaX dZ iI=[3]:=by decide
theorem Wn:aaW dZ eO iI=[]:=by decide
theorem Wq:pB 10 iI=true:=by decide
theorem abD:bnd iH iI=4:=by kernel_rfl
def Av (s:Bs):Rf:=⟨0,4,9,4,[0,2,3,4,5,6,7],5,6,1,s⟩
theorem abB (s:Bs):Ba dZ eO (Av s)=110:=by kernel_rfl
theorem Wl:Bi [keyK 1]:=⟨fun k hk=>by rw [yaH.1 hk];decide,List.pairwise_singleton _ _⟩
theorem Wk:Wx [keyK 1] dZ (exR 0 4 (exS 1 0 4))=0:=by
 have h1:fU dZ (exR 0 4 (exS 1 0 4)).place=some ⟨1,1,5⟩:=by decide
 have h2:pZ [keyK 1] (1000+1) 1=some (keyK 1):=by rfl
 have h3:Tv (keyK 1) 5 6=true:=by decide
 unfold Wx
 rw [h1]
 show Ty [keyK 1] (1000+1) 1 410 (partsOf (exR 0 4 (exS 1 0 4))) (exS 1 0 4) 5 6=0
 unfold Ty
 rw [h2]
 simp only [h3]
 rw [if_neg (by simp)]
 exact if_pos rfl
set_option maxRecDepth 20000
open Go.Fx.P (Arc aH)
def pt:Nat→LCode→LCode
 | 0,.seq a _=>a
 | n+1,.seq _ b=>pt n b
 | _,c=>c
theorem c9_parts:c9=.seq (pt 0 c9) (.seq (pt 1 c9) (.seq (pt 2 c9) (.seq (pt 3 c9) (.seq (pt 4 c9) (.seq (pt 5 c9) (.seq (pt 6 c9) (.seq (pt 7 c9) (.seq (pt 8 c9) (.seq (pt 9 c9) (.seq (pt 10 c9) (.seq (pt 11 c9) (.seq (pt 12 c9) (.seq (pt 13 c9) (.seq (pt 14 c9) (pt 15 c9))))))))))))))):=by rfl
abbrev cT:Cx:=cxN Tryz.prog []
structure E1 (e:Env):Prop where
 g1:get e 1=.ptr 0 0 0
 g2:get e 2=.ptr 1 0 0
 g3:get e 3=.ptr 2 0 0
abbrev exH (fr:P.Fr):List Blk:=[.var [P.sps dZ,P.rds eO],.var [.i 5,.i 6],.var [.i fr.sent,.i fr.cost,P.li fr.flow,P.li fr.price,P.li fr.cut]]
section
variable {N R:St→Prop} {X:Nat→St→Prop} {e:Env} {b:Nat} {fr:P.Fr}
theorem aiH (hN:N ⟨[(0,.b false)],[],0⟩):aw cT (pt 0 c9) N X R ⟨[],[],0⟩:=by
 conv=>arg 2;whnf
 simp -implicitDefEqProofs only [rX,aA]
 exact hN
theorem aiG (hN:∀ e,get e 1=.ptr 0 0 0→N ⟨e,[.var [P.sps dZ,P.rds eO]],0⟩):aw cT (pt 1 c9) N X R ⟨e,[],0⟩:=by
 conv=>arg 2;whnf
 simp -implicitDefEqProofs only [rX]
 refine aE akA ⟨trivial,trivial⟩ rfl trivial ?_
 unfold P.bF
 simp -implicitDefEqProofs only [rX,↓rY,aA,cells?,splice,↓reduceIte,Nat.reduceEqDiff,Nat.reduceAdd,aC,isC,aQ]
 refine ⟨rfl,hN _ ?_⟩
 rfl
theorem aiF (h1:get e 1=.ptr 0 0 0) (hN:∀ e,get e 1=.ptr 0 0 0→get e 2=.ptr 1 0 0→N ⟨e,[.var [P.sps dZ,P.rds eO],.var [.i 5,.i 6]],1⟩):aw cT (pt 2 c9) N X R ⟨e,[.var [P.sps dZ,P.rds eO]],0⟩:=by
 conv=>arg 2;whnf
 simp -implicitDefEqProofs only [rX,↓rY,aA,cells?,splice,↓reduceIte,Nat.reduceEqDiff,Nat.reduceAdd,aC,bH,isC,Nat.reduceLeDiff,aQ]
 refine hN _ ?_ ?_
 ·exact h1
 ·rfl
theorem aiE (h1:get e 1=.ptr 0 0 0) (h2:get e 2=.ptr 1 0 0) (hN:∀ e fr,ExP fr→E1 e→get e 4=.i 0→N ⟨e,exH fr,2⟩):aw cT (pt 3 c9) N X R ⟨e,[.var [P.sps dZ,P.rds eO],.var [.i 5,.i 6]],1⟩:=by
 conv=>arg 2;whnf
 simp -implicitDefEqProofs only [rX,↓rY,↓reduceIte,Nat.reduceAdd,h1]
 refine fC (fun fr=>P.oC dZ eO fr∧P.K.Tight iH 0 8 fr) [] [] [] [P.bF dZ eO] (fun fr=>.tup [fr.enc,.i 0]) [] (fun _=>[]) Wm ⟨by simp,by simp⟩ ⟨rfl,by simp⟩ rfl ⟨⟨bB.1,trivial⟩,bB.2,trivial⟩ fun fr hfr=>⟨trivial,?_⟩
 simp -implicitDefEqProofs only [rX,↓rY,aA,cells?,splice,↓reduceIte,Nat.reduceEqDiff,Nat.reduceAdd,aC,bO,bE,kill,bQ,St.kill,isC,aQ,P.Fr.enc,P.li,bM,ren,cI,mO,s9]
 refine hN _ fr (ExP.of hfr) ?_ ?_
 ·exact ⟨h1,h2,rfl⟩
 ·rfl
theorem Lz {r:Rf} {f:Nat→Option Nat}:cI f r.enc=r.enc:=by unfold Rf.enc P.li;simp [cI,ren,f9]
theorem rL {r:Rf} {f:Nat→Option Nat} {E:Int}:ren f (.tup [.agg r.enc,.i E])=.tup [.agg r.enc,.i E]:=by simp [ren,cI,Lz]
theorem Yi (hX:ExP fr):Ok 10 [.agg (keyK 1).enc,P.bF dZ eO,fr.enc,.i 0,.i 4,.i 9,.agg [.i 5,.i 6]] (Is (.tup [.agg (exR 0 4 (exS 1 0 4)).enc,.i 0])):=by
 have:=Vx (keyK 1) dZ eO fr 0 4 9 5 6 o6 (by rw [(Au hX 1 0 4).1];exact Ey (by decide)) (by decide)
 rw [(Ta hX).1,(Ta hX).2] at this
 exact this
theorem Yg (hX:ExP fr):Ok 10 [.agg (keyK 1).enc,P.bF dZ eO,fr.enc,.i 0,.i 3,.i 9,.agg [.i 5,.i 6]] (Is (.tup [.agg zRf.enc,.i 4])):=by
 have:=Vx (keyK 1) dZ eO fr 0 3 9 5 6 o6 (by rw [(Au hX 1 0 3).1];exact Ey (by decide)) (by decide)
 rw [(Sy hX).1,(Sy hX).2] at this
 exact this
theorem Yh (hX:ExP fr) {n:Int} (hn:0≤n∧n<3):Ok 10 [.agg (keyK 2).enc,P.bF dZ eO,fr.enc,.i 1,.i n,.i 9,.agg [.i 5,.i 6]] (Is (.tup [.agg (exR 1 n (exS 2 1 n)).enc,.i 0])):=by
 have:=Vx (keyK 2) dZ eO fr 1 n 9 5 6 o6 (by rw [(Au hX 2 1 n).1];exact Ey (by omega)) (by decide)
 rw [(Sz hX hn).1,(Sz hX hn).2] at this
 exact this
theorem o3 {h:List Blk} {g:Nat→Option Nat} {k:Ky} {ps:List aH} {rs:List P.Road} {place n w a b:Int}:aF h g [.agg k.enc,.agg [P.sps ps,P.rds rs],.agg [.i fr.sent,.i fr.cost,P.li fr.flow,P.li fr.price,P.li fr.cut],.i place,.i n,.i w,.agg [.i a,.i b]] ∧
  wkL [.agg k.enc,P.bF ps rs,fr.enc,.i place,.i n,.i w,.agg [.i a,.i b]] (aN h g [.agg k.enc,.agg [P.sps ps,P.rds rs],.agg [.i fr.sent,.i fr.cost,P.li fr.flow,P.li fr.price,P.li fr.cut],.i place,.i n,.i w,.agg [.i a,.i b]]) :=
 ⟨⟨eY.1,bB.1,eZ.1,trivial,trivial,trivial,⟨trivial,trivial,trivial⟩,trivial⟩,eY.2,bB.2,eZ.2,rfl,rfl,rfl,⟨rfl,rfl,trivial⟩,trivial⟩
theorem aiD (hX:ExP fr) (hE:E1 e) (h4:get e 4=.i 0) (hN:∀ e,E1 e→get e 4=.i 0→get e 5=.ptr 3 0 0→get e 6=.i 0→N ⟨e,exH fr++[.var (exR 0 4 (exS 1 0 4)).enc],3⟩):aw cT (pt 4 c9) N X R ⟨e,exH fr,b⟩:=by
 obtain ⟨h1,h2,h3⟩:=hE
 have hl:(exR 0 4 (exS 1 0 4)).enc.length=24:=nJ dA
 conv=>arg 2;whnf
 simp -implicitDefEqProofs only [rX,↓rY,rdK,aA,cells?,↓reduceIte,Nat.reduceEqDiff,Nat.reduceAdd,aC,aJ,h1,h2,h3]
 refine ⟨?_,?_⟩
 ·refine aE (Jx 1 (by decide)) ⟨⟨trivial,trivial⟩,rfl,trivial⟩ rfl (by simp [aD,aB]) ?_
  simp -implicitDefEqProofs only [rX,↓rY,aA,cells?,↓reduceIte,Nat.reduceEqDiff,aC,aJ]
  refine ⟨?_,?_⟩ <;>
  ·refine aE (Yi hX) o3 rL (by simp [aD,aB]) ?_
   simp -implicitDefEqProofs only [rX,↓rY,aA,cells?,splice,↓reduceIte,Nat.reduceEqDiff,Nat.reduceAdd,aC,aJ,hl,Ed,uW]
   refine hN _ ⟨h1,h2,h3⟩ ?_ ?_ ?_
   ·exact h4
   ·rfl
   ·rfl
 ·refine aE (Jx 1 (by decide)) ⟨⟨trivial,trivial⟩,rfl,trivial⟩ rfl (by simp [aD,aB]) ?_
  simp -implicitDefEqProofs only [rX,aA,↓reduceIte,Nat.reduceEqDiff,aJ]
  refine aE (Yi hX) o3 rL (by simp [aD,aB]) ?_
  simp -implicitDefEqProofs only [rX,↓rY,cells?,splice,↓reduceIte,Nat.reduceEqDiff,Nat.reduceAdd,aJ,hl,Ed,uW]
  refine hN _ ⟨h1,h2,h3⟩ ?_ ?_ ?_
  ·exact h4
  ·rfl
  ·rfl
abbrev exA:Rf:=exR 0 4 (exS 1 0 4)
theorem aiC (hX:ExP fr) (hE:E1 e) (h4:get e 4=.i 0) (h5:get e 5=.ptr 3 0 0) (h6:get e 6=.i 0)
  (hN:∀ e,E1 e→get e 4=.i 0→get e 5=.ptr 3 0 0→get e 6=.i 0→get e 8=.i 4→N ⟨e,exH fr++[.var exA.enc,.var zRf.enc],4⟩):aw cT (pt 5 c9) N X R ⟨e,exH fr++[.var exA.enc],b⟩:=by
 obtain ⟨h1,h2,h3⟩:=hE
 have hl:zRf.enc.length=24:=nJ (by simp [zRf,z16])
 conv=>arg 2;whnf
 generalize hA:exA.enc=AE at *
 simp -implicitDefEqProofs only [rX,↓rY,rdK,aA,cells?,↓reduceIte,Nat.reduceEqDiff,Nat.reduceAdd,aC,aJ,h1,h2,h3]
 refine ⟨?_,?_⟩
 ·refine aE (Jx 1 (by decide)) ⟨⟨trivial,trivial⟩,rfl,trivial⟩ rfl (by simp [aD,aB]) ?_
  simp -implicitDefEqProofs only [rX,↓rY,aA,cells?,↓reduceIte,Nat.reduceEqDiff,aC,aJ]
  refine ⟨?_,?_⟩ <;>
  ·refine aE (Yg hX) o3 rL (by simp [aD,aB]) ?_
   simp -implicitDefEqProofs only [rX,↓rY,aA,cells?,splice,↓reduceIte,Nat.reduceEqDiff,Nat.reduceAdd,aC,aJ,hl,Ed,uW]
   refine hN _ ⟨h1,h2,h3⟩ ?_ ?_ ?_ ?_
   ·exact h4
   ·exact h5
   ·exact h6
   ·rfl
 ·refine aE (Jx 1 (by decide)) ⟨⟨trivial,trivial⟩,rfl,trivial⟩ rfl (by simp [aD,aB]) ?_
  simp -implicitDefEqProofs only [rX,aA,↓reduceIte,Nat.reduceEqDiff,aJ]
  refine aE (Yg hX) o3 rL (by simp [aD,aB]) ?_
  simp -implicitDefEqProofs only [rX,↓rY,cells?,splice,↓reduceIte,Nat.reduceEqDiff,Nat.reduceAdd,aJ,hl,Ed,uW]
  refine hN _ ⟨h1,h2,h3⟩ ?_ ?_ ?_ ?_
  ·exact h4
  ·exact h5
  ·exact h6
  ·rfl
theorem aiB (h4:get e 4=.i 0) (h5:get e 5=.ptr 3 0 0) (h6:get e 6=.i 0) (h8:get e 8=.i 4) {h:List Blk} (hE:E1 e)
  (hN:∀ e b,E1 e→get e 5=.ptr 3 0 0→N ⟨e,h,b⟩):aw cT (pt 6 c9) N X R ⟨e,h,b⟩:=by
 obtain ⟨h1,h2,h3⟩:=hE
 conv=>arg 2;whnf
 simp -implicitDefEqProofs only [rX,↓rY,aA,↓reduceIte,Nat.reduceEqDiff,h4,h6,h8,bne_self_eq_false]
 refine hN _ _ ⟨h1,h2,h3⟩ ?_
 exact h5
theorem aaB {r:Rf}:r.enc.all isD=true:=by unfold Rf.enc P.li;simp [isD,ahR]
theorem Oz {place n k a c:Int}:(exR place n (exS k a c)).enc.length=24:=nJ dA
theorem Hz {place n k a c:Int}:yac 24 (exR place n (exS k a c)).enc=(exR place n (exS k a c)).enc:=Ly dA
theorem aiA (hE:E1 e) (h5:get e 5=.ptr 3 0 0)
  (hN:∀ e,E1 e→get e 5=.ptr 3 0 0→get e 9=.sl 5 0 1→N ⟨e,exH fr++[.var exA.enc,.var zRf.enc,.arr 24 [exA.enc]],5⟩):aw cT (pt 7 c9) N X R ⟨e,exH fr++[.var exA.enc,.var zRf.enc],b⟩:=by
 obtain ⟨h1,h2,h3⟩:=hE
 conv=>arg 2;whnf
 simp -implicitDefEqProofs only [rX,↓rY,cells?,↓reduceIte,Nat.reduceAdd,aC,bZ,Nat.reduceLT,aQ,aJ,h5,s4,An,Ao,Kh,Hz,Oz,aaB]
 refine hN _ ⟨h1,h2,h3⟩ ?_ ?_
 ·exact h5
 ·rfl
theorem Gj {r:Rf} {l:List Nat}:bQ l r.enc=r.enc:=by unfold Rf.enc P.li;simp [bQ,kill,sK]
theorem Qw {r:Rf}:aZ r.enc r.enc=True:=eq_true (mN _)
theorem Jq {q:List Blk} {r:Rf}:wfL q r.enc=True:=eq_true adA
abbrev exB (j:Nat):Rf:=exR 1 j (exS 2 1 j)
abbrev h8 (fr:P.Fr) (j:Nat):List Blk:=exH fr++[.var exA.enc,.var zRf.enc,.arr 24 ((exL.take (j+1)).map Rf.enc)]
theorem ahZ (hX:ExP fr) (hE:E1 e) (h5:get e 5=.ptr 3 0 0) (h9:get e 9=.sl 5 0 1)
  (hN:∀ e b,E1 e→get e 5=.ptr 3 0 0→get e 9=.sl 5 0 4→N ⟨e,h8 fr 3,b⟩):aw cT (pt 8 c9) N X R ⟨e,h8 fr 0,b⟩:=by
 obtain ⟨h1,h2,h3⟩:=hE
 conv=>arg 2;whnf
 simp -implicitDefEqProofs only [rX,aA,Nat.reduceAdd,aJ]
 refine cD (fun j:Nat=>(⟨[(10,.i j),(9,.sl 5 0 (j+1)),(5,.ptr 3 0 0),(3,.ptr 2 0 0),(2,.ptr 1 0 0),(1,.ptr 0 0 0)],h8 fr j,0⟩:St)) (fun j=>j≤3) (fun j=>3-j) 0 (by decide) ?_ ?_
 ·simp -implicitDefEqProofs only [rX,↓reduceIte,Nat.reduceEqDiff,leE,leH,leB,leV,aZ,aD,aB,wfE,wfB,wfV,wfL,h1,h2,h3,h5,h9,P.sps,P.rds,P.li,Qw,Jq]
  rfl
 intro j hj N' hN'
 simp only [c9l0]
 simp -implicitDefEqProofs only [rX,↓rY,rdK,aA,cells?,↓reduceIte,Nat.reduceEqDiff,Nat.reduceAdd,aC,aJ]
 cases hd:decide ((j:Int)<3) with
 | false =>
  have hd':=of_decide_eq_false hd
  have:j=3:=by omega
  subst this
  simp -implicitDefEqProofs only [↓rY,Nat.reduceAdd]
  refine hN _ _ ⟨?_,?_,?_⟩ ?_ ?_<;>rfl
 | true =>
  have hd':=of_decide_eq_true hd
  have hj3:j<3:=by omega
  have hLl:(yag Rf.enc (yac (j+1) exL)).length=j+1:=by
   rw [yan,yaX]
   have:exL.length=4:=rfl
   omega
  have hLn:exL.take (j+1)++[exB j]=exL.take (j+1+1):=by
   match j,hj3 with
   | 0,_=>rfl
   | 1,_=>rfl
   | 2,_=>rfl
  have hfin:Blk.arr 24 (yac (j+1) (yag Rf.enc (yac (j+1) exL))++[(exR 1 (j:Int) (exS 2 1 j)).enc])=Blk.arr 24 (yag Rf.enc (yac (j+1+1) exL)):=by
   rw [←hLn,yal,yah (by omega)]
   rfl
  simp -implicitDefEqProofs only [↓rY]
  refine ⟨?_,?_⟩
  ·refine aE (Jx 2 (by decide)) ⟨⟨trivial,trivial⟩,rfl,trivial⟩ rfl (by simp [aD,aB]) ?_
   simp -implicitDefEqProofs only [rX,↓rY,aA,cells?,↓reduceIte,Nat.reduceEqDiff,aC,aJ]
   refine ⟨?_,?_⟩ <;>
   ·refine aE (Yh hX (n:=j) (by omega)) o3 rL (by simp [aD,aB]) ?_
    simp -implicitDefEqProofs only [rX,↓rY,aA,cells?,splice,↓reduceIte,Nat.reduceEqDiff,Nat.reduceAdd,reduceCtorEq,aC,bZ,bO,bE,kill,bQ,St.kill,Nat.reduceLT,aQ,aJ,Oz,Ed,aaB,Hz,uW,bne_self_eq_false,s4,An,Ao,Kh,hLl,Gj]
    refine ⟨by omega,⟨by simp only [lo];omega,by simp only [Fx.hi];omega⟩,hN' _ (j+1) (by omega) (by omega) ?_⟩
    simp -implicitDefEqProofs only [rX,↓reduceIte,Nat.reduceEqDiff,leE,leH,leB,leV,aZ,aD,aB,wfE,wfB,wfV,wfL,kill,St.kill,P.sps,P.rds,P.li,Qw,Jq]
    exact ⟨by omega,hfin⟩
  ·refine aE (Jx 2 (by decide)) ⟨⟨trivial,trivial⟩,rfl,trivial⟩ rfl (by simp [aD,aB]) ?_
   simp -implicitDefEqProofs only [rX,aA,↓reduceIte,Nat.reduceEqDiff,aJ]
   refine aE (Yh hX (n:=j) (by omega)) o3 rL (by simp [aD,aB]) ?_
   simp -implicitDefEqProofs only [rX,↓rY,aA,cells?,splice,↓reduceIte,Nat.reduceEqDiff,Nat.reduceAdd,reduceCtorEq,aC,bZ,bO,bE,kill,bQ,St.kill,Nat.reduceLT,aQ,aJ,Oz,Ed,aaB,Hz,uW,bne_self_eq_false,s4,An,Ao,Kh,hLl,Gj]
   refine ⟨by omega,⟨by simp only [lo];omega,by simp only [Fx.hi];omega⟩,hN' _ (j+1) (by omega) (by omega) ?_⟩
   simp -implicitDefEqProofs only [rX,↓reduceIte,Nat.reduceEqDiff,leE,leH,leB,leV,aZ,aD,aB,wfE,wfB,wfV,wfL,kill,St.kill,P.sps,P.rds,P.li,Qw,Jq]
   exact ⟨by omega,hfin⟩
end
set_option maxRecDepth 20000
open Go.Fx.P (Arc aH)
section
variable {N R:St→Prop} {X:Nat→St→Prop} {e:Env} {b:Nat} {fr:P.Fr}
abbrev hQ (fr:P.Fr):List Blk:=exH fr++[.var exA.enc,.var zRf.enc,.arr 24 (exL.map Rf.enc)]
theorem Hl {h:List Blk} {g:Nat→Option Nat} {ps:List aH} {rs:List P.Road} {l:List Int}:aF h g [.agg [P.sps ps,P.rds rs],P.li l]∧wkL [P.bF ps rs,P.li l] (aN h g [.agg [P.sps ps,P.rds rs],P.li l]):=⟨⟨bB.1,trivial,trivial⟩,bB.2,⟨rfl,rfl⟩,trivial⟩
theorem Td:exA.enc[4]?=some (P.li iI):=rfl
theorem ahY (hE:E1 e) (h5:get e 5=.ptr 3 0 0) (h9:get e 9=.sl 5 0 4)
  (hN:∀ e b,E1 e→get e 5=.ptr 3 0 0→get e 13=.i (-1)→get e 14=.i 0→N ⟨e,hQ fr,b⟩):aw cT (pt 9 c9) N X R ⟨e,hQ fr,b⟩:=by
 obtain ⟨h1,h2,h3⟩:=hE
 conv=>arg 2;whnf
 simp -implicitDefEqProofs only [rX,↓rY,↓reduceIte,Nat.reduceEqDiff,Nat.reduceAdd,h1,h9]
 have o:=akF dZ eO exL o6 (by decide) (by intro r hr;simp only [exL,yad,yau,or_false] at hr;rcases hr with rfl|rfl|rfl|rfl<;>exact dA) (by intro r hr;simp only [exL,yad,yau,or_false] at hr;rcases hr with rfl|rfl|rfl|rfl<;>decide)
 rw [abE] at o
 refine aE o ⟨⟨bB.1,?_,trivial⟩,bB.2,?_,trivial⟩ rfl trivial ?_
 ·simp [aG,blk]
  decide
 ·simp [bD,wk,blk,wkB,aN]
  rfl
 simp -implicitDefEqProofs only [rX,↓rY,↓reduceIte,Nat.reduceEqDiff]
 refine hN _ _ ⟨h1,h2,h3⟩ ?_ ?_ ?_
 ·exact h5
 ·rfl
 ·rfl
theorem acS (hE:E1 e) (h5:get e 5=.ptr 3 0 0) (h13:get e 13=.i (-1)) (h14:get e 14=.i 0)
  (hN:∀ e b,E1 e→get e 5=.ptr 3 0 0→get e 13=.i (-1)→get e 14=.i 0→get e 15=P.li [3]→get e 16=P.li []→N ⟨e,hQ fr,b⟩):aw cT (pt 10 c9) N X R ⟨e,hQ fr,b⟩:=by
 obtain ⟨h1,h2,h3⟩:=hE
 conv=>arg 2;whnf
 simp -implicitDefEqProofs only [rX,↓rY,↓reduceIte,Nat.reduceEqDiff,Nat.reduceAdd,h1,h5,Td]
 have o:=akG dZ eO iI o6 (by decide)
 rw [Wo,Wn] at o
 refine aE o Hl rfl trivial ?_
 unfold P.li
 simp -implicitDefEqProofs only [rX,↓rY,↓reduceIte,Nat.reduceEqDiff]
 refine hN _ _ ⟨h1,h2,h3⟩ ?_ ?_ ?_ ?_ ?_
 ·exact h5
 ·exact h13
 ·exact h14
 ·rfl
 ·rfl
theorem acR (hE:E1 e) (h5:get e 5=.ptr 3 0 0) (h13:get e 13=.i (-1)) (h14:get e 14=.i 0) (h15:get e 15=P.li [3]) (h16:get e 16=P.li [])
  (hN:∀ e b,E1 e→get e 5=.ptr 3 0 0→get e 13=.i (-1)→get e 14=.i 0→get e 15=P.li [3]→get e 16=P.li []→get e 17=.i 4→get e 18=.i 0→N ⟨e,hQ fr,b⟩):aw cT (pt 11 c9) N X R ⟨e,hQ fr,b⟩:=by
 obtain ⟨h1,h2,h3⟩:=hE
 conv=>arg 2;whnf
 simp -implicitDefEqProofs only [rX,↓rY,↓reduceIte,Nat.reduceEqDiff,Nat.reduceAdd,h1,h5,Td]
 have o:=akH dZ eO iI o6 (by decide)
 rw [show pB (P.nN dZ) iI=true from Wq,if_pos rfl,show bnd (P.cK dZ eO) iI=4 from abD] at o
 refine aE o Hl rfl trivial ?_
 simp -implicitDefEqProofs only [rX,↓rY,↓reduceIte,Nat.reduceEqDiff]
 refine hN _ _ ⟨h1,h2,h3⟩ ?_ ?_ ?_ ?_ ?_ ?_ ?_
 ·exact h5
 ·exact h13
 ·exact h14
 ·exact h15
 ·exact h16
 ·rfl
 ·rfl
structure E2 (e:Env):Prop where
 g1:get e 1=.ptr 0 0 0
 g5:get e 5=.ptr 3 0 0
 g13:get e 13=.i (-1)
 g14:get e 14=.i 0
 g15:get e 15=P.li [3]
 g16:get e 16=P.li []
 g17:get e 17=.i 4
 g18:get e 18=.i 0
 g19:get e 19=.ptr 6 0 0
theorem acQ (hE:E1 e) (h5:get e 5=.ptr 3 0 0) (h13:get e 13=.i (-1)) (h14:get e 14=.i 0) (h15:get e 15=P.li [3]) (h16:get e 16=P.li []) (h17:get e 17=.i 4) (h18:get e 18=.i 0)
  (hN:∀ e b,E2 e→N ⟨e,hQ fr++[.var exA.enc],b⟩):aw cT (pt 12 c9) N X R ⟨e,hQ fr,b⟩:=by
 obtain ⟨h1,h2,h3⟩:=hE
 conv=>arg 2;whnf
 simp -implicitDefEqProofs only [rX,↓rY,aA,cells?,splice,↓reduceIte,Nat.reduceEqDiff,Nat.reduceAdd,aC,aQ,h5,Oz,Hz,Ed,uW]
 refine hN _ _ ⟨?_,?_,?_,?_,?_,?_,?_,?_,?_⟩
 ·exact h1
 ·exact h5
 ·exact h13
 ·exact h14
 ·exact h15
 ·exact h16
 ·exact h17
 ·exact h18
 ·rfl
theorem acP (hE:E2 e) (hN:∀ e b,E2 e→N ⟨e,hQ fr++[.var (Av (exS 1 0 4)).enc],b⟩):aw cT (pt 13 c9) N X R ⟨e,hQ fr++[.var exA.enc],b⟩:=by
 obtain ⟨h1,h5,h13,h14,h15,h16,h17,h18,h19⟩:=hE
 conv=>arg 2;whnf
 have hl:(iI.map P.encI).length=8:=rfl
 simp -implicitDefEqProofs only [rX,↓rY,aA,cells?,splice,↓reduceIte,Nat.reduceEqDiff,Nat.reduceAdd,dP,isC,aQ,h19,Td,P.li,hl]
 intro _
 refine ⟨⟨by decide,by decide⟩,⟨⟨by decide,by decide⟩,by decide,by decide⟩,by rw [Oz];decide,?_⟩
 refine hN _ _ ⟨?_,?_,?_,?_,?_,?_,?_,?_,?_⟩
 ·exact h1
 ·exact h5
 ·exact h13
 ·exact h14
 ·exact h15
 ·exact h16
 ·exact h17
 ·exact h18
 ·exact h19
theorem acO (hE:E2 e) (hN:∀ e b h,get e 0=.b true→N ⟨e,h,b⟩):aw cT (pt 14 c9) N X R ⟨e,hQ fr++[.var (Av (exS 1 0 4)).enc],b⟩:=by
 obtain ⟨h1,h5,h13,h14,h15,h16,h17,h18,h19⟩:=hE
 conv=>arg 2;whnf
 simp -implicitDefEqProofs only [rX,↓rY,rdK,aA,cells?,↓reduceIte,Nat.reduceEqDiff,Nat.reduceAdd,aC,bZ,isD,Nat.reduceLT,aJ,h1,h5,h13,h14,h15,h19,P.li,beq_self_eq_true]
 refine aE (adU [3] (by decide)) (by simp [aF,aG,aN,bD,wkL,wk,wkR,wkB,blk];rfl) rfl (by simp [aD,aB]) ?_
 have l1:(Av (exS 1 0 4)).enc.length=24:=nJ dA
 have l2:yac 24 (Av (exS 1 0 4)).enc=(Av (exS 1 0 4)).enc:=Ly dA
 simp -implicitDefEqProofs only [rX,↓rY,rdK,aA,↓reduceIte,Nat.reduceEqDiff,Nat.reduceAdd,aJ,h1,h5,h16,h17,h18,h19,P.li,Int.natCast_zero,beq_self_eq_true,l1,l2]
 have o14:=aeB dZ eO (Av (exS 1 0 4)) o6 (by show (7:Nat)≤1000000;decide)
 rw [abB] at o14
 intro _
 refine aE o14 ⟨⟨bB.1,(eA rfl).1,trivial⟩,bB.2,(eA rfl).2,trivial⟩ rfl (by simp [aD,aB]) ?_
 simp -implicitDefEqProofs only [rX,↓rY,rdK,aA,↓reduceIte,Nat.reduceEqDiff,Nat.reduceAdd,aJ,h1,h5,beq_self_eq_true,Oz,Hz]
 refine aE (Jx 1 (by decide)) ⟨⟨trivial,trivial⟩,rfl,trivial⟩ rfl (by simp [aD,aB]) ?_
 unfold keyK Ky.enc
 simp -implicitDefEqProofs only [rX,↓rY,cells?,↓reduceIte,Nat.reduceEqDiff,Nat.reduceAdd,aC,bZ,isD,Nat.reduceLT,aJ]
 have o16:=akI [keyK 1] dZ eO exA o6 (Ey (by decide)) Wl (by decide) dA
 rw [Wk] at o16
 refine aE o16 ⟨⟨?_,bB.1,(eA rfl).1,trivial⟩,?_,bB.2,(eA rfl).2,trivial⟩ rfl (by simp [aD,aB]) ?_
 ·simp [aG,blk]
 ·simp [bD,wk,blk,wkB,aN,bK,keyK,Ky.enc]
 simp -implicitDefEqProofs only [rX,↓rY,aA,↓reduceIte,Nat.reduceEqDiff,beq_self_eq_true]
 refine hN _ _ _ ?_
 rfl
theorem acN {h:List Blk} (h0:get e 0=.b true):aw cT (pt 15 c9) N X (eL [] 0 [.tmp 0] (Is (.b true))) ⟨e,h,b⟩:=by
 conv=>arg 2;whnf
 simp -implicitDefEqProofs only [rX,aL,aM,wfV,h0]
end
theorem ok9:Ok 9 [] (Is (.b true)):=by
 refine ok_of lw9 (by simp) ?_
 rw [c9_parts]
 show aw cT _ _ _ _ ⟨[],[],0⟩
 rw [zc]
 refine aiH ?_
 rw [zc]
 refine aiG fun e h1=>?_
 rw [zc]
 refine aiF h1 fun e h1 h2=>?_
 rw [zc]
 refine aiE h1 h2 fun e fr hX hE h4=>?_
 rw [zc]
 refine aiD hX hE h4 fun e hE h4 h5 h6=>?_
 rw [zc]
 refine aiC hX hE h4 h5 h6 fun e hE h4 h5 h6 h8=>?_
 rw [zc]
 refine aiB h4 h5 h6 h8 hE fun e b hE h5=>?_
 rw [zc]
 refine aiA hE h5 fun e hE h5 h9=>?_
 rw [zc]
 refine ahZ hX hE h5 h9 fun e b hE h5 h9=>?_
 rw [zc]
 refine ahY hE h5 h9 fun e b hE h5 h13 h14=>?_
 rw [zc]
 refine acS hE h5 h13 h14 fun e b hE h5 h13 h14 h15 h16=>?_
 rw [zc]
 refine acR hE h5 h13 h14 h15 h16 fun e b hE h5 h13 h14 h15 h16 h17 h18=>?_
 rw [zc]
 refine acQ hE h5 h13 h14 h15 h16 h17 h18 fun e b hE=>?_
 rw [zc]
 refine acP hE fun e b hE=>?_
 rw [zc]
 refine acO hE fun e b h h0=>?_
 exact acN h0
set_option maxRecDepth 20000
open Go.Fx.P (Arc aH)
theorem Gp {f:Nat→Option Nat}:∀ {l m:List V},cI f (l++m)=cI f l++cI f m
 | [],_=>rfl
 | x::r,m=>by simp only [yaE,cI,Gp]
theorem afR {ps:List aH} {rs:List P.Road} (h:Sw ps rs=true):gK ps rs:=by
 unfold Sw at h
 exact @of_decide_eq_true _ (Classical.propDecidable _) h
theorem Ka {k:Ky} {ps:List aH} {rs:List P.Road} {fr:P.Fr} {place n w a b:Int}:(mkR k ps rs fr place n w a b).sg.length=16:=by
 unfold mkR
 split
 ·exact dA
 ·simp [zRf,z16]
theorem Vz {k:Ky} {ps:List aH} {rs:List P.Road} {fr:P.Fr} {place n w a b:Int} (h:fr.cut.length≤40):(mkR k ps rs fr place n w a b).cut.length≤40:=by
 unfold mkR
 split
 ·exact h
 ·simp [zRf]
set_option maxHeartbeats 1000000 in
theorem ok3 (k:Ky) (ps:List aH) (rs:List P.Road) (fr:P.Fr) (place n w a b:Int) (h7:In64 [place,n,w,fr.sent,a,b,k.serial]) (hc:In64 fr.cut) :
  Ok 3 [.agg k.enc,P.bF ps rs,fr.enc,.i place,.i n,.i w,.agg [.i a,.i b]] (Is (.b true)):=by
 refine ok_of lw3 (by simp) ?_
 unfold c3 P.bF P.Fr.enc Ky.enc
 simp -implicitDefEqProofs only [rX,↓rY,aA,cells?,↓reduceIte,Nat.reduceEqDiff,Nat.reduceAdd,reduceCtorEq,aC,aK]
 refine aE (ok8 ps rs) ⟨⟨bB.1,trivial⟩,bB.2,trivial⟩ rfl trivial ?_
 cases hf:Sw ps rs with
 | false =>
  simp -implicitDefEqProofs only [rX,↓rY,aA,↓reduceIte,Nat.reduceEqDiff,Nat.reduceAdd]
  refine aE ok9 ⟨trivial,trivial⟩ rfl trivial ?_
  simp -implicitDefEqProofs only [rX,↓reduceIte,aL,aM,wfV]
 | true =>
  have hF:=afR hf
  unfold P.li
  simp -implicitDefEqProofs only [rX,↓rY,aA,↓reduceIte,Nat.reduceEqDiff,Nat.reduceAdd,reduceCtorEq,eW]
  intro _
  cases d1:decide (40<(fr.flow.length:Int)) with
  | true =>
   simp -implicitDefEqProofs only [↓rY]
   refine aE ok9 ⟨trivial,trivial⟩ rfl trivial ?_
   simp -implicitDefEqProofs only [rX,↓reduceIte,aL,aM,wfV]
  | false =>
  have d1':=of_decide_eq_false d1
  simp -implicitDefEqProofs only [↓rY]
  intro _
  cases d2:decide (40<(fr.price.length:Int)) with
  | true =>
   simp -implicitDefEqProofs only [↓rY]
   refine aE ok9 ⟨trivial,trivial⟩ rfl trivial ?_
   simp -implicitDefEqProofs only [rX,↓reduceIte,aL,aM,wfV]
  | false =>
  have d2':=of_decide_eq_false d2
  simp -implicitDefEqProofs only [↓rY]
  intro _
  cases d3:decide (40<(fr.cut.length:Int)) with
  | true =>
   simp -implicitDefEqProofs only [↓rY]
   refine aE ok9 ⟨trivial,trivial⟩ rfl trivial ?_
   simp -implicitDefEqProofs only [rX,↓reduceIte,aL,aM,wfV]
  | false =>
  have d3':=of_decide_eq_false d3
  simp -implicitDefEqProofs only [↓rY]
  cases d4:decide (100<(k.sec.length:Int)) with
  | true =>
   simp -implicitDefEqProofs only [↓rY]
   refine aE ok9 ⟨trivial,trivial⟩ rfl trivial ?_
   simp -implicitDefEqProofs only [rX,↓reduceIte,aL,aM,wfV]
  | false =>
  have d4':=of_decide_eq_false d4
  simp -implicitDefEqProofs only [↓rY]
  have hr:(rf0 k fr place n w a b).Ok:=⟨h7,hc,by show fr.cut.length≤1000000;omega⟩
  refine aE (Vx k ps rs fr place n w a b hF hr (by omega)) o3 rL trivial ?_
  have hl:(mkR k ps rs fr place n w a b).enc.length=24:=nJ Ka
  have htk:yac 24 (mkR k ps rs fr place n w a b).enc=(mkR k ps rs fr place n w a b).enc:=Ly Ka
  have hcl:=Vz (k:=k) (ps:=ps) (rs:=rs) (place:=place) (n:=n) (w:=w) (a:=a) (b:=b) (fr:=fr) (by omega)
  have hsg:=Ka (k:=k) (ps:=ps) (rs:=rs) (fr:=fr) (place:=place) (n:=n) (w:=w) (a:=a) (b:=b)
  have o11:=akK k ps rs fr place n w a b hF hr (by omega)
  generalize mkR k ps rs fr place n w a b=r at *
  generalize mkE k ps rs fr place n w a b=E at *
  have hC:=Ed (r:=r)
  generalize hre:r.enc=re at *
  simp -implicitDefEqProofs only [rX,↓rY,aA,cells?,splice,↓reduceIte,Nat.reduceEqDiff,Nat.reduceAdd,reduceCtorEq,aC,aQ,hl,hC,uW]
  refine aE o11 o3 (by subst hre;simp [ren,cI,Gp,Lz]) trivial ?_
  have hl5:(re++[V.i E]).length=25:=by simp [hl]
  have hC5:(re++[V.i E]).all isC=true:=by simp [hC,isC,isD]
  have h24:(re++[V.i E])[24]?=some (.i E):=by rw [yaA (by omega),hl];rfl
  have t24:yac 24 (re++[V.i E])=re:=by rw [List.take_append_of_le_length (by omega),htk]
  simp -implicitDefEqProofs only [rX,↓rY,aA,cells?,splice,↓reduceIte,Nat.reduceEqDiff,Nat.reduceAdd,aC,aQ,hl5,hC5,Fd]
  refine aE ok9 ⟨trivial,trivial⟩ rfl trivial ?_
  simp -implicitDefEqProofs only [rX,↓rY,↓reduceIte,Nat.reduceEqDiff,Nat.reduceLeDiff,hl,hl5,h24,t24,htk,beq_self_eq_true]
  refine aE (akJ r hsg (by omega)) ⟨⟨(eA hre.symm).1,(eA hre.symm).1,trivial⟩,(eA hre.symm).2,(eA hre.symm).2,trivial⟩ rfl trivial ?_
  simp -implicitDefEqProofs only [rX,↓rY,↓reduceIte,Nat.reduceEqDiff,aL,aM,wfV]
set_option maxRecDepth 20000
open Go.Fx.P (Arc aH)
theorem afQ {f:FuncId} {xs:List V} (h:Ok f xs (Is (.b true))):Fn Tryz.prog f xs [] [] (fun r _=>r=.b true):=(Rm h fun r h' hr=>hr.1).2
abbrev tI:Fx.T:=.int .i64
abbrev tLi:Fx.T:=.sl 1 tI
abbrev tPl:Fx.T:=.st [.sl 3 (.st [tI,tI,tI]),.sl 4 (.st [tI,tI,tI,tI])]
abbrev tFr:Fx.T:=.st [tI,tI,tLi,tLi,tLi]
abbrev tKy:Fx.T:=.st [tI,tI,.str,tI,tI]
abbrev tPe:Fx.T:=.st [tI,tI]
theorem lY {k:IntKind} {x:List V} (h:WfT (.int k) x):∃ n:Int,x=[.v (.int k n)]∧lo k≤n∧n≤hi k:=by
 simpa only [WfT] using h
theorem eU {t:Fx.T} {ts:List Fx.T} {x:List V} (h:nY (t::ts) x):∃ a b,x=a++b∧WfT t a∧nY ts b:=by
 rwa [nY.eq_2] at h
theorem exM {α β:Type} {g:α→β} {p:α→Prop}:∀ {els:List β},(∀ x∈els,∃ a,x=g a∧p a)→∃ l:List α,els=l.map g∧∀ a∈l,p a
 | [],_=>⟨[],rfl,by simp⟩
 | x::r,h=>by
  obtain ⟨a,rfl,ha⟩:=h x yay
  obtain ⟨l,rfl,hl⟩:=exM (els:=r) fun y hy=>h y (yas _ hy)
  exact ⟨a::l,rfl,fun b hb=>(yad.1 hb).elim (fun e=>e▸ha) (hl b)⟩
theorem Al {n:Int} (h:lo .i64≤n∧n≤hi .i64):-9223372036854775808≤n∧n≤9223372036854775807:=h
theorem Pu {x:List V} (h:WfT tLi x):∃ l:List Int,x=[P.li l]∧In64 l:=by
 rw [WfT] at h
 obtain ⟨els,rfl,_,he⟩:=h
 obtain ⟨l,rfl,hl⟩:=exM (g:=P.encI) (p:=fun n=>-9223372036854775808≤n∧n≤9223372036854775807) fun x hx=>by
  obtain ⟨n,e,hn⟩:=lY (he x hx)
  exact ⟨n,e,Al hn⟩
 exact ⟨l,rfl,hl⟩
theorem wf_sp {x:List V} (h:WfT (.st [tI,tI,tI]) x):∃ a:aH,x=a.enc:=by
 simp only [WfT,nY] at h
 obtain ⟨_,_,rfl,⟨a,rfl,_⟩,_,_,rfl,⟨b,rfl,_⟩,_,_,rfl,⟨c,rfl,_⟩,rfl⟩:=h
 exact ⟨⟨a,b,c⟩,rfl⟩
theorem wf_rd {x:List V} (h:WfT (.st [tI,tI,tI,tI]) x):∃ a:P.Road,x=a.enc:=by
 simp only [WfT,nY] at h
 obtain ⟨_,_,rfl,⟨a,rfl,_⟩,_,_,rfl,⟨b,rfl,_⟩,_,_,rfl,⟨c,rfl,_⟩,_,_,rfl,⟨d,rfl,_⟩,rfl⟩:=h
 exact ⟨⟨a,b,c,d⟩,rfl⟩
theorem wf_plant {x:V} (h:WfV tPl x):∃ ps rs,x=P.bF ps rs:=by
 obtain ⟨cs,h,rfl⟩:=h
 obtain ⟨_,_,rfl,q0,h⟩:=eU h
 obtain ⟨_,_,rfl,q1,h⟩:=eU h
 rw [nY.eq_1] at h
 subst h
 rw [WfT] at q0 q1
 obtain ⟨els,rfl,_,he⟩:=q0
 obtain ⟨els',rfl,_,he'⟩:=q1
 obtain ⟨ps,rfl,_⟩:=exM (g:=aH.enc) (p:=fun _=>True) fun x hx=>(wf_sp (he x hx)).imp fun a e=>⟨e,trivial⟩
 obtain ⟨rs,rfl,_⟩:=exM (g:=P.Road.enc) (p:=fun _=>True) fun x hx=>(wf_rd (he' x hx)).imp fun a e=>⟨e,trivial⟩
 exact ⟨ps,rs,rfl⟩
theorem acE {x:V} (h:WfV tFr x):∃ f:P.Fr,x=f.enc∧In64 [f.sent]∧In64 f.cut:=by
 obtain ⟨cs,h,rfl⟩:=h
 obtain ⟨_,_,rfl,q0,h⟩:=eU h
 obtain ⟨_,_,rfl,q1,h⟩:=eU h
 obtain ⟨_,_,rfl,q2,h⟩:=eU h
 obtain ⟨_,_,rfl,q3,h⟩:=eU h
 obtain ⟨_,_,rfl,q4,h⟩:=eU h
 rw [nY.eq_1] at h
 subst h
 obtain ⟨s,rfl,hs⟩:=lY q0
 obtain ⟨c,rfl,_⟩:=lY q1
 obtain ⟨l2,rfl,_⟩:=Pu q2
 obtain ⟨l3,rfl,_⟩:=Pu q3
 obtain ⟨l4,rfl,h4⟩:=Pu q4
 exact ⟨⟨s,c,l2,l3,l4⟩,rfl,fun x hx=>by rw [yaH.1 hx];exact Al hs,h4⟩
theorem Zq {x:List V} (h:WfT tKy x):∃ k:Ky,x=k.enc∧In64 [k.party,k.serial]:=by
 rw [WfT] at h
 obtain ⟨_,_,rfl,q0,h⟩:=eU h
 obtain ⟨_,_,rfl,q1,h⟩:=eU h
 obtain ⟨_,_,rfl,q2,h⟩:=eU h
 obtain ⟨_,_,rfl,q3,h⟩:=eU h
 obtain ⟨_,_,rfl,q4,h⟩:=eU h
 rw [nY.eq_1] at h
 subst h
 obtain ⟨n0,rfl,h0⟩:=lY q0
 obtain ⟨n1,rfl,h1⟩:=lY q1
 rw [WfT] at q2
 obtain ⟨s,rfl,_⟩:=q2
 obtain ⟨l,rfl⟩:=acL (b:=s)
 obtain ⟨n3,rfl,_⟩:=lY q3
 obtain ⟨n4,rfl,_⟩:=lY q4
 refine ⟨⟨n0,n1,l,n3,n4⟩,rfl,fun x hx=>?_⟩
 simp only [yad,yau,or_false] at hx
 rcases hx with rfl|rfl
 ·exact Al h0
 ·exact Al h1
theorem Zo {x:V} (h:WfV tKy x):∃ k:Ky,x=.agg k.enc∧In64 [k.party,k.serial]:=by
 obtain ⟨cs,h,rfl⟩:=h
 obtain ⟨k,rfl,h1⟩:=Zq (by rw [WfT];exact h)
 exact ⟨k,rfl,h1⟩
theorem Iv {x:V} (h:WfV tI x):∃ n:Int,x=.i n∧-9223372036854775808≤n∧n≤9223372036854775807:=by
 obtain ⟨n,h1,h2⟩:=lY (show WfT tI [x] from h)
 exact ⟨n,by simpa using h1,Al h2⟩
theorem acD {x:List V} (h:WfT tPe x):∃ a b:Int,x=[.i a,.i b]∧In64 [a,b]:=by
 rw [WfT] at h
 obtain ⟨_,_,rfl,q0,h⟩:=eU h
 obtain ⟨_,_,rfl,q1,h⟩:=eU h
 rw [nY.eq_1] at h
 subst h
 obtain ⟨n0,rfl,h0⟩:=lY q0
 obtain ⟨n1,rfl,h1⟩:=lY q1
 refine ⟨n0,n1,rfl,fun x hx=>?_⟩
 simp only [yad,yau,or_false] at hx
 rcases hx with rfl|rfl
 ·exact Al h0
 ·exact Al h1
theorem acC {x:V} (h:WfV tPe x):∃ a b:Int,x=.agg [.i a,.i b]∧In64 [a,b]:=by
 obtain ⟨cs,h,rfl⟩:=h
 obtain ⟨a,b,rfl,h1⟩:=acD (by rw [WfT];exact h)
 exact ⟨a,b,rfl,h1⟩
theorem fn3:∀ xs,WfA [tKy,tPl,tFr,tI,tI,tI,tPe] xs→Fn Tryz.prog 3 xs [] [] (fun r _=>r=.b true):=by
 intro xs h
 obtain ⟨x1,_,rfl,h1,x2,_,rfl,h2,x3,_,rfl,h3,x4,_,rfl,h4,x5,_,rfl,h5,x6,_,rfl,h6,x7,_,rfl,h7,h⟩:=h
 obtain rfl:_=[]:=h
 obtain ⟨k,rfl,hk⟩:=Zo h1
 obtain ⟨ps,rs,rfl⟩:=wf_plant h2
 obtain ⟨fr,rfl,hs,hc⟩:=acE h3
 obtain ⟨p,rfl,hp⟩:=Iv h4
 obtain ⟨n,rfl,hn⟩:=Iv h5
 obtain ⟨w,rfl,hw⟩:=Iv h6
 obtain ⟨a,b,rfl,hab⟩:=acC h7
 refine afQ (ok3 k ps rs fr p n w a b (fun x hx=>?_) hc)
 simp only [yad,yau,or_false] at hx
 rcases hx with rfl|rfl|rfl|rfl|rfl|rfl|rfl
 ·exact hp
 ·exact hn
 ·exact hw
 ·exact hs _ (by simp)
 ·exact hab _ (by simp)
 ·exact hab _ (by simp)
 ·exact hk _ (by simp)
end Go.Fx.E
