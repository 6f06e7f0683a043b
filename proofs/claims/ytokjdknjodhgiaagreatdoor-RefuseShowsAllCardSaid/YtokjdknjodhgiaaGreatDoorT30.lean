import Derived.Test.YtokjdknjodhgiaaGreatDoorPTC25
import Derived.Test.YtokjdknjodhgiaaGreatDoorFxRX
import Derived.Shelf.Sort.Plain
import Derived.Ground.Names2Prog
import Derived.Shelf.Slices.In.SortNone
import Derived.Test.YtokjdknjodhgiaaGreatDoorProg
set_option linter.unusedVariables false
set_option linter.unusedSimpArgs false
set_option linter.unusedSectionVars false
open Int renaming toNat_natCast → yaa, le_refl → yae, natCast_zero → yal, toNat_of_nonneg → yap, min_le_right → yax, le_trans → yaC, natCast_add → yaE, add_mul → yaF, mul_le_mul_of_nonneg_right → yaG, lt_irrefl → yaH, min_eq_left → yaI, min_le_left → yaN
open List renaming replicate → yab, getElem_map → yac, getElem_mem → yad, getD_eq_getElem?_getD → yaf, getElem?_eq_getElem → yag, append_assoc → yah, getElem_of_mem → yai, take → yaj, take_of_length_le → yao, length_append → yaq, mem_singleton → yas, getElem?_eq_none → yat, length_map → yau, pairwise_iff_getElem → yav, length_set → yaw, getElem?_append_right → yaA, append_nil → yaB, length_cons → yaD, mem_append → yaJ, map_append → yaK, mem_cons → yaL, getElem?_replicate → yaM, count_cons → yaO, length_singleton → yaP, getElem_append_left → yaQ, getElem?_append_left → yaS, take_append_getElem → yaT, set_append_right → yaW, length_eq_zero_iff → yaX, drop_eq_getElem_cons → yaY, take_succ_cons → yaZ
open Nat renaming zero_le → yak, lt_or_ge → yam, le_refl → yan
open Option renaming isSome_none → yar, isSome_some → yaz
open Bool renaming false_eq_true → yay, eq_iff_iff → yaR, false_and → yaU, true_and → yaV
open Array renaming getElem?_append_left → yba, getElem?_modify → ybb
namespace Go.Fx.P.K
open Go Go.Fx Go.Fx.E Go.Proofs
set_option maxRecDepth 20000
theorem abV (i:Nat):(Hr i)[0]?=some (.i i):=rfl
def cP (arcs:List Arc) (x:List Int) (v k:Nat):Int:=if (gA arcs k).from_=v then (gA arcs k).cap-x.getD k 0 else x.getD k 0
def j8 (arcs:List Arc) (x:List Int) (v k:Nat):V :=
 if (gA arcs k).from_=v then .agg [.i k,.i (gA arcs k).to,.i ((gA arcs k).cap-x.getD k 0),.i (gA arcs k).cost,.b false]
 else .agg [.i k,.i (gA arcs k).from_,.i (x.getD k 0),.i (-(gA arcs k).cost),.b true]
def vK (arcs:List Arc) (x:List Int) (v k:Nat):List V :=
 if (gA arcs k).from_=v then [.i k,.i (gA arcs k).to,.i ((gA arcs k).cap-x.getD k 0),.i (gA arcs k).cost,.b false]
 else [.i k,.i (gA arcs k).from_,.i (x.getD k 0),.i (-(gA arcs k).cost),.b true]
theorem abU {a:Arc} {q:List Blk}:wfL q a.enc:=by simp [Arc.enc,wfL,wfV]
structure EI (arcs:List Arc) (v k a b i:Nat) (e:Env):Prop where
 e0:get e 0=.itr k
 e1:get e 1=.ptr a 0 0
 e2:get e 2=.ptr b 0 0
 e14:get e 14=.ro 1 (encR (bT arcs v arcs.length))
 e15:get e 15=.i (bT arcs v arcs.length).length
 e16:get e 16=.i i
 e65:get e 65=.b true
structure ItH {G:Type} (hp:G→List Blk) (fl:G→List Int) (L N v:Nat) (arcs:List Arc) (k a b w fb ob pb:Nat) (fx:List Nat):Prop where
 hV:Val N arcs
 hv:v<N
 len:∀ g,(hp g).length=L
 ha:∀ g tl,(hp g++tl)[a]?=some (.var [.ptr w 0 0])
 hb:∀ g tl,(hp g++tl)[b]?=some (.var [.i v])
 hw:∀ g tl,(hp g++tl)[w]?=some (wB N arcs.length arcs fb ob pb)
 hf:∀ g tl,(hp g++tl)[fb]?=some (.arr 1 ((fl g).map encI))
 ho:∀ g tl,(hp g++tl)[ob]?=some (.arv 1 (iJ arcs N))
 kp:∀ g,aD fx (hp g)
 wf:∀ g,wfB (hp g) (hp g)
 lk:∀ g,∃ t e,(hp g)[k]?=some (.rcd t e)
 fk:∀ g,(fl g).length=arcs.length∧∀ j,0≤(fl g).getD j 0∧(fl g).getD j 0≤1073741824
theorem leH_app:∀ (h l:List Blk),leH (h++l) h
 | [],_=>by unfold leH;trivial
 | b::h,l=>⟨bB b,leH_app h l⟩
abbrev mY {G:Type} (hp:G→List Blk) (arcs:List Arc) (v k a b:Nat) (g:Nat × G):St :=
 ⟨[(16,.i g.1),(15,.i (bT arcs v arcs.length).length),(14,.ro 1 (encR (bT arcs v arcs.length))),(2,.ptr b 0 0),(1,.ptr a 0 0),(0,.itr k)],hp g.2,0⟩
section
variable {G:Type} {hp:G→List Blk} {fl:G→List Int} {L N v:Nat} {arcs:List Arc} {k a b w fb ob pb:Nat} {fx:List Nat} {Y:Yt} {K:List Blk→Prop} {Inv:Nat→G→Prop}
theorem vZ {i:Nat} (h:i<(bT arcs v arcs.length).length):(bT arcs v arcs.length)[i]<arcs.length∧((gA arcs (bT arcs v arcs.length)[i]).from_=v∨(gA arcs (bT arcs v arcs.length)[i]).to=v):=by
 have:=yad h
 unfold bT at this
 rw [List.mem_filter,List.mem_range,decide_eq_true_eq] at this
 exact this
theorem Wf (H:ItH hp fl L N v arcs k a b w fb ob pb fx)
  (hskip:∀ i g (hi:i<(bT arcs v arcs.length).length),Inv i g→cP arcs (fl g) v (bT arcs v arcs.length)[i]≤0→Inv (i+1) g)
  (hY:∀ i g (hi:i<(bT arcs v arcs.length).length),Inv i g→0<cP arcs (fl g) v (bT arcs v arcs.length)[i]→∀ (e:Env) (bb:Nat) (Z:V→St→Prop),EI arcs v k a b i e →
   (∀ e' g' tl,EI arcs v k a b i e'→Inv (i+1) g'→Z (.b true) ⟨e',hp g'++tl,bb⟩)→(∀ e' hh,EI arcs v k a b i e'→K hh→Z (.b false) ⟨e',hh,bb⟩)→Y [j8 arcs (fl g) v (bT arcs v arcs.length)[i]] ⟨e,hp g++[.var (gA arcs (bT arcs v arcs.length)[i]).enc,.var (vK arcs (fl g) v (bT arcs v arcs.length)[i])],bb⟩ Z)
  (hK:∀ g,Inv (bT arcs v arcs.length).length g→K (hp g))
  (g:Nat × G) (hg:g.1≤(bT arcs v arcs.length).length∧Inv g.1 g.2) :
  aw ⟨C0 Tryz.prog,fx,[],I0 Tryz.prog,fun k' xs s Z=>k'=k∧Y xs s Z,none⟩ c146l0 (fun s'=>∃ g':Nat × G,((g'.1≤(bT arcs v arcs.length).length∧Inv g'.1 g'.2)∧(bT arcs v arcs.length).length-g'.1<(bT arcs v arcs.length).length-g.1)∧leS fx s' (mY hp arcs v k a b g'))
   (fun j s'=>if j=0 then K s'.h else False) (fun s=>K s.h) (mY hp arcs v k a b g):=by
 obtain ⟨i,g⟩:=g
 obtain ⟨hi,hI⟩:=hg
 simp only at hi hI
 have hL:=H.hV.hl
 have ha:=H.ha g
 have hb:=H.hb g
 have hw:=H.hw g
 have hf:=H.hf g
 have ho:=H.ho g
 have hlen:=H.len g
 have hk0:=hK g
 have go:∀ j tl,(hp g++tl)[L+j]?=tl[j]?:=fun j tl=>by
  rw [yaA (by omega),hlen];congr 1;omega
 have go0:∀ tl,(hp g++tl)[L]?=tl[0]?:=go 0
 have gs:∀ j tl B,(hp g++tl).set (L+j) B=hp g++tl.set j B:=fun j tl B=>by
  rw [yaW _ _ (by omega),hlen];congr 2;omega
 have gs0:∀ tl B,(hp g++tl).set L B=hp g++tl.set 0 B:=gs 0
 have a0:=ha []
 have b0:=hb []
 have w0:=hw []
 have f0:=hf []
 have o0:=ho []
 rw [yaB] at a0 b0 w0 f0 o0
 generalize hrow:bT arcs v arcs.length=row at *
 unfold c146l0 mY
 rcases yam i row.length with hi1|hi1
 ·have hd:decide ((i:Int)<(row.length:Int))=true:=decide_eq_true (by omega)
  have hin:row[i]<arcs.length∧((gA arcs row[i]).from_=v∨(gA arcs row[i]).to=v):=by have:=vZ (v:=v) (arcs:=arcs) (i:=i) (by rw [hrow];exact hi1);simp only [hrow] at this;exact this
  have hga:gA arcs row[i]=arcs[row[i]]'hin.1:=gA_at hin.1
  simp -implicitDefEqProofs only [rX,↓rY,rZ,↓rW,rdK,aA,cells?,splice,↓reduceIte,Nat.reduceEqDiff,cU,Nat.reduceAdd,reduceCtorEq,aC,bU,leE,aB,wfE,wfV,isC,Nat.reduceLeDiff,yac,enc_len,fB,oP,oO,sR,u9,fO,cR,yaa,hrow,hd,encR,abV,hlen,yah,ha,hb,hw,hf,wB,go,go0,gs,gs0]
  have hrk:((row[i]:Nat):Int)<arcs.length:=by omega
  have hfk:=H.fk g
  have hfx:row[i]<(fl g).length:=by rw [hfk.1];exact hin.1
  have hfb:=hfk.2 row[i]
  have hva:=H.hV.at hin.1
  have hxe:(fl g).getD row[i] 0=(fl g)[row[i]]:=bY hfx
  have hlrow:row.length≤2048:=by rw [←hrow];exact Nat.le_trans yS hL
  rw [hga] at hva
  have hwrap:IntKind.wrap .i64 (-arcs[row[i]].cost)=-arcs[row[i]].cost:=dY .i64 _ (by simp only [lo,Fx.hi];omega)
  rw [hxe] at hfb
  have hroom:cP arcs (fl g) v row[i]=if arcs[row[i]].from_=v then arcs[row[i]].cap-(fl g)[row[i]] else (fl g)[row[i]]:=by unfold cP;rw [hga,hxe]
  have hway:j8 arcs (fl g) v row[i]=if arcs[row[i]].from_=v then .agg [.i row[i],.i arcs[row[i]].to,.i (arcs[row[i]].cap-(fl g)[row[i]]),.i arcs[row[i]].cost,.b false] else .agg [.i row[i],.i arcs[row[i]].from_,.i (fl g)[row[i]],.i (-arcs[row[i]].cost),.b true]:=by unfold j8;rw [hga,hxe]
  have hwc:vK arcs (fl g) v row[i]=if arcs[row[i]].from_=v then [.i row[i],.i arcs[row[i]].to,.i (arcs[row[i]].cap-(fl g)[row[i]]),.i arcs[row[i]].cost,.b false] else [.i row[i],.i arcs[row[i]].from_,.i (fl g)[row[i]],.i (-arcs[row[i]].cost),.b true]:=by unfold vK;rw [hga,hxe]
  have hsk:=hskip i g hi1 hI
  have hy:=hY i g hi1 hI
  rw [hroom] at hsk hy
  rw [hway,hwc,hga] at hy
  simp only [hwrap]
  refine ⟨⟨by omega,by omega⟩,hi1,⟨by omega,hrk⟩,hin.1,⟨by omega,by omega⟩,hfx,by simp only [lo,Fx.hi];omega,?_⟩
  have hnext:∀ (g':G) (tl:List Blk) (e':Env),EI arcs v k a b i e'→Inv (i+1) g'→leS fx ⟨(16,.i ((i:Int)+1))::(71,.i ((i:Int)+1))::(70,.b false)::(69,.b false)::(65,.b true)::(68,.b true)::e',hp g'++tl,0⟩ (mY hp arcs v k a b (i+1,g')):=by
   intro g' tl e' he' hI'
   have la:=H.ha g' []
   have lb:=H.hb g' []
   obtain ⟨tk,ek,lk⟩:=H.lk g'
   rw [yaB] at la lb
   have e1:=he'.e0;have e2:=he'.e1;have e3:=he'.e2;have e4:=he'.e14;have e5:=he'.e15
   unfold mY
   simp -implicitDefEqProofs only [rX,↓reduceIte,Nat.reduceEqDiff,reduceCtorEq,leE,aB,wfE,wfV,e1,e2,e3,e4,e5,eq_true (leH_app (hp g') tl),eq_true (H.kp g'),eq_true (H.wf g'),la,lb,lk]
   rfl
  by_cases hv:arcs[row[i]].from_=v
  ·have hb1:(arcs[row[i]].from_ != (v:Int))=false:=by simpa using hv
   simp only [if_pos hv] at hsk hy
   simp only [hb1,wd]
   simp only [br,decide_eq_true_eq,decide_eq_false_iff_not]
   refine ⟨fun hr=>?_,fun hr=>?_⟩
   ·refine ⟨rfl,?_⟩
    refine hy hr _ _ _ ⟨rfl,rfl,rfl,by rw [hrow];rfl,by rw [hrow];rfl,rfl,rfl⟩ ?_ ?_
    ·intro e' g' tl he' hI'
     simp -implicitDefEqProofs only [rX,↓rY,rZ,aA,↓reduceIte,Nat.reduceEqDiff,reduceCtorEq,leE,aB,wfE,wfV,he'.e65,he'.e16]
     refine ⟨by simp only [lo,Fx.hi];omega,(i+1,g'),⟨⟨by show i+1≤row.length;omega,hI'⟩,by show row.length-(i+1)<row.length-i;omega⟩,?_⟩
     have:=hnext g' tl e' he' hI'
     unfold mY at this
     simp -implicitDefEqProofs only [rX,↓reduceIte,Nat.reduceEqDiff,reduceCtorEq,leE,aB,wfE,wfV,hrow] at this ⊢
     exact this
    ·intro e' hh he' hK'
     simp -implicitDefEqProofs only [rX,↓rY,rZ,↓reduceIte,Nat.reduceEqDiff,he'.e65]
     exact hK'
   ·refine ⟨by simp only [lo,Fx.hi];omega,(i+1,g),⟨⟨by show i+1≤row.length;omega,hsk (by omega)⟩,by show row.length-(i+1)<row.length-i;omega⟩,?_⟩
    obtain ⟨tk,ek,lk⟩:=H.lk g
    simp only [a0,b0,lk]
    exact ⟨rfl,leH_app _ _,H.kp g,⟨trivial,trivial,trivial⟩,H.wf g⟩
  ·have hb1:(arcs[row[i]].from_ != (v:Int))=true:=by simpa using hv
   simp only [if_neg hv] at hsk hy
   simp only [hb1,wc]
   simp only [br,decide_eq_true_eq,decide_eq_false_iff_not]
   refine ⟨⟨by omega,hrk⟩,hfx,fun hr=>?_,fun hr=>?_⟩
   ·refine ⟨rfl,?_⟩
    refine hy hr _ _ _ ⟨rfl,rfl,rfl,by rw [hrow];rfl,by rw [hrow];rfl,rfl,rfl⟩ ?_ ?_
    ·intro e' g' tl he' hI'
     simp -implicitDefEqProofs only [rX,↓rY,rZ,aA,↓reduceIte,Nat.reduceEqDiff,reduceCtorEq,leE,aB,wfE,wfV,he'.e65,he'.e16]
     refine ⟨by simp only [lo,Fx.hi];omega,(i+1,g'),⟨⟨by show i+1≤row.length;omega,hI'⟩,by show row.length-(i+1)<row.length-i;omega⟩,?_⟩
     have:=hnext g' tl e' he' hI'
     unfold mY at this
     simp -implicitDefEqProofs only [rX,↓reduceIte,Nat.reduceEqDiff,reduceCtorEq,leE,aB,wfE,wfV,hrow] at this ⊢
     exact this
    ·intro e' hh he' hK'
     simp -implicitDefEqProofs only [rX,↓rY,rZ,↓reduceIte,Nat.reduceEqDiff,he'.e65]
     exact hK'
   ·refine ⟨by simp only [lo,Fx.hi];omega,(i+1,g),⟨⟨by show i+1≤row.length;omega,hsk (by omega)⟩,by show row.length-(i+1)<row.length-i;omega⟩,?_⟩
    obtain ⟨tk,ek,lk⟩:=H.lk g
    simp only [a0,b0,lk]
    exact ⟨rfl,leH_app _ _,H.kp g,⟨trivial,trivial,trivial⟩,H.wf g⟩
 ·have hd:decide ((i:Int)<(row.length:Int))=false:=decide_eq_false (by omega)
  have hie:i=row.length:=by omega
  subst hie
  have:=hk0 (by rw [←hrow] at *;exact hI)
  simp -implicitDefEqProofs only [rX,↓rY,↓reduceIte,Nat.reduceEqDiff,hd,hrow]
  first|exact this|simpa using this
theorem Yq (H:ItH hp fl L N v arcs k a b w fb ob pb fx)
  (hskip:∀ i g (hi:i<(bT arcs v arcs.length).length),Inv i g→cP arcs (fl g) v (bT arcs v arcs.length)[i]≤0→Inv (i+1) g)
  (hY:∀ i g (hi:i<(bT arcs v arcs.length).length),Inv i g→0<cP arcs (fl g) v (bT arcs v arcs.length)[i]→∀ (e:Env) (bb:Nat) (Z:V→St→Prop),EI arcs v k a b i e →
   (∀ e' g' tl,EI arcs v k a b i e'→Inv (i+1) g'→Z (.b true) ⟨e',hp g'++tl,bb⟩)→(∀ e' hh,EI arcs v k a b i e'→K hh→Z (.b false) ⟨e',hh,bb⟩)→Y [j8 arcs (fl g) v (bT arcs v arcs.length)[i]] ⟨e,hp g++[.var (gA arcs (bT arcs v arcs.length)[i]).enc,.var (vK arcs (fl g) v (bT arcs v arcs.length)[i])],bb⟩ Z)
  (hK:∀ g,Inv (bT arcs v arcs.length).length g→K (hp g)) (g:G) (hg:Inv 0 g) :
  I0 Tryz.prog 146 [.itr k,.ptr a 0 0,.ptr b 0 0] fx k Y (hp g) K:=by
 refine Sf pol fx lw146 (by simp) ?_
 have hL:=H.hV.hl
 have hlen:=H.len g
 have a0:=H.ha g []
 have b0:=H.hb g []
 have w0:=H.hw g []
 have o0:=H.ho g []
 rw [yaB] at a0 b0 w0 o0
 obtain ⟨tk,ek,lk⟩:=H.lk g
 have hv:=H.hv
 have hg2:v<(iJ arcs N).length:=by rw [Gq];exact hv
 have hlrow:(bT arcs v arcs.length).length≤2048:=Nat.le_trans yS hL
 unfold c146
 simp -implicitDefEqProofs only [rX,↓rY,aA,↓reduceIte,Nat.reduceEqDiff,cU,Nat.reduceAdd,reduceCtorEq,yaa,aL,a0,b0,w0,o0,wB,Gq,Ri]
 refine ⟨by omega,hv,fun _=>?_⟩
 refine aV (mY hp arcs v k a b) (fun g=>g.1≤(bT arcs v arcs.length).length∧Inv g.1 g.2) (fun g=>(bT arcs v arcs.length).length-g.1) (0,g) ⟨yak _,hg⟩ ?_ (Wf H hskip hY hK)
 unfold mY
 simp -implicitDefEqProofs only [rX,↓reduceIte,Nat.reduceEqDiff,reduceCtorEq,leE,aB,wfE,wfV,a0,b0,lk,yal,eq_true (H.kp g),eq_true (H.wf g),eq_true (bV (hp g)),encR]
end
end Go.Fx.P.K
namespace Go.Fx.Lb
theorem Gt:∀ (N:Nat) (l:List Nat),l.Nodup→(∀ x∈l,x<N)→l.length≤N
 | 0,l,_,h=>by
  cases l with
  | nil=>simp
  | cons x r=>exact absurd (h x (by simp)) (by omega)
 | N+1,l,hn,h=>by
  have h1:(l.erase N).Nodup:=hn.erase N
  have h2:∀ x∈l.erase N,x<N:=by
   intro x hx
   have h3:=h x (List.mem_of_mem_erase hx)
   have h4:x≠N:=fun e=>by subst e;exact (hn.mem_erase_iff.1 hx).1 rfl
   omega
  have h5:=Gt N _ h1 h2
  have h6:l.length≤(l.erase N).length+1:=by
   rw [List.length_erase];split<;>omega
  omega
def upd {α:Type} (f:Nat→α) (v:Nat) (x:α):Nat→α:=fun u=>if u=v then x else f u
theorem Io {α:Type} (f:Nat→α) (v:Nat) (x:α):upd f v x v=x:=by simp [upd]
theorem upd_ne {α:Type} (f:Nat→α) {v u:Nat} (x:α) (h:u≠v):upd f v x u=f u:=by simp [upd,h]
structure Gr where
 N:Nat
 s:Nat
 src:Nat→Nat
 dst:Nat→Nat
 c:Nat→Int
 res:Nat→Prop
 π:Nat→Int
 hs:s<N
 hN:∀ i,res i→src i<N∧dst i<N
 hπ:∀ i,res i→0≤c i+π (src i)-π (dst i)
section
variable (G:Gr)
def PR:Nat→List Nat→Prop
 | v,[]=>v=G.s
 | v,i::r=>G.res i∧G.dst i=v∧PR (G.src i) r
def cs:List Nat→Int
 | []=>0
 | i::r=>G.c i+cs r
def vs:Nat→List Nat→List Nat
 | v,[]=>[v]
 | v,i::r=>v::vs (G.src i) r
def Dom (D:Nat→Int):Nat→List Nat→Prop
 | v,[]=>D v≤0
 | v,i::r=>D v≤cs G (i::r)∧Dom D (G.src i) r
variable {G}
theorem Pp:∀ (v:Nat) (r:List Nat),(vs G v r).length=r.length+1
 | _,[]=>rfl
 | v,i::r=>by simp [vs,Pp (G.src i) r]
theorem Xt:∀ (v:Nat) (r:List Nat),PR G v r→∀ u∈vs G v r,u<G.N
 | v,[],h,u,hu=>by
  simp only [vs,yas] at hu
  subst hu
  rw [show u=G.s from h];exact G.hs
 | v,i::r,h,u,hu=>by
  rcases yaL.1 hu with rfl|hu
  ·rw [←h.2.1];exact (G.hN i h.1).2
  ·exact Xt _ r h.2.2 u hu
theorem Dom.head {D:Nat→Int} {v:Nat} {r:List Nat} (h:Dom G D v r):D v≤cs G r:=by
 cases r with
 | nil=>exact h
 | cons i r=>exact h.1
theorem Dom.le {D D':Nat→Int} (hle:∀ u,D' u≤D u):∀ {v:Nat} {r:List Nat},Dom G D v r→Dom G D' v r
 | v,[],h=>yaC (hle v) h
 | v,i::r,h=>⟨yaC (hle v) h.1,Dom.le hle h.2⟩
theorem Tj {D:Nat→Int} {v:Nat}:∀ {u:Nat} {r:List Nat},PR G u r→Dom G D u r→v∈vs G u r→D v+(G.π u-G.π v)≤cs G r
 | u,[],_,hd,hv=>by
  simp only [vs,yas] at hv
  subst hv
  have:D v≤0:=hd
  simp only [cs];omega
 | u,i::r,hp,hd,hv=>by
  rcases yaL.1 hv with rfl|hv
  ·have:=hd.1;omega
  ·have ih:=Tj hp.2.2 hd.2 hv
   have:=G.hπ i hp.1
   have hdst:=hp.2.1
   rw [hdst] at this
   simp only [cs];omega
theorem Lw:∀ {u:Nat} {r:List Nat},PR G u r→0≤cs G r+G.π G.s-G.π u
 | u,[],h=>by rw [show u=G.s from h];simp only [cs];omega
 | u,i::r,h=>by
  have ih:=Lw h.2.2
  have:=G.hπ i h.1
  rw [h.2.1] at this
  simp only [cs];omega
structure Wp (G:Gr) (D:Nat→Int) (v:Nat) (r:List Nat):Prop where
 pr:PR G v r
 co:cs G r=D v
 nd:(vs G v r).Nodup
 dm:Dom G D v r
theorem Wp.len {D:Nat→Int} {v:Nat} {r:List Nat} (h:Wp G D v r):r.length<G.N:=by
 have:=Gt G.N _ h.nd (Xt v r h.pr)
 rw [Pp] at this
 omega
theorem Hu {B C:Int} (hB:∀ i,G.res i→B≤G.c i∧G.c i≤C):∀ {v:Nat} {r:List Nat},PR G v r→(r.length:Int)*B≤cs G r∧cs G r≤(r.length:Int)*C
 | v,[],_=>by simp [cs]
 | v,i::r,h=>by
  have ih:=Hu hB h.2.2
  have:=hB i h.1
  simp only [cs,yaD]
  have e1:((r.length+1:Nat):Int)*B=(r.length:Int)*B+B:=by rw [yaE,yaF];simp
  have e2:((r.length+1:Nat):Int)*C=(r.length:Int)*C+C:=by rw [yaE,yaF];simp
  rw [e1,e2]
  omega
structure Lab (G:Gr) (F:Int) (D:Nat→Int):Prop where
 h0:D G.s=0
 hw:∀ v,v<G.N→D v=F∨(D v<F∧∃ r,Wp G D v r)
theorem Lab.start {F:Int} (hF:0<F):Lab G F (fun v=>if v=G.s then 0 else F):=by
 refine ⟨by simp,fun v _=>?_⟩
 by_cases h:v=G.s
 ·right
  simp only [h,if_true]
  exact ⟨hF,[],rfl,by simp [cs],by simp [vs],by simp [Dom]⟩
 ·left;simp [h]
theorem Lab.relax {F:Int} {D:Nat→Int} (h:Lab G F D) {i:Nat} (hr:G.res i) (hu:D (G.src i)<F) (hlt:D (G.src i)+G.c i<D (G.dst i)):Lab G F (upd D (G.dst i) (D (G.src i)+G.c i))∧G.dst i≠G.s:=by
 obtain ⟨hsN,hdN⟩:=G.hN i hr
 obtain ⟨ru,hWu⟩:∃ r,Wp G D (G.src i) r:=by
  rcases h.hw _ hsN with he|⟨_,h⟩
  ·omega
  ·exact h
 have hπi:=G.hπ i hr
 have hle:∀ u,upd D (G.dst i) (D (G.src i)+G.c i) u≤D u:=by
  intro u
  unfold upd
  split
  ·rename_i e;rw [e];omega
  ·exact yae _
 have hds:G.dst i≠G.s:=by
  intro e
  have h1:=Lw hWu.pr
  rw [hWu.co] at h1
  rw [e] at hπi hlt
  rw [h.h0] at hlt
  omega
 have hnot:G.dst i∉vs G (G.src i) ru:=by
  intro hm
  have:=Tj hWu.pr hWu.dm hm
  rw [hWu.co] at this
  omega
 have hdF:D (G.dst i)≤F:=by
  rcases h.hw _ hdN with he|⟨h1,_⟩<;>omega
 refine ⟨⟨by rw [upd_ne _ _ (Ne.symm hds)];exact h.h0,fun v hv=>?_⟩,hds⟩
 by_cases e:v=G.dst i
 ·subst e
  right
  rw [Io]
  refine ⟨by omega,i::ru,⟨hr,rfl,hWu.pr⟩,?_,?_,?_⟩
  ·simp only [cs,Io,hWu.co];omega
  ·exact List.nodup_cons.2 ⟨hnot,hWu.nd⟩
  ·refine ⟨?_,hWu.dm.le hle⟩
   rw [Io];simp only [cs,hWu.co];omega
 ·rw [upd_ne _ _ e]
  rcases h.hw v hv with he|⟨h1,r,hW⟩
  ·exact .inl he
  ·exact .inr ⟨h1,r,hW.pr,by rw [upd_ne _ _ e];exact hW.co,hW.nd,hW.dm.le hle⟩
def Cl (G:Gr) (F:Int) (D:Nat→Int):Prop:=∀ i,G.res i→D (G.src i)<F→D (G.dst i)≤D (G.src i)+G.c i
theorem Mu {F:Int} {D:Nat→Int} (h0:D G.s=0) (hF:0<F) (hc:Cl G F D) (hfin:∀ i,G.res i→D (G.src i)<F→D (G.dst i)<F):∀ {v:Nat} {r:List Nat},PR G v r→D v≤cs G r∧D v<F
 | v,[],h=>by rw [show v=G.s from h,h0];simp only [cs];omega
 | v,i::r,h=>by
  have ih:=Mu h0 hF hc hfin h.2.2
  have h1:=hc i h.1 ih.2
  have h2:=hfin i h.1 ih.2
  rw [h.2.1] at h1 h2
  simp only [cs];omega
def Tight (G:Gr) (D:Nat→Int):Nat→List Nat→Prop
 | _,[]=>True
 | _,i::r=>D (G.dst i)=D (G.src i)+G.c i∧Tight G D (G.src i) r
theorem Fv {F:Int} {D:Nat→Int} (h0:D G.s=0) (hF:0<F) (hc:Cl G F D) (hfin:∀ i,G.res i→D (G.src i)<F→D (G.dst i)<F):∀ {v:Nat} {r:List Nat},PR G v r→cs G r=D v→Tight G D v r
 | v,[],_,_=>trivial
 | v,i::r,h,he=>by
  have h1:=Mu h0 hF hc hfin h.2.2
  have h2:=hc i h.1 h1.2
  have h3:cs G (i::r)=G.c i+cs G r:=rfl
  have hd:=h.2.1
  rw [h3] at he
  rw [hd] at h2
  refine ⟨by rw [hd];omega,Fv h0 hF hc hfin h.2.2 (by omega)⟩
end
end Go.Fx.Lb
namespace Go.Fx.P.K
open Go Go.Fx Go.Fx.E Go.Proofs
def agU (arcs:List Arc) (x:List Int) (p:Nat→Int):Prop :=
 ∀ k,k<arcs.length→((gA arcs k).cost+p (gA arcs k).from_.toNat-p (gA arcs k).to.toNat<0→(gA arcs k).cap≤x.getD k 0)∧(0<(gA arcs k).cost+p (gA arcs k).from_.toNat-p (gA arcs k).to.toNat→x.getD k 0≤0)
theorem OkF.at {n:Int} {arcs:List Arc} {f t:Int} {x:List Int} (h:OkF n arcs f t x) {k:Nat} (hk:k<arcs.length):0≤x.getD k 0∧x.getD k 0≤(gA arcs k).cap:=by
 have hl:=h.hl
 have:=h.hp k (by omega) hk
 rw [gA_at hk,bY (by omega)]
 exact this
theorem Cd {g:Nat→Int}:∀ n,(∀ v,v<n→0≤g v)→0≤sm g n
 | 0,_=>yae _
 | n+1,hh=>by
  have:=Cd n fun v hv=>hh v (by omega)
  have:=hh n (by omega)
  simp only [sm];omega
theorem OkC.cut {N:Nat} {arcs:List Arc} (hV:Val N arcs) {f t:Int} (hf:0≤f∧f<N) (ht:0≤t∧t<N) {x cut:List Int} (h:OkC N arcs f t x cut):∀ k,k<arcs.length→(hasB cut ((gA arcs k).from_.toNat:Int)=true→hasB cut ((gA arcs k).to.toNat:Int)=false→x.getD k 0=(gA arcs k).cap)∧(hasB cut ((gA arcs k).to.toNat:Int)=true→hasB cut ((gA arcs k).from_.toNat:Int)=false→x.getD k 0=0):=by
 intro k hk
 have hv:=hV.at hk
 have:=h.ha.h k hk hk
 rw [yap hv.1.1,yap hv.2.1.1,gA_at hk]
 exact this
end Go.Fx.P.K
namespace Go.Fx.P.K
open Go Go.Fx Go.Fx.E Go.Proofs
def wsrc (arcs:List Arc) (i:Nat):Nat:=if i%2=0 then (gA arcs (i/2)).from_.toNat else (gA arcs (i/2)).to.toNat
def wdst (arcs:List Arc) (i:Nat):Nat:=if i%2=0 then (gA arcs (i/2)).to.toNat else (gA arcs (i/2)).from_.toNat
def e7 (arcs:List Arc) (i:Nat):Int:=if i%2=0 then (gA arcs (i/2)).cost else -(gA arcs (i/2)).cost
def wrm (arcs:List Arc) (x:List Int) (i:Nat):Int:=if i%2=0 then (gA arcs (i/2)).cap-x.getD (i/2) 0 else x.getD (i/2) 0
def rJ (arcs:List Arc) (x:List Int) (i:Nat):Prop:=i/2<arcs.length∧0<wrm arcs x i
def dJ (arcs:List Arc) (p:Nat→Int) (i:Nat):Int:=e7 arcs i+p (wsrc arcs i)-p (wdst arcs i)
def NN (arcs:List Arc) (x:List Int) (p:Nat→Int):Prop:=∀ i,rJ arcs x i→0≤dJ arcs p i
theorem xI {N:Nat} {arcs:List Arc} (hV:Val N arcs) {i:Nat} (h:i/2<arcs.length):wsrc arcs i<N∧wdst arcs i<N∧wsrc arcs i≠wdst arcs i:=by
 have:=hV.at h
 unfold wsrc wdst
 split<;>omega
theorem tC {N:Nat} {arcs:List Arc} (hV:Val N arcs) {i:Nat} (h:i/2<arcs.length):-1048576≤e7 arcs i∧e7 arcs i≤1048576:=by
 have:=hV.at h
 unfold e7
 split<;>omega
theorem Rn {arcs:List Arc} {x:List Int} {p:Nat→Int}:NN arcs x p↔agU arcs x p:=by
 constructor
 ·intro h k hk
  refine ⟨fun h1=>?_,fun h1=>?_⟩
  ·apply Classical.byContradiction
   intro h2
   have:=h (2*k) ⟨by omega,by
    unfold wrm
    rw [if_pos (by omega),show 2*k/2=k by omega];omega⟩
   unfold dJ e7 wsrc wdst at this
   rw [if_pos (by omega),if_pos (by omega),if_pos (by omega),show 2*k/2=k by omega] at this
   omega
  ·apply Classical.byContradiction
   intro h2
   have:=h (2*k+1) ⟨by omega,by
    unfold wrm
    rw [if_neg (by omega),show (2*k+1)/2=k by omega];omega⟩
   unfold dJ e7 wsrc wdst at this
   rw [if_neg (by omega),if_neg (by omega),if_neg (by omega),show (2*k+1)/2=k by omega] at this
   omega
 ·intro h i ⟨hi,hr⟩
  have:=h _ hi
  unfold wrm at hr
  unfold dJ e7 wsrc wdst
  split at hr
  ·rename_i h0
   rw [if_pos h0,if_pos h0,if_pos h0]
   have:=this.1
   apply Classical.byContradiction
   intro h3
   have:=this (by omega)
   omega
  ·rename_i h0
   rw [if_neg h0,if_neg h0,if_neg h0]
   have:=this.2
   apply Classical.byContradiction
   intro h3
   have:=this (by omega)
   omega
def wix (arcs:List Arc) (v k:Nat):Nat:=if (gA arcs k).from_=v then 2*k else 2*k+1
theorem fJ {arcs:List Arc} {v k:Nat}:wix arcs v k/2=k:=by unfold wix;split<;>omega
theorem Do {N:Nat} {arcs:List Arc} (hV:Val N arcs) {v k:Nat} (hk:k<arcs.length) (h:(gA arcs k).from_=v∨(gA arcs k).to=v):wsrc arcs (wix arcs v k)=v:=by
 have:=hV.at hk
 unfold wsrc
 rw [fJ]
 unfold wix
 split
 ·rw [if_pos (by omega)];omega
 ·rw [if_neg (by omega)];omega
theorem xH {arcs:List Arc} {x:List Int} {v k:Nat}:wrm arcs x (wix arcs v k)=cP arcs x v k:=by
 unfold wrm cP
 rw [fJ]
 unfold wix
 split
 ·rw [if_pos (by omega)]
 ·rw [if_neg (by omega)]
theorem Kv {N:Nat} {arcs:List Arc} (hV:Val N arcs) {i v:Nat} (hi:i/2<arcs.length) (hs:wsrc arcs i=v):i/2∈bT arcs v arcs.length∧wix arcs v (i/2)=i:=by
 have:=hV.at hi
 unfold wsrc at hs
 constructor
 ·unfold bT
  rw [List.mem_filter,List.mem_range,decide_eq_true_eq]
  refine ⟨hi,?_⟩
  split at hs
  ·left;omega
  ·right;omega
 ·unfold wix
  split at hs
  ·rw [if_pos (by omega)];omega
  ·rw [if_neg (by omega)];omega
def grD (N:Nat) (arcs:List Arc) (x:List Int) (p:Nat→Int) (s:Nat) (hV:Val N arcs) (hs:s<N) (hn:NN arcs x p):Lb.Gr :=
 ⟨N,s,wsrc arcs,wdst arcs,dJ arcs p,rJ arcs x,fun _=>0,hs,fun i h=>⟨(xI hV h.1).1,(xI hV h.1).2.1⟩,fun i h=>by have:=hn i h;show 0≤dJ arcs p i+0-0;omega⟩
def far:Int:=4611686018427387904
def KB:Int:=67711795200
def cn (d:Int):Int:=if d<far then KB+1-d else 0
structure DI (N:Nat) (G:Lb.Gr) (n:Nat) (ks vs D:List Int):Prop where
 lab:Lb.Lab G far (fun u=>D.getD u 0)
 len:D.length=N
 ent:∀ a b,lL n ks vs a b→(0≤b∧b<N)∧(0≤a∧a≤KB)∧D.getD b.toNat 0≤a
 cnt:(n:Int)≤sm (fun u=>cn (D.getD u 0)) N
 h1:n≤ks.length
 h2:n≤vs.length
def clN (G:Lb.Gr) (D:List Int) (u:Nat):Prop:=∀ i,G.res i→G.src i=u→D.getD (G.dst i) 0≤D.getD u 0+G.c i
def uQ (N:Nat) (G:Lb.Gr) (n:Nat) (ks vs D:List Int) (Q:Nat→Prop):Prop:=∀ u,u<N→Q u→D.getD u 0<far→lL n ks vs (D.getD u 0) u∨clN G D u
section
variable {N:Nat} {arcs:List Arc} {x:List Int} {p:Nat→Int} {s:Nat} {hV:Val N arcs} {hs:s<N} {hn:NN arcs x p}
theorem y7 (hN:N≤64) (hp:∀ j,0≤p j∧p j≤1073741824) {D:Nat→Int} (h:Lb.Lab (grD N arcs x p s hV hs hn) far D) {u:Nat} (hu:u<N):0≤D u∧(D u=far∨D u≤KB):=by
 rcases h.hw u hu with he|⟨_,r,hW⟩
 ·rw [he];exact ⟨by decide,.inl rfl⟩
 ·have h1:=Lb.Hu (G:=grD N arcs x p s hV hs hn) (B:=0) (C:=1074790400) (fun i hr=>by
   refine ⟨hn i hr,?_⟩
   have:=tC hV hr.1
   have h2:=hp (wsrc arcs i)
   have h3:=hp (wdst arcs i)
   show e7 arcs i+p (wsrc arcs i)-p (wdst arcs i)≤_
   omega) hW.pr
  have hl:r.length<N:=hW.len
  rw [hW.co] at h1
  have:(r.length:Int)*1074790400≤63*1074790400:=yaG (by omega) (by omega)
  exact ⟨by omega,.inr (by unfold KB;omega)⟩
theorem n_b (hN:N≤64) {D:List Int} (hD:∀ u,u<N→0≤D.getD u 0) {n:Nat} (h:(n:Int)≤sm (fun u=>cn (D.getD u 0)) N):n≤8796093022207:=by
 have h1:sm (fun u=>cn (D.getD u 0)) N≤sm (fun _=>KB+1) N:=Qg N fun u hu=>by
  have:=hD u hu
  unfold cn
  split
  ·omega
  ·unfold KB;omega
 have h2:∀ m:Nat,sm (fun _=>KB+1) m=(m:Int)*(KB+1):=by
  intro m
  induction m with
  | zero=>simp [sm]
  | succ m ih =>
   simp only [sm,ih]
   rw [yaE,yaF];simp
 rw [h2] at h1
 have:(N:Int)*(KB+1)≤64*(KB+1):=yaG (by omega) (by decide)
 have e:(64:Int)*(KB+1)=4333554892864:=by decide
 omega
theorem Ea {g h:Nat→Int} {v:Nat}:∀ n,v<n→(∀ u,u<n→u≠v→g u=h u)→sm g n=sm h n+(g v-h v)
 | 0,hv,_=>by omega
 | n+1,hv,hh=>by
  simp only [sm]
  by_cases e:v=n
  ·subst e
   rw [rV v fun u hu=>hh u (by omega) (by omega)];omega
  ·rw [Ea n (by omega) fun u hu hne=>hh u (by omega) hne,hh n (by omega) (Ne.symm e)];omega
end
end Go.Fx.P.K
namespace Go.Fx.P.K
open Go Go.Fx Go.Fx.E Go.Proofs
theorem f9 {l:List Int} {i j:Nat} {x:Int} (h:i<l.length):(l.set i x).getD j 0=if j=i then x else l.getD j 0:=t8 h
def meas (N n:Nat) (D:List Int):Nat:=2*(sm (fun u=>D.getD u 0) N).toNat+n
section
variable {N:Nat} {arcs:List Arc} {x:List Int} {p:Nat→Int} {s:Nat} {hV:Val N arcs} {hs:s<N} {hn:NN arcs x p}
theorem DI.nn {n:Nat} {ks vs D:List Int} (hN:N≤64) (hp:∀ j,0≤p j∧p j≤1073741824) (h:DI N (grD N arcs x p s hV hs hn) n ks vs D) {u:Nat} (hu:u<N):0≤D.getD u 0∧(D.getD u 0=far∨D.getD u 0≤KB):=y7 hN hp h.lab hu
theorem DI.n_le {n:Nat} {ks vs D:List Int} (hN:N≤64) (hp:∀ j,0≤p j∧p j≤1073741824) (h:DI N (grD N arcs x p s hV hs hn) n ks vs D):n≤8796093022207:=n_b hN (fun u hu=>(h.nn hN hp hu).1) h.cnt
theorem DI.push {n:Nat} {ks vs D ks' vs':List Int} (hN:N≤64) (hp:∀ j,0≤p j∧p j≤1073741824) (h:DI N (grD N arcs x p s hV hs hn) n ks vs D) {i:Nat} (hr:rJ arcs x i) (hu:D.getD (wsrc arcs i) 0<far) (hlt:D.getD (wsrc arcs i) 0+dJ arcs p i<D.getD (wdst arcs i) 0)
  (hq:nU n ks vs (D.getD (wsrc arcs i) 0+dJ arcs p i) (wdst arcs i:Nat) (ks',vs')) :
  DI N (grD N arcs x p s hV hs hn) (n+1) ks' vs' (D.set (wdst arcs i) (D.getD (wsrc arcs i) 0+dJ arcs p i))∧meas N (n+1) (D.set (wdst arcs i) (D.getD (wsrc arcs i) 0+dJ arcs p i))<meas N n D:=by
 obtain ⟨w1,w2,w3⟩:=xI hV hr.1
 obtain ⟨hl,hds⟩:=h.lab.relax (i:=i) hr hu hlt
 have hdl:wdst arcs i<D.length:=by rw [h.len];exact w2
 have efn:(fun u=>(D.set (wdst arcs i) (D.getD (wsrc arcs i) 0+dJ arcs p i)).getD u 0)=Lb.upd (fun u=>D.getD u 0) (wdst arcs i) (D.getD (wsrc arcs i) 0+dJ arcs p i):=by
  funext u
  rw [f9 hdl];rfl
 have hl':Lb.Lab (grD N arcs x p s hV hs hn) far (fun u=>(D.set (wdst arcs i) (D.getD (wsrc arcs i) 0+dJ arcs p i)).getD u 0):=by rw [efn];exact hl
 have hnew:0≤D.getD (wsrc arcs i) 0+dJ arcs p i:=by
  have:=(h.nn hN hp w1).1
  have:=hn i hr
  omega
 have hold:=h.nn hN hp w2
 have hlow:D.getD (wsrc arcs i) 0+dJ arcs p i<far:=by
  rcases hold.2 with e|e
  ·omega
  ·have:KB<far:=by decide
   omega
 have hkb:D.getD (wsrc arcs i) 0+dJ arcs p i≤KB:=by
  have:=y7 hN hp hl' w2
  rw [f9 hdl,if_pos rfl] at this
  rcases this.2 with e|e
  ·omega
  ·exact e
 generalize hnv:D.getD (wsrc arcs i) 0+dJ arcs p i=nv at *
 have hge:∀ u,(D.set (wdst arcs i) nv).getD u 0=if u=wdst arcs i then nv else D.getD u 0:=fun u=>f9 hdl
 refine ⟨⟨hl',by rw [yaw];exact h.len,fun a b hab=>?_,?_,by have:=hq.h1;simp only at this;omega,by have:=hq.h2;simp only at this;omega⟩,?_⟩
 ·rw [hge]
  rcases (hq.he a b).1 hab with h1|⟨rfl,rfl⟩
  ·obtain ⟨q1,q2,q3⟩:=h.ent a b h1
   refine ⟨q1,q2,?_⟩
   split
   ·rename_i e;rw [e] at q3;omega
   ·exact q3
  ·refine ⟨⟨by omega,by omega⟩,⟨hnew,hkb⟩,?_⟩
   rw [if_pos (by omega)];exact yae _
 ·have hc:=h.cnt
  rw [Ea (v:=wdst arcs i) (h:=fun u=>cn (D.getD u 0)) N w2 (fun u _ hne=>by simp only [hge,if_neg hne])]
  simp only [hge,if_true]
  have:cn (D.getD (wdst arcs i) 0)+1≤cn nv:=by
   unfold cn
   rw [if_pos hlow]
   split
   ·omega
   ·omega
  omega
 ·unfold meas
  rw [Ea (v:=wdst arcs i) (h:=fun u=>D.getD u 0) N w2 (fun u _ hne=>by simp only [hge,if_neg hne])]
  simp only [hge,if_true]
  have h1:0≤sm (fun u=>(D.set (wdst arcs i) nv).getD u 0) N:=Cd N fun u hu=>(y7 hN hp hl' hu).1
  rw [Ea (v:=wdst arcs i) (h:=fun u=>D.getD u 0) N w2 (fun u _ hne=>by simp only [hge,if_neg hne])] at h1
  simp only [hge,if_true] at h1
  omega
theorem uQ.push {n:Nat} {ks vs D ks' vs':List Int} {Q:Nat→Prop} {G:Lb.Gr} (h:uQ N G n ks vs D Q) {t:Nat} {nv:Int} (ht:t<D.length) (hlt:nv<D.getD t 0) (hq:nU n ks vs nv (t:Nat) (ks',vs')):uQ N G (n+1) ks' vs' (D.set t nv) Q:=by
 intro u hu hQ hf
 have hge:∀ u,(D.set t nv).getD u 0=if u=t then nv else D.getD u 0:=fun u=>f9 ht
 rw [hge] at hf ⊢
 by_cases e:u=t
 ·subst e
  rw [if_pos rfl]
  exact .inl ((hq.he _ _).2 (.inr ⟨rfl,rfl⟩))
 ·rw [if_neg e] at hf ⊢
  rcases h u hu hQ hf with h1|h1
  ·exact .inl ((hq.he _ _).2 (.inl h1))
  ·right
   intro i hi hsrc
   have:=h1 i hi hsrc
   rw [hge,hge,if_neg e]
   split
   ·rename_i e2;rw [e2] at this;omega
   ·exact this
theorem DI.pop {n:Nat} {ks vs D:List Int} {G:Lb.Gr} (h:DI N G n ks vs D) (hn0:0<n) {g:(Int × Int) × List Int × List Int} (hq:Xm n ks vs g):DI N G (n-1) g.2.1 g.2.2 D∧meas N (n-1) D<meas N n D :=
 ⟨⟨h.lab,h.len,fun a b hab=>h.ent a b ((hq.he a b).2 (.inl hab)),by have:=h.cnt;omega,hq.h1,hq.h2⟩,by unfold meas;omega⟩
theorem uQ.pop {n:Nat} {ks vs D:List Int} {G:Lb.Gr} (h:uQ N G n ks vs D fun _=>True) {g:(Int × Int) × List Int × List Int} (hq:Xm n ks vs g):uQ N G (n-1) g.2.1 g.2.2 D fun u=>¬(g.1.1=D.getD u 0∧g.1.2=u):=by
 intro u hu hQ hf
 rcases h u hu trivial hf with h1|h1
 ·rcases (hq.he _ _).1 h1 with h2|⟨h2,h3⟩
  ·exact .inl h2
  ·exact absurd ⟨h2.symm,h3.symm⟩ hQ
 ·exact .inr h1
theorem uQ.done {n:Nat} {ks vs D:List Int} {G:Lb.Gr} {v:Nat} (h:uQ N G n ks vs D fun u=>u≠v) (hc:clN G D v):uQ N G n ks vs D fun _=>True:=by
 intro u hu _ hf
 by_cases e:u=v
 ·subst e;exact .inr hc
 ·exact h u hu e hf
structure Bg (N:Nat) (G:Lb.Gr) (D:List Int):Prop where
 lab:Lb.Lab G far (fun u=>D.getD u 0)
 len:D.length=N
 cl:Lb.Cl G far (fun u=>D.getD u 0)
theorem DI.fin {ks vs D:List Int} (h:DI N (grD N arcs x p s hV hs hn) 0 ks vs D) (hP:uQ N (grD N arcs x p s hV hs hn) 0 ks vs D fun _=>True):Bg N (grD N arcs x p s hV hs hn) D:=by
 refine ⟨h.lab,h.len,fun i hr hf=>?_⟩
 rcases hP (wsrc arcs i) (xI hV hr.1).1 trivial hf with ⟨j,hj,_⟩|h1
 ·omega
 ·exact h1 i hr rfl
theorem DI.start {ks vs:List Int} (hq:nU 0 [] [] 0 (s:Nat) (ks,vs)):DI N (grD N arcs x p s hV hs hn) 1 ks vs ((yab N far).set s 0)∧uQ N (grD N arcs x p s hV hs hn) 1 ks vs ((yab N far).set s 0) fun _=>True:=by
 have hsl:s<(yab N far).length:=by simpa using hs
 have hge:∀ u,u<N→((yab N far).set s 0).getD u 0=if u=s then 0 else far:=by
  intro u hu
  rw [f9 hsl]
  split
  ·rfl
  ·rw [yaf,yaM,if_pos hu];rfl
 have hlab:=Lb.Lab.start (G:=grD N arcs x p s hV hs hn) (F:=far) (by decide)
 have hent:∀ a b,lL 1 ks vs a b→a=0∧b=s:=by
  intro a b h
  rcases (hq.he a b).1 h with ⟨j,hj,_⟩|h
  ·omega
  ·exact h
 refine ⟨⟨⟨?_,fun v hv=>?_⟩,by simp,fun a b hab=>?_,?_,by have:=hq.h1;simp only at this;omega,by have:=hq.h2;simp only at this;omega⟩,fun u hu _ hf=>?_⟩
 ·show ((yab N far).set s 0).getD s 0=0
  rw [hge s hs,if_pos rfl]
 ·rw [hge v hv]
  rcases hlab.hw v hv with h1|⟨h1,r,hW⟩
  ·exact .inl h1
  ·right
   by_cases e:v=s
   ·subst e
    rw [if_pos rfl]
    refine ⟨by decide,[],rfl,?_,by simp [Lb.vs],?_⟩
    ·show (0:Int)=_
     simp only [hge v hv,if_true]
    ·show ((yab N far).set v 0).getD v 0≤0
     rw [hge v hv,if_pos rfl];exact yae _
   ·simp only [show ((grD N arcs x p s hV hs hn).s)=s from rfl,if_neg e] at h1
    exact absurd h1 (yaH _)
 ·obtain ⟨rfl,rfl⟩:=hent a b hab
  refine ⟨⟨by omega,by omega⟩,⟨yae _,by decide⟩,?_⟩
  rw [yaa,hge s hs,if_pos rfl];exact yae _
 ·have h1:sm (fun u=>if u=s then (1:Int) else 0) N≤sm (fun u=>cn (((yab N far).set s 0).getD u 0)) N:=by
   refine Qg N fun u hu=>?_
   rw [hge u hu]
   split
   ·decide
   ·unfold cn;rw [if_neg (by omega)];exact yae _
  rw [tJ,if_pos hs] at h1
  simpa using h1
 ·rw [hge u hu] at hf
  left
  split at hf
  ·rename_i e
   subst e
   rw [hge u hu,if_pos rfl]
   exact (hq.he _ _).2 (.inr ⟨rfl,rfl⟩)
  ·exact absurd hf (yaH _)
end
end Go.Fx.P.K
namespace Go.Fx.P.K
open Go Go.Fx Go.Fx.E Go.Proofs
theorem Cy {d:List Bool} {i j:Nat} {b:Bool} (h:i<d.length):(d.set i b).getD j false=if j=i then b else d.getD j false:=by
 rw [yaf,yaf,List.getElem?_set]
 by_cases e:i=j
 ·subst e;simp [h]
 ·rw [if_neg e,if_neg (Ne.symm e)]
theorem Bz {arcs:List Arc} {x:List Int} {k:Nat} {v:Int} (u:Int) (hk:k<x.length):∀ m,valTo arcs u (x.set k v) m=valTo arcs u x m+(if k<m then (if (gA arcs k).from_=u then v-x.getD k 0 else 0)-(if (gA arcs k).to=u then v-x.getD k 0 else 0) else 0)
 | 0=>by simp [valTo]
 | m+1=>by
  have e1:∀ y:List Int,valTo arcs u y (m+1)=valTo arcs u y m+(if (gA arcs m).from_=u then y.getD m 0 else 0)-(if (gA arcs m).to=u then y.getD m 0 else 0):=fun _=>rfl
  rw [e1,e1,Bz u hk m,f9 hk]
  by_cases e:m=k
  ·subst e
   rw [if_pos rfl,if_neg (Nat.lt_irrefl _),if_pos (Nat.lt_succ_self _)]
   split<;>split<;>omega
  ·rw [if_neg e]
   generalize valTo arcs u x m=V
   generalize (if (gA arcs m).from_=u then x.getD m 0 else 0)=F
   generalize (if (gA arcs m).to=u then x.getD m 0 else 0)=G
   generalize (if (gA arcs k).from_=u then v-x.getD k 0 else 0)=A
   generalize (if (gA arcs k).to=u then v-x.getD k 0 else 0)=B
   by_cases e2:k<m
   ·rw [if_pos e2,if_pos (by omega)];omega
   ·rw [if_neg e2,if_neg (by omega)];omega
structure XB (arcs:List Arc) (x:List Int):Prop where
 hl:x.length=arcs.length
 hb:∀ k,k<arcs.length→0≤x.getD k 0∧x.getD k 0≤(gA arcs k).cap
def vd (v:Nat) (n:Int) (w:Nat):Int:=if w=v then n else 0
theorem Dr {v w:Nat} {a b:Int}:vd v (a+b) w=vd v a w+vd v b w:=by unfold vd;split<;>omega
theorem Uz {v w:Nat}:vd v 0 w=0:=by unfold vd;split<;>rfl
structure FI (arcs:List Arc) (x:List Int) (p:Nat→Int) (to:Nat) (d:List Bool) (v:Nat) (n:Int) (x':List Int) (d':List Bool):Prop where
 xb:XB arcs x'
 dl:d'.length=d.length
 val:∀ w:Nat,valTo arcs w x' arcs.length=valTo arcs w x arcs.length+vd v n w-vd to n w
 tig:∀ k,k<arcs.length→x'.getD k 0≠x.getD k 0→dJ arcs p (2*k)=0
 mono:∀ u,d.getD u false=true→d'.getD u false=true
 kept:∀ k,k<arcs.length→(d.getD (gA arcs k).from_.toNat false=true∨d.getD (gA arcs k).to.toNat false=true)→x'.getD k 0=x.getD k 0
def CLo (arcs:List Arc) (x:List Int) (p:Nat→Int) (to:Nat) (d:List Bool) (u:Nat):Prop:=u≠to∧∀ i,rJ arcs x i→wsrc arcs i=u→dJ arcs p i=0→d.getD (wdst arcs i) false=true
theorem CLo.mono {arcs:List Arc} {x:List Int} {p:Nat→Int} {to u:Nat} {d d':List Bool} (h:CLo arcs x p to d u) (hm:∀ u,d.getD u false=true→d'.getD u false=true):CLo arcs x p to d' u :=
 ⟨h.1,fun i h1 h2 h3=>hm _ (h.2 i h1 h2 h3)⟩
structure FQ (arcs:List Arc) (x:List Int) (p:Nat→Int) (to:Nat) (d:List Bool) (v:Nat) (most:Int) (r:Int × List Int × List Bool):Prop where
 fi:FI arcs x p to d v r.1 r.2.1 r.2.2
 n0:0≤r.1∧r.1≤most
 zero:r.1=0→0<most→r.2.1=x∧r.2.2.getD v false=true∧∀ u,r.2.2.getD u false=true→d.getD u false=false→CLo arcs x p to r.2.2 u
structure FN (N:Nat) (arcs:List Arc) (x:List Int) (p:Nat→Int) (to:Nat) (d:List Bool) (v:Nat) (most:Int) (i:Nat) (g:Int × List Int × List Bool):Prop where
 fi:FI arcs x p to d v g.1 g.2.1 g.2.2
 n0:0≤g.1∧g.1≤most
 nd:g.2.2.getD v false=true
 zero:g.1=0→g.2.1=x∧(∀ u,g.2.2.getD u false=true→d.getD u false=false→u≠v→CLo arcs x p to g.2.2 u) ∧
  ∀ j (hj:j<(bT arcs v arcs.length).length),j<i→0<cP arcs x v (bT arcs v arcs.length)[j]→dJ arcs p (wix arcs v (bT arcs v arcs.length)[j])=0→g.2.2.getD (wdst arcs (wix arcs v (bT arcs v arcs.length)[j])) false=true
section
variable {N:Nat} {arcs:List Arc} {x:List Int} {p:Nat→Int} {to:Nat} {d:List Bool} {v:Nat} {most:Int}
theorem FQ.base (hx:XB arcs x) (hm:0≤most) (h:v=to∨most=0):FQ arcs x p to d v most (most,x,d):=by
 refine ⟨⟨hx,rfl,fun w=>?_,fun k _ hk=>absurd rfl hk,fun u hu=>hu,fun k _ _=>rfl⟩,⟨hm,yae _⟩,fun h1 h2=>absurd h1 (by simp only;omega)⟩
 rcases h with h|h
 ·subst h;simp only;omega
 ·subst h;simp only [Uz];omega
theorem FN.start (hx:XB arcs x) (hm:0≤most) (hv:v<d.length):FN N arcs x p to d v most 0 (0,x,d.set v true):=by
 have hg:∀ u,(d.set v true).getD u false=if u=v then true else d.getD u false:=fun u=>Cy hv
 refine ⟨⟨hx,by simp,fun w=>by simp only [Uz];omega,fun k _ hk=>absurd rfl hk,fun u hu=>?_,fun k _ _=>rfl⟩,⟨yae _,hm⟩,?_,fun _=>⟨rfl,fun u h1 h2 h3=>?_,fun j _ hj=>by omega⟩⟩
 ·show (d.set v true).getD u false=true
  rw [hg];split
  ·rfl
  ·exact hu
 ·show (d.set v true).getD v false=true
  rw [hg,if_pos rfl]
 ·rw [show ((0,x,d.set v true):Int × List Int × List Bool).2.2=d.set v true from rfl,hg,if_neg h3] at h1
  rw [h2] at h1;cases h1
theorem FN.skip {i:Nat} {g:Int × List Int × List Bool} (h:FN N arcs x p to d v most i g) (hi:i<(bT arcs v arcs.length).length)
  (hs:g.1=0→0<cP arcs x v (bT arcs v arcs.length)[i]→dJ arcs p (wix arcs v (bT arcs v arcs.length)[i])=0→g.2.2.getD (wdst arcs (wix arcs v (bT arcs v arcs.length)[i])) false=true):FN N arcs x p to d v most (i+1) g:=by
 refine ⟨h.fi,h.n0,h.nd,fun h0=>?_⟩
 obtain ⟨z1,z2,z3⟩:=h.zero h0
 refine ⟨z1,z2,fun j hj hlt hr hc=>?_⟩
 by_cases e:j=i
 ·subst e;exact hs h0 hr hc
 ·exact z3 j hj (by omega) hr hc
theorem Qz {k:Nat}:dJ arcs p (2*k+1)=- dJ arcs p (2*k):=by
 unfold dJ e7 wsrc wdst
 rw [if_neg (by omega),if_neg (by omega),if_neg (by omega),if_pos (by omega),if_pos (by omega),if_pos (by omega),show (2*k+1)/2=k by omega,show 2*k/2=k by omega]
 omega
theorem Nz {i:Nat} (h:dJ arcs p i=0):dJ arcs p (2*(i/2))=0:=by
 by_cases e:i%2=0
 ·rwa [show 2*(i/2)=i by omega]
 ·have:i=2*(i/2)+1:=by omega
  rw [this,Qz] at h
  omega
def dlt (arcs:List Arc) (v k:Nat) (n:Int):Int:=if (gA arcs k).from_=v then n else -n
theorem FN.step (hV:Val N arcs) (hvd:d.getD v false=false) (hm:0<most) {i:Nat} {s:Int} {x1:List Int} {d1:List Bool} (h:FN N arcs x p to d v most i (s,x1,d1)) {k:Nat} (hi:i<(bT arcs v arcs.length).length) (hk:(bT arcs v arcs.length)[i]=k)
  (hd:d1.getD (wdst arcs (wix arcs v k)) false=false) (hc:dJ arcs p (wix arcs v k)=0) (hr:0<cP arcs x1 v k) (hne:s≠most) {n:Int} {x2:List Int} {d2:List Bool}
  (hq:FQ arcs x1 p to d1 (wdst arcs (wix arcs v k)) (min (cP arcs x1 v k) (most-s)) (n,x2,d2)) :
  FN N arcs x p to d v most (i+1) (s+n,x2.set k (x2.getD k 0+dlt arcs v k n),d2):=by
 obtain ⟨hj,hend⟩:=vZ hi
 rw [hk] at hj hend
 have hsrc:=Do hV hj hend
 obtain ⟨w1,w2,w3⟩:=xI hV (i:=wix arcs v k) (by rw [fJ];exact hj)
 rw [hsrc] at w1 w3
 have hva:=hV.at hj
 have hfi:=h.fi
 have hqi:=hq.fi
 simp only at hfi hqi
 have hn:=hq.n0
 have hs:=h.n0
 simp only at hn hs
 have hmin:=yaN (cP arcs x1 v k) (most-s)
 have hmin2:=yax (cP arcs x1 v k) (most-s)
 have hkl:k<x2.length:=by rw [hqi.xb.hl];exact hj
 have hge:∀ j w,(x2.set k w).getD j 0=if j=k then w else x2.getD j 0:=fun j w=>f9 hkl
 have hnd:d1.getD v false=true:=h.nd
 have hk2:x2.getD k 0=x1.getD k 0:=hqi.kept k hj (by
  rcases hend with e|e
  ·left;rw [e];exact hnd
  ·right;rw [e];exact hnd)
 have hends:(gA arcs k).from_=v∧(gA arcs k).to.toNat=wdst arcs (wix arcs v k)∨((gA arcs k).from_≠v∧(gA arcs k).to=v∧(gA arcs k).from_.toNat=wdst arcs (wix arcs v k)):=by
  unfold wdst
  rw [fJ]
  unfold wix
  by_cases e:(gA arcs k).from_=v
  ·left;rw [if_pos e,if_pos (by omega)];exact ⟨e,rfl⟩
  ·right;rw [if_neg e,if_neg (by omega)]
   refine ⟨e,?_,rfl⟩
   rcases hend with e2|e2
   ·exact absurd e2 e
   ·exact e2
 have hx1k:=hfi.xb.hb k hj
 have hroom:cP arcs x1 v k=if (gA arcs k).from_=v then (gA arcs k).cap-x1.getD k 0 else x1.getD k 0:=rfl
 generalize hu:wdst arcs (wix arcs v k)=u at *
 refine ⟨⟨⟨by rw [yaw];exact hqi.xb.hl,fun j hj2=>?_⟩,hqi.dl.trans hfi.dl,fun w=>?_,fun j hj2 hne2=>?_,fun w hw=>hqi.mono w (hfi.mono w hw),fun j hj2 hdd=>?_⟩,⟨by simp only;omega,by simp only;omega⟩,hqi.mono v hnd,fun h0=>?_⟩
 ·show 0≤(x2.set k _).getD j 0∧_
  simp only
  rw [hge]
  split
  ·rename_i e
   subst e
   rw [hk2]
   unfold dlt
   split
   ·rename_i e;rw [if_pos e] at hroom;omega
   ·rename_i e;rw [if_neg e] at hroom;omega
  ·exact hqi.xb.hb j hj2
 ·have e1:=hqi.val w
  have e2:=hfi.val w
  simp only at e1 e2 ⊢
  rw [Bz w hkl,if_pos hj,e1,e2,Dr,Dr]
  have:x2.getD k 0+dlt arcs v k n-x2.getD k 0=dlt arcs v k n:=by omega
  rw [this]
  unfold dlt vd
  rcases hends with ⟨q1,q2⟩|⟨q1,q2,q3⟩
  ·rw [if_pos q1,q1]
   have t1:((v:Int)=w)↔w=v:=by omega
   have t2:((gA arcs k).to=w)↔w=u:=by omega
   simp only [t1,t2]
   split<;>split<;>split<;>omega
  ·rw [if_neg q1,q2]
   have t1:((v:Int)=w)↔w=v:=by omega
   have t2:((gA arcs k).from_=w)↔w=u:=by omega
   simp only [t1,t2]
   split<;>split<;>split<;>omega
 ·simp only at hne2
  rw [hge] at hne2
  by_cases e:j=k
  ·subst e
   have:=Nz hc
   rwa [fJ] at this
  ·rw [if_neg e] at hne2
   by_cases e2:x2.getD j 0=x1.getD j 0
   ·exact hfi.tig j hj2 (by rw [←e2];exact hne2)
   ·exact hqi.tig j hj2 e2
 ·simp only
  rw [hge]
  by_cases e:j=k
  ·subst e
   exfalso
   have a1:d.getD u false=true→False:=fun h1=>by rw [hfi.mono u h1] at hd;cases hd
   rcases hends with ⟨q1,q2⟩|⟨q1,q2,q3⟩
   ·rw [q1,q2,yaa,hvd] at hdd
    rcases hdd with h1|h1
    ·cases h1
    ·exact a1 h1
   ·rw [q2,q3,yaa,hvd] at hdd
    rcases hdd with h1|h1
    ·exact a1 h1
    ·cases h1
  ·rw [if_neg e]
   rw [←hfi.kept j hj2 hdd]
   exact hqi.kept j hj2 (hdd.imp (hfi.mono _) (hfi.mono _))
 ·simp only at h0
  have s0:s=0:=by omega
  have n0:n=0:=by omega
  obtain ⟨z1,z2,z3⟩:=h.zero s0
  obtain ⟨y1,y2,y3⟩:=hq.zero n0 (by
   rw [s0] at hne ⊢
   exact Int.lt_min.2 ⟨hr,by omega⟩)
  simp only at z1 z2 z3 y1 y2 y3 ⊢
  have ex:x2.set k (x2.getD k 0+dlt arcs v k n)=x:=by
   have:dlt arcs v k n=0:=by unfold dlt;rw [n0];split<;>rfl
   rw [this,Int.add_zero,y1,z1]
   rw [yaf,yag (by rw [←z1,←y1];exact hkl),Option.getD_some,List.set_getElem_self]
  refine ⟨ex,fun w h1 h2 h3=>?_,fun j hj2 hlt hro hcz=>?_⟩
  ·by_cases e:d1.getD w false=true
   ·exact (z2 w e h2 h3).mono hqi.mono
   ·rw [Bool.not_eq_true] at e
    have:=y3 w h1 e
    rwa [z1] at this
  ·by_cases e:j=i
   ·subst e
    rw [hk,hu]
    exact y2
   ·exact hqi.mono _ (z3 j hj2 (by omega) hro hcz)
theorem FN.done (hV:Val N arcs) (hv:v<d.length) (hvt:v≠to) (hvd:d.getD v false=false) (hm:0<most) {i:Nat} {g:Int × List Int × List Bool} (h:FN N arcs x p to d v most i g) (hi:i=(bT arcs v arcs.length).length∨g.1=most) :
  FQ arcs x p to d v most (g.1,g.2.1,g.2.2.set v (decide (g.1<most))):=by
 obtain ⟨s,x1,d1⟩:=g
 have hfi:=h.fi
 have hn:=h.n0
 simp only at hfi hn hi ⊢
 have hl:v<d1.length:=by rw [hfi.dl];exact hv
 have hg:∀ u b,(d1.set v b).getD u false=if u=v then b else d1.getD u false:=fun u b=>Cy hl
 refine ⟨⟨hfi.xb,by rw [yaw];exact hfi.dl,hfi.val,hfi.tig,fun u hu=>?_,hfi.kept⟩,hn,fun h0 hmm=>?_⟩
 ·show (d1.set v _).getD u false=true
  rw [hg]
  by_cases e:u=v
  ·subst e;rw [hvd] at hu;cases hu
  ·rw [if_neg e];exact hfi.mono u hu
 ·simp only at h0
  obtain ⟨z1,z2,z3⟩:=h.zero h0
  simp only at z1 z2 z3 ⊢
  have hnd:d1.getD v false=true:=h.nd
  have hd:decide (s<most)=true:=decide_eq_true (by omega)
  have hsub:∀ u,d1.getD u false=true→(d1.set v (decide (s<most))).getD u false=true:=fun u hu=>by
   rw [hg];split
   ·exact hd
   ·exact hu
  refine ⟨z1,by rw [hg,if_pos rfl];exact hd,fun u h1 h2=>?_⟩
  by_cases e:u=v
  ·subst e
   refine ⟨hvt,fun w hw hsrc hc=>hsub _ ?_⟩
   obtain ⟨q1,q2⟩:=Kv hV hw.1 hsrc
   obtain ⟨j,hj,hje⟩:=yai q1
   have:=z3 j hj (by omega) (by rw [hje,←xH,q2];exact hw.2) (by rw [hje,q2];exact hc)
   rwa [hje,q2] at this
  ·rw [hg,if_neg e] at h1
   exact (z2 u h1 h2 e).mono hsub
theorem To:∀ {a b:List Bool},a.length=b.length→(∀ u,a.getD u false=true→b.getD u false=true)→b.count false≤a.count false
 | [],b,hl,_=>by cases b<;>simp_all
 | x::a,[],hl,_=>by simp at hl
 | x::a,y::b,hl,h=>by
  have h0:=h 0
  have:=To (a:=a) (b:=b) (by simpa using hl) fun u hu=>by have:=h (u+1);simpa using this (by simpa using hu)
  simp only [yaO]
  cases x<;>cases y<;>simp at*<;> omega
theorem cnt_lt:∀ {a b:List Bool} {v:Nat},a.length=b.length→(∀ u,a.getD u false=true→b.getD u false=true)→v<a.length→a.getD v false=false→b.getD v false=true→b.count false<a.count false
 | [],b,v,hl,_,hv,_,_=>by simp at hv
 | x::a,[],v,hl,_,_,_,_=>by simp at hl
 | x::a,y::b,0,hl,h,hv,h1,h2=>by
  have:=To (a:=a) (b:=b) (by simpa using hl) fun u hu=>by have:=h (u+1);simpa using this (by simpa using hu)
  simp only [yaO]
  simp at h1 h2
  subst h1 h2
  simp;omega
 | x::a,y::b,v+1,hl,h,hv,h1,h2=>by
  have h0:=h 0
  have:=cnt_lt (a:=a) (b:=b) (v:=v) (by simpa using hl) (fun u hu=>by have:=h (u+1);simpa using this (by simpa using hu)) (by simpa using hv) (by simpa using h1) (by simpa using h2)
  simp only [yaO]
  cases x<;>cases y<;>simp at*<;> omega
end
end Go.Fx.P.K
namespace Go.Fx.P.K
open Go Go.Fx Go.Fx.E Go.Proofs
set_option maxRecDepth 20000
abbrev G28:Type:=Nat × List Int × List Int × List Int
def hpD (N:Nat) (arcs:List Arc) (x p:List Int) (g:G28):List Blk :=
 [wB N x.length arcs 1 2 3,.arr 1 (x.map encI),.arv 1 (iJ arcs N),.arr 1 (p.map encI),.var [.ptr 0 0 0],.dead,.var [.sl 7 0 N],.arr 1 (g.2.2.2.map encI),.var [.sl 10 0 g.1,.sl 11 0 g.1],.var [.ptr 8 0 0],.arr 1 (g.2.1.map encI),.arr 1 (g.2.2.1.map encI)]
def Kc:Env:=[(8,.ptr 13 0 0),(7,.ptr 12 0 0),(6,.ptr 9 0 0),(5,.ptr 6 0 0),(2,.ptr 4 0 0)]
def hpI (N:Nat) (arcs:List Arc) (x p:List Int) (key:Int) (v:Nat) (g:G28):List Blk :=
 hpD N arcs x p g++[.var [.i key],.var [.i v],.var [.ptr 0 0 0],.var [.i v],.rcd .ready Kc]
section
variable {N:Nat} {arcs:List Arc} {x p:List Int} {s:Nat} {hs:s<N}
structure Inn (G:Lb.Gr) (N:Nat) (arcs:List Arc) (x:List Int) (key:Int) (v M0:Nat) (i:Nat) (g:G28):Prop where
 di:DI N G g.1 g.2.1 g.2.2.1 g.2.2.2
 kv:g.2.2.2.getD v 0=key
 kf:key<far
 pe:uQ N G g.1 g.2.1 g.2.2.1 g.2.2.2 fun u=>u≠v
 cl:∀ j (hj:j<(bT arcs v arcs.length).length),j<i→0<cP arcs x v (bT arcs v arcs.length)[j]→g.2.2.2.getD (G.dst (wix arcs v (bT arcs v arcs.length)[j])) 0≤key+G.c (wix arcs v (bT arcs v arcs.length)[j])
 ms:meas N g.1 g.2.2.2<M0
theorem afM (hW:WOk N arcs x p) {key:Int} {v:Nat} (hv:v<N) (hx:∀ j,0≤x.getD j 0∧x.getD j 0≤1073741824):ItH (hpI N arcs x p key v) (fun _=>x) 17 N v arcs 16 14 15 0 1 2 3 [16,0,1,2,3]:=by
 have hxl:=hW.hx
 refine ⟨hW.hV,hv,fun g=>rfl,fun g tl=>rfl,fun g tl=>rfl,fun g tl=>by rw [←hxl];rfl,fun g tl=>rfl,fun g tl=>rfl,fun g=>⟨trivial,trivial,trivial,trivial,trivial,trivial⟩,fun g=>?_,fun g=>⟨_,_,rfl⟩,fun g=>⟨hxl,hx⟩⟩
 unfold hpI hpD wB Kc
 simp -implicitDefEqProofs only [rX,aB,wfE,wfB,wfV,wfL,bW]
theorem Nf {v k a b i:Nat} {e:Env} {M:List Nat} (h1:k∉M) (h2:a∉M) (h3:b∉M) (h:EI arcs v k a b i e):EI arcs v k a b i (bN M e):=by
 refine ⟨?_,?_,?_,?_,?_,?_,?_⟩<;>rw [cZ]
 ·rw [h.e0];simp [kill,h1]
 ·rw [h.e1];simp [kill,h2]
 ·rw [h.e2];simp [kill,h3]
 ·rw [h.e14];rfl
 ·rw [h.e15];rfl
 ·rw [h.e16];rfl
 ·rw [h.e65];rfl
theorem adQ (hW:WOk N arcs x p) (hn:NN arcs x fun u=>p.getD u 0) {key:Int} {v M0 i:Nat} {g:G28} (hv:v<N) (hi:i<(bT arcs v arcs.length).length) (hI:Inn (grD N arcs x (fun u=>p.getD u 0) s hW.hV hs hn) N arcs x key v M0 i g)
  (hr:0<cP arcs x v (bT arcs v arcs.length)[i]) {e:Env} {bb:Nat} {Z:V→St→Prop} (he:EI arcs v 16 14 15 i e)
  (hT:∀ e' g' tl,EI arcs v 16 14 15 i e'→Inn (grD N arcs x (fun u=>p.getD u 0) s hW.hV hs hn) N arcs x key v M0 (i+1) g'→Z (.b true) ⟨e',hpI N arcs x p key v g'++tl,bb⟩) :
  yR (cxN Tryz.prog [0,1,2,3]) [46] c90a0 c90r0 16 [j8 arcs x v (bT arcs v arcs.length)[i]] ⟨e,hpI N arcs x p key v g++[.var (gA arcs (bT arcs v arcs.length)[i]).enc,.var (vK arcs x v (bT arcs v arcs.length)[i])],bb⟩ Z:=by
 have hVV:=hW.hV
 obtain ⟨hj,hend⟩:=vZ hi
 generalize hk:(bT arcs v arcs.length)[i]=k at *
 have hsrc:=Do hVV hj hend
 have hroom:wrm arcs x (wix arcs v k)=cP arcs x v k:=xH
 have hres:rJ arcs x (wix arcs v k):=⟨by rw [fJ];exact hj,by rw [hroom];exact hr⟩
 obtain ⟨w1,w2,w3⟩:=xI hVV hres.1
 have hcb:=tC hVV hres.1
 have hway:j8 arcs x v k=.agg [.i k,.i (wdst arcs (wix arcs v k):Nat),.i (cP arcs x v k),.i (e7 arcs (wix arcs v k)),.b (decide (¬(gA arcs k).from_=v))]:=by
  have:=hVV.at hj
  unfold j8 cP wdst e7
  rw [fJ]
  unfold wix
  by_cases h:(gA arcs k).from_=v
  ·simp only [if_pos h]
   rw [if_pos (by omega),if_pos (by omega),show (((gA arcs k).to.toNat:Nat):Int)=(gA arcs k).to by omega,show decide (¬(gA arcs k).from_=v)=false from decide_eq_false (by simpa using h)]
  ·simp only [if_neg h]
   rw [if_neg (by omega),if_neg (by omega),show (((gA arcs k).from_.toNat:Nat):Int)=(gA arcs k).from_ by omega,show decide (¬(gA arcs k).from_=v)=true from decide_eq_true h]
 have hwc:cells? (j8 arcs x v k)=some (vK arcs x v k):=by unfold j8 vK;split<;>rfl
 have hwc2:vK arcs x v k=[.i k,.i (wdst arcs (wix arcs v k):Nat),.i (cP arcs x v k),.i (e7 arcs (wix arcs v k)),.b (decide (¬(gA arcs k).from_=v))]:=by
  rw [hway] at hwc
  simpa [cells?] using hwc.symm
 obtain ⟨n,ks,vs,D⟩:=g
 rw [hway,hwc2]
 generalize decide (¬(gA arcs k).from_=v)=bk at *
 generalize cP arcs x v k=rm at *
 have hKill:∀ M,bO M (gA arcs k).enc=(gA arcs k).enc:=fun M=>rfl
 generalize (gA arcs k).enc=encA at *
 have hcall:=Yg N arcs x p v (wdst arcs (wix arcs v k):Nat) (e7 arcs (wix arcs v k)) (.i k) (.i rm) (.b bk) hW (by omega) (by omega) hcb
 have hrc:e7 arcs (wix arcs v k)+p.getD (v:Int).toNat 0-p.getD ((wdst arcs (wix arcs v k):Nat):Int).toNat 0=dJ arcs (fun u=>p.getD u 0) (wix arcs v k):=by
  unfold dJ
  rw [hsrc,yaa,yaa]
 rw [hrc] at hcall
 have hc0:=hn _ hres
 have hp1:=hW.hb v
 have hp2:=hW.hb (wdst arcs (wix arcs v k))
 have hcB:dJ arcs (fun u=>p.getD u 0) (wix arcs v k)≤1074790400:=by
  unfold dJ
  rw [hsrc]
  show e7 arcs (wix arcs v k)+p.getD v 0-p.getD (wdst arcs (wix arcs v k)) 0≤_
  omega
 have hDl:D.length=N:=hI.di.len
 have hkey:=hI.di.nn hW.hN (fun j=>hW.hb j) hv
 have hkv:D.getD v 0=key:=hI.kv
 rw [show ((n,ks,vs,D):G28).2.2.2=D from rfl,hkv] at hkey
 have hkf:=hI.kf
 have hkB:key≤KB:=by
  rcases hkey.2 with e|e
  ·omega
  ·exact e
 refine Kt 19 rfl rfl rfl ?_
 unfold hpI hpD wB Kc c90a0
 simp -implicitDefEqProofs only [rX,↓rY,rZ,↓rW,aA,cells?,splice,↓reduceIte,Nat.reduceEqDiff,Nat.reduceAdd,aC,isC,cxN,lM]
 unfold c90r0
 simp -implicitDefEqProofs only [rX,↓rY,rdK,↓reduceIte,Nat.reduceEqDiff,Nat.reduceAdd]
 generalize hcc:dJ arcs (fun u=>p.getD u 0) (wix arcs v k)=c at *
 generalize hto:wdst arcs (wix arcs v k)=to at *
 refine dC [0,1,2,3] [.ptr 0 0 0,.i v,.agg [.i k,.i (to:Nat),.i rm,.i (e7 arcs (wix arcs v k)),.b bk]] (.i c) (.i c) (wH N arcs x p) (wH N arcs x p) _ hcall (by simp) (by simp [wH,wB,blk,cB,cK,ren,pos,cH]) (by simp [aG,aK,aX,bQ,wkL,wk,pos]) (by simp [wH]) rfl rfl (by simp [aD,aB,wH,wB,bH,cB]) ?_
 simp -implicitDefEqProofs only [rX,↓rY,rZ,↓rW,cells?,splice,↓reduceIte,Nat.reduceEqDiff,cU,Nat.reduceAdd,isD,isC,yac,cR,yaa,fG,wH,wB,bH,cB,cK,ren,cH,back]
 have hDt:D.getD to 0=D[to]'(by omega):=bY (by omega)
 have hKBv:KB=67711795200:=rfl
 have hEI:=he
 have hcl:∀ (D':List Int),D'.getD v 0=key→(∀ u,D'.getD u 0≤D.getD u 0)→D'.getD to 0≤key+c →
   ∀ j (hj:j<(bT arcs v arcs.length).length),j<i+1→0<cP arcs x v (bT arcs v arcs.length)[j]→D'.getD ((grD N arcs x (fun u=>p.getD u 0) s hW.hV hs hn).dst (wix arcs v (bT arcs v arcs.length)[j])) 0≤key+(grD N arcs x (fun u=>p.getD u 0) s hW.hV hs hn).c (wix arcs v (bT arcs v arcs.length)[j]):=by
  intro D' e1 e2 e3 j hj2 hlt hro
  by_cases e:j=i
  ·subst e
   show D'.getD (wdst arcs (wix arcs v (bT arcs v arcs.length)[j])) 0≤key+dJ arcs (fun u=>p.getD u 0) (wix arcs v (bT arcs v arcs.length)[j])
   rw [hk,hto,hcc]
   exact e3
  ·exact yaC (e2 _) (hI.cl j hj2 (by omega) hro)
 refine ⟨by simp only [lo,Fx.hi];omega,⟨by omega,by omega⟩,by omega,?_⟩
 simp only [br,decide_eq_true_eq,decide_eq_false_iff_not]
 refine ⟨fun hlt=>⟨⟨by omega,by omega⟩,by omega,?_⟩,fun hge=>?_⟩
 ·have hnle:=hI.di.n_le hW.hN (fun j=>hW.hb j)
  simp only at hnle
  refine eQ (nU n ks vs (key+c) (to:Nat)) [8,10,11] [1,2] [10,11] [.ptr 0 0 0,.i (key+c),.i to] (fun _=>.tup []) (hpB n ks vs) (fun g=>hpB (n+1) g.1 g.2) (aeU n ks vs (key+c) to hI.di.h1 hI.di.h2 (by omega)) (by simp) (by simp) (by simp [hpB,blk,cB,cK,ren,pos]) (by simp [aG,aK,aX,bQ,wkL,wk,pos]) fun g hg=>⟨by simp [aD,aB,hpB,bH,cB,bE],?_⟩
  obtain ⟨ks2,vs2⟩:=g
  have hpush:=hI.di.push (i:=wix arcs v k) (ks':=ks2) (vs':=vs2) hW.hN (fun j=>hW.hb j) hres
  have hpe:=hI.pe.push (t:=to) (nv:=key+c) (by rw [hI.di.len];exact w2) (by show key+c<D.getD to 0;rw [hDt];exact hlt) hg
  simp only [hsrc,hto,hcc,hkv,hDt] at hpush
  obtain ⟨hd1,hd2⟩:=hpush hkf hlt hg
  simp -implicitDefEqProofs only [rX,rZ,↓rW,↓reduceIte,Nat.reduceEqDiff,Nat.reduceAdd,reduceCtorEq,bN,bE,kill,bO,St.kill,hpB,bH,cB,cK,ren,back,fS,mE,hKill]
  have hge:∀ u,(D.set to (key+c)).getD u 0=if u=to then key+c else D.getD u 0:=fun u=>f9 (by omega)
  have hvt:¬v=to:=by rw [←hsrc];exact w3
  refine hT (bN [10,11] e) (n+1,ks2,vs2,D.set to (key+c)) [.var encA,.var [.i k,.i to,.i rm,.i (e7 arcs (wix arcs v k)),.b bk],.dead,.var [.i k,.i to,.i rm,.i (e7 arcs (wix arcs v k)),.b bk]] (Nf (by simp) (by simp) (by simp) he) ⟨hd1,?_,hkf,hpe,hcl _ ?_ ?_ ?_,Nat.lt_trans hd2 hI.ms⟩
  ·show (D.set to (key+c)).getD v 0=key
   rw [hge,if_neg hvt];exact hkv
  ·show (D.set to (key+c)).getD v 0=key
   rw [hge,if_neg hvt];exact hkv
  ·intro u
   show (D.set to (key+c)).getD u 0≤D.getD u 0
   rw [hge]
   split
   ·rename_i e;rw [e,hDt];omega
   ·exact yae _
  ·show (D.set to (key+c)).getD to 0≤key+c
   rw [hge,if_pos rfl];exact yae _
 ·exact hT e (n,ks,vs,D) [.var encA,.var [.i k,.i to,.i rm,.i (e7 arcs (wix arcs v k)),.b bk],.dead,.var [.i k,.i to,.i rm,.i (e7 arcs (wix arcs v k)),.b bk]] he ⟨hI.di,hkv,hkf,hI.pe,hcl D hkv (fun u=>yae _) (by rw [hDt];omega),hI.ms⟩
end
end Go.Fx.P.K
namespace Go.Fx.P.K
open Go Go.Fx Go.Fx.E Go.Proofs
set_option maxRecDepth 20000
section
variable {N:Nat} {arcs:List Arc} {x p:List Int} {s:Nat} {hs:s<N}
abbrev Gn (N:Nat) (arcs:List Arc) (x p:List Int) (g:G28):St:=⟨[(6,.ptr 9 0 0),(5,.ptr 6 0 0),(2,.ptr 4 0 0)],hpD N arcs x p g,0⟩
structure Uf (G:Lb.Gr) (N:Nat) (g:G28):Prop where
 di:DI N G g.1 g.2.1 g.2.2.1 g.2.2.2
 pe:uQ N G g.1 g.2.1 g.2.2.1 g.2.2.2 fun _=>True
theorem acC (hW:WOk N arcs x p) (hn:NN arcs x fun u=>p.getD u 0) (hx:∀ j,0≤x.getD j 0∧x.getD j 0≤1073741824) {RR:St→Prop} {X:Nat→St→Prop}
  (hX:∀ D ks vs,Bg N (grD N arcs x (fun u=>p.getD u 0) s hW.hV hs hn) D→∀ e b,get e 5=.ptr 6 0 0→X 0 ⟨e,hpD N arcs x p (0,ks,vs,D),b⟩) (g:G28) (hg:Uf (grD N arcs x (fun u=>p.getD u 0) s hW.hV hs hn) N g) :
  aw (cxN Tryz.prog [0,1,2,3]) c90l0 (fun s'=>∃ g':G28,(Uf (grD N arcs x (fun u=>p.getD u 0) s hW.hV hs hn) N g'∧meas N g'.1 g'.2.2.2<meas N g.1 g.2.2.2)∧leS [0,1,2,3] s' (Gn N arcs x p g')) X RR (Gn N arcs x p g):=by
 obtain ⟨n,ks,vs,D⟩:=g
 obtain ⟨hD,hP⟩:=hg
 simp only at hD hP
 have hnle:=hD.n_le hW.hN (fun j=>hW.hb j)
 have hDl:D.length=N:=hD.len
 unfold c90l0 Gn hpD wB
 rcases Nat.eq_zero_or_pos n with h0|h0
 ·subst h0
  have hfin:=hD.fin hP
  have:=hX D ks vs hfin
  unfold hpD wB at this
  simp -implicitDefEqProofs only [rX,↓rY,aA,↓reduceIte,Nat.reduceEqDiff,Nat.reduceAdd,cxN]
  intro _
  have hd:decide ((0:Int)<((0:Nat):Int))=false:=by decide
  simp -implicitDefEqProofs only [↓rY,hd]
  exact this _ _ rfl
 have hd:decide ((0:Int)<(n:Int))=true:=decide_eq_true (by omega)
 simp -implicitDefEqProofs only [rX,↓rY,aA,↓reduceIte,Nat.reduceEqDiff,Nat.reduceAdd,cxN,hd]
 intro _
 refine eQ (Xm n ks vs) [8,10,11] [] [] [.ptr 0 0 0] (fun g=>.tup [.i g.1.1,.i g.1.2]) (hpB n ks vs) (fun g=>hpB (n-1) g.2.1 g.2.2) (aeT n ks vs h0 hD.h1 hD.h2 (by omega)) (by simp) (by simp) (by simp [hpB,blk,cB,cK,ren,pos]) (by simp [aG,aK,aX,bQ,wkL,wk,pos]) fun g hg=>⟨by simp [aD,aB,hpB,bH,cB,bE],?_⟩
 obtain ⟨⟨key,v0⟩,ks2,vs2⟩:=g
 have hent:=hD.ent _ _ hg.hin
 simp only at hent
 obtain ⟨v,rfl⟩:∃ v:Nat,v0=v:=⟨v0.toNat,by omega⟩
 rw [yaa] at hent
 have hvN:v<N:=by omega
 obtain ⟨hD2,hM2⟩:=hD.pop h0 hg
 have hP2:=hP.pop hg
 simp only at hD2 hM2 hP2
 have hDv:D.getD v 0=D[v]'(by omega):=bY (by omega)
 simp -implicitDefEqProofs only [rX,↓rY,aA,cells?,splice,↓reduceIte,Nat.reduceEqDiff,cU,Nat.reduceAdd,aC,leE,leH,leB,leV,bA,aD,aB,wfE,wfB,wfV,wfL,bN,bE,kill,bO,St.kill,isC,yac,cR,yaa,hpB,bH,cB,cK,ren,back,fS]
 refine ⟨⟨by omega,by omega⟩,by omega,?_⟩
 simp only [br,decide_eq_true_eq,decide_eq_false_iff_not]
 refine ⟨fun hgt=>?_,fun hle=>?_⟩
 ·refine ⟨(n-1,ks2,vs2,D),⟨⟨hD2,fun u hu hQ hf=>hP2 u hu ?_ hf⟩,hM2⟩,?_⟩
  ·rintro ⟨e1,e2⟩
   have:u=v:=by omega
   subst this
   omega
  ·exact ⟨⟨rfl,⟨rfl,rfl⟩,rfl,rfl⟩,v6⟩
 have hkey:D.getD v 0=key:=by omega
 refine dC [0,1,2,3] [.ptr 0 0 0,.i v] (.clo 146 [.ptr 4 0 0,.ptr 5 0 0]) (.clo 146 [.ptr 14 0 0,.ptr 15 0 0]) (wH N arcs x p) (wH N arcs x p++[Blk.var [V.ptr 0 0 0],Blk.var [V.i v]]) (hpD N arcs x p (n-1,ks2,vs2,D)++[Blk.var [V.i key],Blk.var [V.i v],Blk.var [V.ptr 0 0 0],Blk.var [V.i v]]) (Yh N arcs x p v) (by simp) (by simp [wH,wB,blk,cB,cK,ren,pos,cH]) (by simp [aG,aK,aX,bQ,wkL,wk,pos]) (by simp [wH]) (by simp [hpD,wH,wB,bH,cB,cK,ren,cH,back]) (by simp [ren,cK,back]) (by simp [aD,aB,hpD,wB]) ?_
 unfold hpD wB
 simp -implicitDefEqProofs only [rX]
 refine Ed 16 rfl rfl trivial ?_
 have hkf:key<far:=by
  have:KB<far:=by decide
  omega
 have hI0:Inn (grD N arcs x (fun u=>p.getD u 0) s hW.hV hs hn) N arcs x key v (meas N n D) 0 (n-1,ks2,vs2,D):=by
  refine ⟨hD2,hkey,hkf,fun u hu hQ hf=>hP2 u hu ?_ hf,fun j hj h=>by omega,hM2⟩
  rintro ⟨e1,e2⟩
  omega
 refine Ui (h':=hpI N arcs x p key v (n-1,ks2,vs2,D)) ?_ ?_ ?_ ?_ (Yq (Inv:=Inn (grD N arcs x (fun u=>p.getD u 0) s hW.hV hs hn) N arcs x key v (meas N n D)) (afM hW hvN hx) ?_ ?_ ?_ _ hI0)
 ·unfold hpI hpD wB Kc
  simp -implicitDefEqProofs only [rX,↓reduceIte,Nat.reduceEqDiff,leE,leH,leB,leV,bA,or_true]
 ·simp [aD,aB,hpI,hpD,wB]
 ·unfold hpI hpD wB Kc
  simp -implicitDefEqProofs only [rX,aB,wfE,wfB,wfV,wfL,bW]
 ·unfold hpI hpD wB Kc
  simp -implicitDefEqProofs only [rX,aB,wfV,wfL]
 ·rintro i g hi ⟨g1,g2,g3,g4,g5,g6⟩ hr
  refine ⟨g1,g2,g3,g4,fun j hj hlt hro=>?_,g6⟩
  by_cases e:j=i
  ·subst e
   exact absurd hro (by omega)
  ·exact g5 j hj (by omega) hro
 ·intro i g hi hI hr e bb Z he hT hF
  exact adQ hW hn hvN hi hI hr he hT
 ·rintro ⟨n3,ks3,vs3,D3⟩ ⟨g1,g2,g3,g4,g5,g6⟩
  simp only at g1 g2 g3 g4 g5 g6
  have hcl:clN (grD N arcs x (fun u=>p.getD u 0) s hW.hV hs hn) D3 v:=by
   intro i hi hsrc
   obtain ⟨q1,q2⟩:=Kv hW.hV hi.1 hsrc
   obtain ⟨j,hj,hje⟩:=yai q1
   have hres:rJ arcs x i:=hi
   have:=g5 j hj hj (by rw [hje,←xH,q2];exact hres.2)
   rw [hje,q2] at this
   rw [g2]
   exact this
  unfold hpI hpD wB Kc
  simp -implicitDefEqProofs only [rX,rZ,↓rW,↓reduceIte,Nat.reduceEqDiff,leE,leH,leB,leV,bA,aD,aB,wfE,wfB,wfV,wfL,bW]
  refine ⟨(n3,ks3,vs3,D3),⟨⟨g1,g4.done hcl⟩,g6⟩,?_⟩
  exact ⟨rfl,⟨rfl,rfl⟩,rfl,rfl⟩
theorem Gf {N:Nat} {x:Int}:yab N (encI x)=(yab N x).map encI:=by simp
theorem aaQ (key val:Int):OkN Tryz.prog 123 [.ptr 0 0 0,.i key,.i val] [.var [.nil,.nil]] [] (IsQ (nU 0 [] [] key val) (fun _=>.tup []) (fun g=>hpB 1 g.1 g.2)):=by
 refine Vy pol [0] lw123 (by simp) ⟨trivial,trivial⟩ (by simp) (s0:=⟨aL 0 [.ptr 0 0 0,.i key,.i val],hpB 0 [] [],0⟩) ?_ ?_
 ·refine ⟨_,.virt 2 1 (by decide) (.nilB 0 [.nil,.nil] [.sl 1 0 0,.sl 2 0 0] rfl ⟨rfl,fun i a b h1 h2=>?_⟩ (.refl _)),?_⟩
  ·match i with
   | 0=>simp at h1 h2;subst h1 h2;exact .inr ⟨rfl,_,rfl⟩
   | 1=>simp at h1 h2;subst h1 h2;exact .inr ⟨rfl,_,rfl⟩
   | i+2=>simp at h1
  ·unfold hpB
   simp -implicitDefEqProofs only [rX,↓reduceIte,Nat.reduceEqDiff,Nat.reduceAdd,reduceCtorEq,leE,leH,leB,leV,bA,aD,aB,wfE,wfB,wfV,wfL,aL]
 ·refine Tn 0 [] [] key val (by simp) (by simp) (by omega) fun g hg e b=>?_
  refine dV g hg ?_
  unfold hpB
  simp -implicitDefEqProofs only [rX,Nat.reduceAdd,aQ,aU,leH,leB,leV,bA,aD,aB,wfB,wfV,wfL,Nat.reduceLeDiff]
theorem ajB (hW:WOk N arcs x p) (hn:NN arcs x fun u=>p.getD u 0) (hx:∀ j,0≤x.getD j 0∧x.getD j 0≤1073741824) :
  OkN Tryz.prog 90 [.ptr 0 0 0,.i s] (wH N arcs x p) [] (IsQ (Bg N (grD N arcs x (fun u=>p.getD u 0) s hW.hV hs hn)) (fun _=>.sl 7 0 N) (fun D=>wH N arcs x p++[.dead,.dead,.dead,.arr 1 (D.map encI)])):=by
 refine eS pol [0,1,2,3] lw90 (by simp) ⟨trivial,trivial,trivial,trivial,trivial⟩ (by simp [wH];omega) ?_
 have hN:=hW.hV.hn
 unfold c90 wH wB
 simp -implicitDefEqProofs only [rX,↓rY,aA,cells?,↓reduceIte,Nat.reduceEqDiff,Nat.reduceAdd,aC,cG,isD,Nat.reduceLT,cxN,aL]
 refine fC [.bro 1 [encI far],.i N] (.sl 0 0 N) (.sl 7 0 N) [.arr 1 (yab N (encI far))] [.arr 1 (yab N (encI far))] (aeV N far (by omega) (by omega)) (by simp [aG,aK,aX,bQ,wkL,wk,wkB,blk,far,encI]) rfl rfl (by simp [aD,aB]) ?_
 rw [Gf]
 simp -implicitDefEqProofs only [rX,↓rY,aA,cells?,splice,↓reduceIte,Nat.reduceEqDiff,cU,Nat.reduceAdd,reduceCtorEq,aC,bU,isD,isC,yac,yaa,fG,mE]
 refine ⟨⟨by omega,by omega⟩,by omega,?_⟩
 refine eQ (nU 0 [] [] 0 (s:Nat)) [8] [] [] [.ptr 0 0 0,.i 0,.i s] (fun _=>.tup []) [Blk.var [.nil,.nil]] (fun g=>hpB 1 g.1 g.2) (aaQ 0 s) (by simp) (by simp) (by simp [blk,cB,cK,ren,pos]) (by simp [aG,aK,aX,bQ,wkL,wk,pos]) fun g hg=>⟨by simp [aD,aB,hpB,bH,cB,bE],?_⟩
 obtain ⟨ks,vs⟩:=g
 obtain ⟨h1,h2⟩:=DI.start (N:=N) (arcs:=arcs) (x:=x) (p:=fun u=>p.getD u 0) (s:=s) (hV:=hW.hV) (hs:=hs) (hn:=hn) hg
 simp -implicitDefEqProofs only [rX,↓reduceIte,Nat.reduceAdd,bN,bE,kill,bO,St.kill,hpB,bH,cB,cK,ren,back,fS]
 refine aV (Gn N arcs x p) (Uf (grD N arcs x (fun u=>p.getD u 0) s hW.hV hs hn) N) (fun g=>meas N g.1 g.2.2.2) (1,ks,vs,(yab N far).set s 0) ⟨h1,h2⟩ ?_ (acC hW hn hx fun D ks vs hQ e b he=>?_)
 ·unfold Gn hpD wB
  simp -implicitDefEqProofs only [rX,↓reduceIte,Nat.reduceEqDiff,leE,leH,leB,leV,bA,aD,aB,wfE,wfB,wfV,wfL,bW]
  exact ⟨rfl,rfl⟩
 ·unfold hpD wB
  simp -implicitDefEqProofs only [rX,↓rY,↓reduceIte,Nat.reduceAdd,he]
  refine dV D hQ ?_
  simp -implicitDefEqProofs only [rX,↓reduceIte,Nat.reduceAdd,aQ,aU,leH,leB,leV,bA,aD,aB,wfB,wfV,wfL,Nat.reduceLeDiff,bW]
end
end Go.Fx.P.K
namespace Go.Fx.P.K
open Go Go.Fx Go.Fx.E Go.Proofs
set_option maxRecDepth 20000
def h44 (N:Nat) (arcs:List Arc) (p:List Int) (to:Nat) (x:List Int) (d:List Bool):List Blk :=
 [wB N arcs.length arcs 1 2 3,.arr 1 (x.map encI),.arv 1 (iJ arcs N),.arr 1 (p.map encI),.var [.ptr 0 0 0],.var [.i to],.arr 1 (d.map vP),.var [.sl 6 0 N],.var [.clo 128 [.ptr 5 0 0,.ptr 7 0 0,.ptr 4 0 0,.ptr 8 0 0]]]
abbrev G44 (arcs:List Arc):Type:={ g:Int × List Int × List Bool // XB arcs g.2.1 }
def vQ:Env:=[(9,.ptr 11 0 0),(7,.ptr 10 0 0),(6,.ptr 9 0 0),(5,.ptr 8 0 0),(4,.ptr 4 0 0),(3,.ptr 7 0 0)]
def hpF (N:Nat) (arcs:List Arc) (p:List Int) (to v:Nat) (most:Int) (g:Int × List Int × List Bool):List Blk :=
 h44 N arcs p to g.2.1 g.2.2++[.var [.i v],.var [.i most],.var [.i g.1],.var [.ptr 0 0 0],.var [.i v],.rcd .ready vQ]
theorem Cz {l:List Bool} {k:Nat} (h:k<l.length):l.getD k false=l[k]:=by
 rw [yaf,yag h];rfl
theorem XB.bd {N:Nat} {arcs:List Arc} {x:List Int} (hV:Val N arcs) (h:XB arcs x) (j:Nat):0≤x.getD j 0∧x.getD j 0≤1073741824:=by
 by_cases hj:j<arcs.length
 ·have:=h.hb j hj
  have:=hV.at hj
  omega
 ·rw [yaf,yat (by have:=h.hl;omega)];simp
def Ug (N:Nat) (arcs:List Arc) (p:List Int) (to:Nat) (x:List Int) (d:List Bool) (v:Nat) (most:Int):Prop :=
 OkN Tryz.prog 128 [.i v,.i most,.ptr 5 0 0,.ptr 7 0 0,.ptr 4 0 0,.ptr 8 0 0] (h44 N arcs p to x d) [] (IsQ (FQ arcs x (fun u=>p.getD u 0) to d v most) (fun g=>.i g.1) (fun g=>h44 N arcs p to g.2.1 g.2.2))
section
variable {N:Nat} {arcs:List Arc} {x p:List Int} {to v:Nat} {d:List Bool} {most:Int}
theorem afL (hV:Val N arcs) (hv:v<N):ItH (fun g:G44 arcs=>hpF N arcs p to v most g.1) (fun g=>g.1.2.1) 15 N v arcs 14 12 13 0 1 2 3 [14,0,1,2,3,4,5,6,7,8]:=by
 refine ⟨hV,hv,fun g=>rfl,fun g tl=>rfl,fun g tl=>rfl,fun g tl=>rfl,fun g tl=>rfl,fun g tl=>rfl,fun g=>⟨trivial,trivial,trivial,trivial,trivial,trivial,trivial,trivial,trivial,trivial,trivial⟩,fun g=>?_,fun g=>⟨_,_,rfl⟩,fun g=>⟨g.2.hl,fun j=>g.2.bd hV j⟩⟩
 unfold hpF h44 wB vQ
 simp -implicitDefEqProofs only [rX,aB,wfE,wfB,wfV,wfL,bW]
theorem adP (hW:∀ x,XB arcs x→WOk N arcs x p) (hvd:d.getD v false=false) (hdl:d.length=N) (hto:to<N) (hm:0<most∧most≤4611686018427387904) {i:Nat} {g:Int × List Int × List Bool} (hv:v<N) (hi:i<(bT arcs v arcs.length).length)
  (IH:∀ (x1:List Int) (d1:List Bool) (v1:Nat) (m1:Int),d1.count false<d.count false→XB arcs x1→d1.length=N→v1<N→d1.getD v1 false=false→0≤m1∧m1≤4611686018427387904→Ug N arcs p to x1 d1 v1 m1)
  (hI:FN N arcs x (fun u=>p.getD u 0) to d v most i g)
  (hr:0<cP arcs g.2.1 v (bT arcs v arcs.length)[i]) {e:Env} {bb:Nat} {Z:V→St→Prop} {NX RX:St→Prop} {XX:Nat→St→Prop} (he:EI arcs v 14 12 13 i e)
  (hN:∀ e' h',(∃ (g:Int × List Int × List Bool) (tl:List Blk),FN N arcs x (fun u=>p.getD u 0) to d v most i g∧g.1=most∧e'=vQ∧h'=(hpF N arcs p to v most g).set 14 .dead++tl)→XX 0 ⟨e',h',0⟩)
  (hT:∀ e' g' tl,EI arcs v 14 12 13 i e'→FN N arcs x (fun u=>p.getD u 0) to d v most (i+1) g'→Z (.b true) ⟨e',hpF N arcs p to v most g'++tl,bb⟩)
  (hF:∀ e' hh,EI arcs v 14 12 13 i e'→sQ 14 NX XX RX hh→Z (.b false) ⟨e',hh,bb⟩) :
  yR (cxN Tryz.prog [0,1,2,3,4,5,6,7,8]) [26] c128a0 c128r0 14 [j8 arcs g.2.1 v (bT arcs v arcs.length)[i]] ⟨e,hpF N arcs p to v most g++[.var (gA arcs (bT arcs v arcs.length)[i]).enc,.var (vK arcs g.2.1 v (bT arcs v arcs.length)[i])],bb⟩ Z:=by
 obtain ⟨sent,x1,d1⟩:=g
 have hfi:=hI.fi
 have hn0:=hI.n0
 simp only at hfi hn0 hr ⊢
 have hx1:=hfi.xb
 have hWx:=hW x1 hx1
 have hVV:=hWx.hV
 obtain ⟨hj,hend⟩:=vZ hi
 generalize hk:(bT arcs v arcs.length)[i]=k at *
 have hsrc:=Do hVV hj hend
 obtain ⟨w1,w2,w3⟩:=xI hVV (i:=wix arcs v k) (by rw [fJ];exact hj)
 have hcb:=tC hVV (i:=wix arcs v k) (by rw [fJ];exact hj)
 have hway:j8 arcs x1 v k=.agg [.i k,.i (wdst arcs (wix arcs v k):Nat),.i (cP arcs x1 v k),.i (e7 arcs (wix arcs v k)),.b (decide (¬(gA arcs k).from_=v))]:=by
  have:=hVV.at hj
  unfold j8 cP wdst e7
  rw [fJ]
  unfold wix
  by_cases h:(gA arcs k).from_=v
  ·simp only [if_pos h]
   rw [if_pos (by omega),if_pos (by omega),show (((gA arcs k).to.toNat:Nat):Int)=(gA arcs k).to by omega,show decide (¬(gA arcs k).from_=v)=false from decide_eq_false (by simpa using h)]
  ·simp only [if_neg h]
   rw [if_neg (by omega),if_neg (by omega),show (((gA arcs k).from_.toNat:Nat):Int)=(gA arcs k).from_ by omega,show decide (¬(gA arcs k).from_=v)=true from decide_eq_true h]
 have hwc:cells? (j8 arcs x1 v k)=some (vK arcs x1 v k):=by unfold j8 vK;split<;>rfl
 have hwc2:vK arcs x1 v k=[.i k,.i (wdst arcs (wix arcs v k):Nat),.i (cP arcs x1 v k),.i (e7 arcs (wix arcs v k)),.b (decide (¬(gA arcs k).from_=v))]:=by
  rw [hway] at hwc
  simpa [cells?] using hwc.symm
 rw [hway,hwc2]
 have hdlt:∀ n,dlt arcs v k n=if decide (¬(gA arcs k).from_=v)=true then -n else n:=by
  intro n
  unfold dlt
  by_cases h:(gA arcs k).from_=v
  ·rw [if_pos h,if_neg (by simpa using h)]
  ·rw [if_neg h,if_pos (by simpa using h)]
 have hcap:=hVV.at hj
 have hx1b:=hx1.hb k hj
 have hrmb:cP arcs x1 v k≤1073741824:=by unfold cP;split<;>omega
 have hdltr:∀ n,0≤n→n≤cP arcs x1 v k→0≤x1.getD k 0+dlt arcs v k n∧x1.getD k 0+dlt arcs v k n≤1073741824:=by
  intro n h1 h2
  unfold cP at h2
  unfold dlt
  split
  ·rename_i e;rw [if_pos e] at h2;omega
  ·rename_i e;rw [if_neg e] at h2;omega
 generalize hbk:decide (¬(gA arcs k).from_=v)=bk at *
 generalize hrm:cP arcs x1 v k=rm at *
 have hKill:∀ M,bO M (gA arcs k).enc=(gA arcs k).enc:=fun M=>rfl
 have hWf:∀ q,wfL q (gA arcs k).enc=True:=fun q=>eq_true abU
 generalize (gA arcs k).enc=encA at *
 have hcall:=Yg N arcs x1 p v (wdst arcs (wix arcs v k):Nat) (e7 arcs (wix arcs v k)) (.i k) (.i rm) (.b bk) hWx (by omega) (by omega) hcb
 have hrc:e7 arcs (wix arcs v k)+p.getD (v:Int).toNat 0-p.getD ((wdst arcs (wix arcs v k):Nat):Int).toNat 0=dJ arcs (fun u=>p.getD u 0) (wix arcs v k):=by
  unfold dJ
  rw [hsrc,yaa,yaa]
 rw [hrc] at hcall
 have hxl:=hx1.hl
 have hd1:d1.length=N:=hfi.dl.trans hdl
 have hst:=fun (hd:d1.getD (wdst arcs (wix arcs v k)) false=false) (hc:dJ arcs (fun u=>p.getD u 0) (wix arcs v k)=0)=>hI.step hVV hvd hm.1 hi hk hd hc
 have hsk:=hI.skip hi
 rw [hk] at hsk
 rw [hrm] at hst
 generalize hcc:dJ arcs (fun u=>p.getD u 0) (wix arcs v k)=c at *
 generalize hto2:wdst arcs (wix arcs v k)=u at *
 have hud:u<d1.length:=by omega
 have hdu:d1.getD u false=d1[u]:=Cz hud
 refine Kt 17 rfl rfl rfl ?_
 unfold hpF h44 wB vQ c128a0
 simp -implicitDefEqProofs only [rX,↓rY,rZ,↓rW,aA,cells?,splice,↓reduceIte,Nat.reduceEqDiff,Nat.reduceAdd,aC,isC,cxN,lM]
 unfold c128r0
 simp -implicitDefEqProofs only [rX,↓rY,rZ,↓rW,aA,↓reduceIte,Nat.reduceEqDiff,cU,Nat.reduceAdd,reduceCtorEq,yac,uF,yaa]
 simp only [br,decide_eq_true_eq,decide_eq_false_iff_not]
 refine ⟨fun heq=>?_,fun hne=>?_⟩
 ·have heq':sent=most:=by simpa using heq
  refine hF e _ he ?_
  simp -implicitDefEqProofs only [rX,rZ,↓rW,aB,wfE,wfB,wfV,wfL,bW,hWf]
  exact hN _ _ ⟨(sent,x1,d1),[.var encA,.var [.i k,.i u,.i rm,.i (e7 arcs (wix arcs v k)),.b bk],.dead,.var [.i k,.i u,.i rm,.i (e7 arcs (wix arcs v k)),.b bk]],hI,heq',rfl,rfl⟩
 ·have hne':sent≠most:=by simpa using hne
  refine ⟨⟨by omega,by omega⟩,by omega,?_⟩
  refine ⟨fun hdead=>?_,fun hlive=>?_⟩
  ·exact hT e _ [.var encA,.var [.i k,.i u,.i rm,.i (e7 arcs (wix arcs v k)),.b bk],.dead,.var [.i k,.i u,.i rm,.i (e7 arcs (wix arcs v k)),.b bk]] he (hsk fun _ _ _=>by rw [hdu];exact hdead)
  ·refine dC [0,1,2,3] [.ptr 0 0 0,.i v,.agg [.i k,.i (u:Nat),.i rm,.i (e7 arcs (wix arcs v k)),.b bk]] (.i c) (.i c) (wH N arcs x1 p) (wH N arcs x1 p) _ hcall (by simp) (by simp [wH,wB,blk,cB,cK,ren,pos,cH,hxl]) (by simp [aG,aK,aX,bQ,wkL,wk,pos]) (by simp [wH]) rfl rfl (by simp [aD,aB,wH,wB,bH,cB]) ?_
   simp -implicitDefEqProofs only [rX,↓rY,rZ,↓rW,aA,↓reduceIte,Nat.reduceEqDiff,Nat.reduceAdd,wH,wB,bH,cB,cK,ren,cH,back,hxl]
   simp only [br,decide_eq_true_eq,decide_eq_false_iff_not]
   refine ⟨fun hc=>hT e _ [.var encA,.var [.i k,.i u,.i rm,.i (e7 arcs (wix arcs v k)),.b bk],.dead,.var [.i k,.i u,.i rm,.i (e7 arcs (wix arcs v k)),.b bk]] he (hsk fun _ _ h0=>absurd h0 (by simpa using hc)),fun hc=>⟨by simp only [lo,Fx.hi];omega,?_⟩⟩
   have hc0:c=0:=by simpa using hc
   have hstep:=@hst (by rw [hdu];exact hlive) hc0 hr hne'
   have hm1:0<min rm (most-sent)∧min rm (most-sent)≤rm∧min rm (most-sent)≤most-sent:=⟨Int.lt_min.2 ⟨hr,by omega⟩,yaN _ _,yax _ _⟩
   generalize min rm (most-sent)=m1 at *
   refine eQ (FQ arcs x1 (fun u=>p.getD u 0) to d1 u m1) [0,1,2,3,4,5,6,7,8] [] [] [.i u,.i m1,.ptr 5 0 0,.ptr 7 0 0,.ptr 4 0 0,.ptr 8 0 0] (fun g=>.i g.1) (h44 N arcs p to x1 d1) (fun g=>h44 N arcs p to g.2.1 g.2.2)
    (IH x1 d1 u m1 (cnt_lt (hdl.trans hd1.symm) hfi.mono (by omega) hvd hI.nd) hx1 hd1 w2 (by rw [hdu];exact hlive) (by omega)) (by simp) (by simp) (by simp [h44,wB,blk,cB,cK,ren,pos,cH]) (by simp [aG,aK,aX,bQ,wkL,wk,pos]) fun g hg=>⟨by simp [aD,aB,h44,wB,bH,cB,bE],?_⟩
   obtain ⟨n,x2,d2⟩:=g
   have hN3:=hstep hg
   have hqi:=hg.fi
   have hn:=hg.n0
   simp only at hqi hn
   have hk2:x2.getD k 0=x1.getD k 0:=hqi.kept k hj (by
    have:d1.getD v false=true:=hI.nd
    rcases hend with e|e
    ·left;rw [e];exact this
    ·right;rw [e];exact this)
   have hkl:k<x2.length:=by rw [hqi.xb.hl];exact hj
   have hx2e:x2.getD k 0=x2[k]:=bY hkl
   have hdr:=hdltr n hn.1 (by omega)
   rw [←hk2,hx2e,hdlt] at hdr
   rw [hx2e,hdlt] at hN3
   have hmax:max n (-n)=n:=Int.max_eq_left (by omega)
   have hmax2:max (-n) n=n:=Int.max_eq_right (by omega)
   simp -implicitDefEqProofs only [rX,↓rY,rZ,↓rW,rdK,cells?,splice,↓reduceIte,Nat.reduceEqDiff,cU,Nat.reduceAdd,bN,bE,kill,bO,St.kill,isD,isC,yac,cR,yaa,fG,h44,wB,bH,cB,cK,ren,back,cH,fS,hKill]
   have hw1:IntKind.wrap .i64 (-n)=-n:=dY .i64 _ (by simp only [lo,Fx.hi];omega)
   have hw2:IntKind.wrap .i64 (- -n)=n:=by rw [Int.neg_neg];exact dY .i64 _ (by simp only [lo,Fx.hi];omega)
   have hZ:=hT (bN [] e) _ [.var encA,.var [.i k,.i u,.i rm,.i (e7 arcs (wix arcs v k)),.b bk],.dead,.var [.i k,.i u,.i rm,.i (e7 arcs (wix arcs v k)),.b bk]] (Nf (by simp) (by simp) (by simp) he) hN3
   unfold hpF h44 wB vQ at hZ
   cases bk
   ·simp -implicitDefEqProofs only [↓rY,hw1,hmax,mE]
    simp only [if_neg (show ¬(false=true) by decide)] at hZ hdr
    exact ⟨⟨by omega,by omega⟩,by omega,by simp only [lo,Fx.hi];omega,⟨by omega,by omega⟩,by omega,by simp only [lo,Fx.hi];omega,hZ⟩
   ·simp -implicitDefEqProofs only [↓rY,hw1,hw2,hmax2,mE]
    simp only [if_pos] at hZ hdr
    exact ⟨⟨by omega,by omega⟩,by omega,by simp only [lo,Fx.hi];omega,⟨by omega,by omega⟩,by omega,by simp only [lo,Fx.hi];omega,hZ⟩
end
end Go.Fx.P.K
namespace Go.Fx.P.K
open Go Go.Fx Go.Fx.E Go.Proofs
set_option maxRecDepth 20000
section
variable {N:Nat} {arcs:List Arc} {p:List Int} {to:Nat}
theorem Th {l:List Bool} {k:Nat} {b:Bool}:(l.map vP).set k [.b b]=(l.set k b).map vP:=by
 rw [List.map_set];rfl
def hpE (N:Nat) (arcs:List Arc) (p:List Int) (to v:Nat) (most:Int) (g:Int × List Int × List Bool) (tl:List Blk):List Blk :=
 h44 N arcs p to g.2.1 g.2.2++[.var [.i v],.var [.i most],.var [.i g.1],.var [.ptr 0 0 0],.var [.i v],.dead]++tl
theorem adO (hV:Val N arcs) (hW:∀ x,XB arcs x→WOk N arcs x p) (hto:to<N) {x:List Int} {d:List Bool} {v:Nat} {most:Int} {Q:Int × List Int × List Bool→Prop} (hx:XB arcs x) (hdl:d.length=N) (hv:v<N) (hvt:v≠to) (hvd:d.getD v false=false) (hm:0<most∧most≤4611686018427387904)
  (IH:∀ (x1:List Int) (d1:List Bool) (v1:Nat) (m1:Int),d1.count false<d.count false→XB arcs x1→d1.length=N→v1<N→d1.getD v1 false=false→0≤m1∧m1≤4611686018427387904→Ug N arcs p to x1 d1 v1 m1)
  {NX RX:St→Prop} {XX:Nat→St→Prop} (hX:∀ s,NX s→XX 0 s) (hQ:Q=FQ arcs x (fun u=>p.getD u 0) to d v most)
  (hfin:∀ (g:Int × List Int × List Bool) tl,Q (g.1,g.2.1,g.2.2.set v (decide (g.1<most)))→g.2.2.length=N→NX ⟨vQ,hpE N arcs p to v most g tl,0⟩) :
  I0 Tryz.prog 146 [.itr 14,.ptr 12 0 0,.ptr 13 0 0] [14,0,1,2,3,4,5,6,7,8] 14 (yR (cxN Tryz.prog [0,1,2,3,4,5,6,7,8]) [26] c128a0 c128r0 14) (hpF N arcs p to v most (0,x,d.set v true)) (sQ 14 NX XX RX):=by
 subst hQ
 have hvl:v<d.length:=by omega
 refine Yq (Inv:=fun i (g:G44 arcs)=>FN N arcs x (fun u=>p.getD u 0) to d v most i g.1) (afL (p:=p) (to:=to) (most:=most) hV hv) ?_ ?_ ?_ ⟨(0,x,d.set v true),hx⟩ (FN.start hx (Int.le_of_lt hm.1) hvl)
 ·rintro i ⟨⟨s,x1,d1⟩,hg⟩ hi hI hr
  refine hI.skip hi fun h0 h1=>?_
  obtain ⟨z1,_⟩:=hI.zero h0
  simp only at z1 hr
  subst z1
  omega
 ·rintro i ⟨g,hg⟩ hi hI hr e bb Z he hT hF
  refine adP hW hvd hdl hto hm hv hi IH hI hr he ?_ ?_ hF
  ·rintro e' h' ⟨g',tl,h1,h2,rfl,rfl⟩
   refine hX _ (hfin g' tl (h1.done hV hvl hvt hvd hm.1 (.inr h2)) (h1.fi.dl.trans hdl))
  ·intro e' g' tl he' hI'
   exact hT e' ⟨g',hI'.fi.xb⟩ tl he' hI'
 ·rintro ⟨g,hg⟩ hI
  have:=hfin g [] (hI.done hV hvl hvt hvd hm.1 (.inl rfl)) (hI.fi.dl.trans hdl)
  obtain ⟨s,x1,d1⟩:=g
  unfold hpF h44 wB vQ
  unfold hpE h44 wB vQ at this
  simp -implicitDefEqProofs only [rX,rZ,↓rW,aB,wfE,wfB,wfV,wfL,bW] at this ⊢
  exact this
theorem Yf (hV:Val N arcs) (hW:∀ x,XB arcs x→WOk N arcs x p) (hto:to<N):∀ (c:Nat) (x:List Int) (d:List Bool) (v:Nat) (most:Int),d.count false<c→XB arcs x→d.length=N→v<N→d.getD v false=false→0≤most∧most≤4611686018427387904→Ug N arcs p to x d v most
 | 0,_,d,_,_,hc,_,_,_,_,_=>by omega
 | c+1,x,d,v,most,hc,hx,hdl,hv,hvd,hm=>by
  have IH:=Yf hV hW hto c
  have hxl:=hx.hl
  have hWx:=hW x hx
  have hvl:v<d.length:=by omega
  have hN:=hWx.hN
  unfold Ug
  have hbase:=FQ.base (p:=fun u=>p.getD u 0) (to:=to) (d:=d) (v:=v) hx hm.1
  generalize hQ:FQ arcs x (fun u=>p.getD u 0) to d v most=Q at *
  refine eS pol [0,1,2,3,4,5,6,7,8] lw128 (by simp) ⟨trivial,trivial,trivial,trivial,trivial,trivial,trivial,trivial,trivial,trivial⟩ (by simp [h44];omega) ?_
  unfold c128 h44 wB
  simp -implicitDefEqProofs only [rX,↓rY,aA,cells?,splice,↓reduceIte,Nat.reduceEqDiff,cU,Nat.reduceAdd,reduceCtorEq,aC,isD,isC,yac,yaa,iY,cxN,aL]
  simp only [br]
  refine ⟨fun h1=>?_,fun h1=>⟨fun h2=>?_,fun h2=>?_⟩⟩
  ·refine dV _ (hbase (.inl (Int.ofNat.inj (by simpa using h1)))) ?_
   simp -implicitDefEqProofs only [rX,↓reduceIte,Nat.reduceAdd,aQ,aU,leH,leB,leV,bA,aD,aB,wfB,wfV,wfL,bW]
  ·refine dV _ (hbase (.inr (by simpa using h2))) ?_
   simp -implicitDefEqProofs only [rX,↓reduceIte,Nat.reduceAdd,aQ,aU,leH,leB,leV,bA,aD,aB,wfB,wfV,wfL,bW]
  have hvt:v≠to:=by
   have:¬((v:Int)=to):=by simpa using h1
   omega
  have hm0:0<most:=by
   have:¬most=0:=by simpa using h2
   omega
  refine ⟨⟨by omega,by omega⟩,by omega,?_⟩
  refine dC [0,1,2,3] [.ptr 0 0 0,.i v] (.clo 146 [.ptr 4 0 0,.ptr 5 0 0]) (.clo 146 [.ptr 12 0 0,.ptr 13 0 0]) (wH N arcs x p) (wH N arcs x p++[Blk.var [V.ptr 0 0 0],Blk.var [V.i v]]) (h44 N arcs p to x (d.set v true)++[Blk.var [V.i v],Blk.var [V.i most],Blk.var [V.i 0],Blk.var [V.ptr 0 0 0],Blk.var [V.i v]]) (Yh N arcs x p v) (by simp) (by simp [wH,wB,blk,cB,cK,ren,pos,cH,hxl]) (by simp [aG,aK,aX,bQ,wkL,wk,pos]) (by simp [wH]) (by simp [h44,wH,wB,bH,cB,cK,ren,cH,back,hxl,vP]) (by simp [ren,cK,back]) (by simp [aD,aB,h44,wB]) ?_
  unfold h44 wB
  simp -implicitDefEqProofs only [rX]
  refine Ed 14 rfl rfl trivial ?_
  refine Ui (h':=hpF N arcs p to v most (0,x,d.set v true)) ?_ ?_ ?_ ?_ (adO hV hW hto hx hdl hv hvt hvd ⟨hm0,hm.2⟩ (fun x1 d1 v1 m1 hlt=>IH x1 d1 v1 m1 (by omega)) ?_ hQ.symm ?_)
  ·unfold hpF h44 wB vQ
   simp -implicitDefEqProofs only [rX,↓reduceIte,Nat.reduceEqDiff,reduceCtorEq,leE,leH,leB,leV,bA,or_true]
  ·simp [aD,aB,hpF,h44,wB]
  ·unfold hpF h44 wB vQ
   simp -implicitDefEqProofs only [rX,aB,wfE,wfB,wfV,wfL,bW]
  ·unfold hpF h44 wB vQ
   simp -implicitDefEqProofs only [rX,aB,wfV,wfL]
  ·intro s hs
   exact hs
  ·rintro ⟨s,x1,d1⟩ tl hq hl
   simp only at hl
   unfold hpE h44 wB vQ
   simp -implicitDefEqProofs only [rX,↓rY,cells?,splice,↓reduceIte,Nat.reduceEqDiff,cU,isD,isC,yac,yaa,iY,hl]
   refine ⟨⟨by omega,by omega⟩,hv,dV _ hq ?_⟩
   simp -implicitDefEqProofs only [rX,↓reduceIte,Nat.reduceAdd,aQ,aU,leH,leB,leV,bA,aD,aB,wfB,wfV,wfL,bW,Th]
end
end Go.Fx.P.K
namespace Go.Fx.P.K
open Go Go.Fx Go.Fx.E Go.Proofs
set_option maxRecDepth 20000
section
variable {N:Nat} {arcs:List Arc} {p:List Int} {to:Nat}
theorem ajA (hV:Val N arcs) (hW:∀ x,XB arcs x→WOk N arcs x p) (hto:to<N) (x:List Int) (v:Nat) (most:Int) (hx:XB arcs x) (hv:v<N) (hm:0≤most∧most≤4611686018427387904) :
  OkN Tryz.prog 92 [.ptr 0 0 0,.i v,.i to,.i most] (wH N arcs x p) [] (IsQ (FQ arcs x (fun u=>p.getD u 0) to (yab N false) v most) (fun g=>.i g.1) (fun g=>wH N arcs g.2.1 p)):=by
 have hWx:=hW x hx
 have hN:=hWx.hN
 have hxl:=hx.hl
 have hfree:(yab N false).getD v false=false:=by rw [Cz (by simpa using hv)];simp
 have hcall:=Yf hV hW hto (N+1) x (yab N false) v most (by simp) hx (by simp) hv hfree hm
 unfold Ug at hcall
 generalize hQ:FQ arcs x (fun u=>p.getD u 0) to (yab N false) v most=Q at *
 refine eS pol [0,1,2,3] lw92 (by simp) ⟨trivial,trivial,trivial,trivial,trivial⟩ (by simp [wH];omega) ?_
 unfold c92 wH wB
 simp -implicitDefEqProofs only [rX,↓rY,aA,cells?,splice,↓reduceIte,Nat.reduceEqDiff,Nat.reduceAdd,reduceCtorEq,aC,isC,yaa,cxN,aL]
 refine ⟨⟨⟨by omega,by omega⟩,by omega,by omega⟩,?_⟩
 refine eQ Q [0,1,2,3,4,5,6,7,8] [] [] [.i v,.i most,.ptr 5 0 0,.ptr 7 0 0,.ptr 4 0 0,.ptr 8 0 0] (fun g=>.i g.1) (h44 N arcs p to x (yab N false)) (fun g=>h44 N arcs p to g.2.1 g.2.2) hcall (by simp) (by simp) (by simp [h44,wB,blk,cB,cK,ren,pos,cH,hxl,vP]) (by simp [aG,aK,aX,bQ,wkL,wk,pos]) fun g hg=>⟨by simp [aD,aB,h44,wB,bH,cB,bE],?_⟩
 obtain ⟨n,x2,d2⟩:=g
 have hx2:x2.length=arcs.length:=by
  rw [←hQ] at hg
  exact hg.fi.xb.hl
 simp -implicitDefEqProofs only [rX,↓reduceIte,Nat.reduceAdd,bN,bE,kill,bO,St.kill,h44,wB,bH,cB,cK,ren,back,cH,fS]
 refine dV _ hg ?_
 simp -implicitDefEqProofs only [rX,↓reduceIte,Nat.reduceAdd,aQ,aU,leH,leB,leV,bA,aD,aB,wfB,wfV,wfL,bW,hx2]
end
end Go.Fx.P.K
namespace Go.Fx.P.K
open Go Go.Fx Go.Fx.E Go.Proofs
set_option maxRecDepth 20000
section
variable {N:Nat} {arcs:List Arc} {p x:List Int}
theorem aeS (hW:WOk N arcs x p) (hx:XB arcs x):OkN Tryz.prog 127 [.ptr 0 0 0] (wH N arcs x p) [] (IsA (.i (d8 arcs x arcs.length)) (wH N arcs x p)):=by
 have hV:=hW.hV
 have hN:=hW.hN
 have hxl:=hW.hx
 have hal:=hV.hl
 refine eS pol [0,1,2,3] lw127 (by simp) ⟨trivial,trivial,trivial,trivial,trivial⟩ (by simp [wH];omega) ?_
 unfold c127 wH wB
 simp -implicitDefEqProofs only [rX,↓rY,aA,↓reduceIte,Nat.reduceAdd,reduceCtorEq,cxN,aL]
 intro hm
 have hf:∀ y∈x,0≤y∧y≤1073741824:=fun y hy=>by
  obtain ⟨i,hi,rfl⟩:=yai hy
  rw [←bY hi]
  exact hx.bd hV i
 have ha:∀ a∈arcs,0≤a.cost∧a.cost≤1048576:=fun a h=>(hV.ha a h).2.2.2.2
 refine aV (fun k:Nat=>(⟨[(12,.i k),(11,.i arcs.length),(10,.ro 4 (arcs.map Arc.enc)),(3,.i (d8 arcs x k)),(0,.ptr 0 0 0)],[.var [.i N,.ro 4 (arcs.map Arc.enc),.sl 1 0 x.length,.sl 2 0 N,.sl 3 0 N],.arr 1 (x.map encI),.arv 1 (iJ arcs N),.arr 1 (p.map encI)],0⟩:St)) (fun k=>k≤arcs.length) (fun k=>arcs.length-k) 0 (yak _) ?_ fun k hk=>?_
 ·simp -implicitDefEqProofs only [rX,↓reduceIte,Nat.reduceEqDiff,reduceCtorEq,leE,leH,leB,leV,bA,aD,aB,wfE,wfB,wfV,wfL,bW,d8,yal]
 ·rcases yam k arcs.length with h|h
  ·have hd:decide ((k:Int)<arcs.length)=true:=decide_eq_true (by omega)
   simp -implicitDefEqProofs only [rX,↓rY,aA,cells?,splice,↓reduceIte,Nat.reduceEqDiff,cU,Nat.reduceAdd,reduceCtorEq,aC,leE,leH,leB,leV,bA,aD,aB,wfE,wfB,wfV,wfL,yac,enc_len,fB,u9,fO,cR,yaa,hd]
   have hk2:k<x.length:=by omega
   have hfk:=hf x[k] (yad hk2)
   have hak:=ha arcs[k] (yad h)
   have hvb:=uU arcs x hf ha k
   have hst:=xL h hk2
   have hmb:=Mg hfk hak
   rw [Int.mul_comm] at hst hmb
   refine ⟨⟨by omega,by omega⟩,h,⟨by omega,by omega⟩,hk2,by simp only [lo,hi];omega,by simp only [lo,hi];omega,by simp only [lo,hi];omega,k+1,⟨by omega,by omega⟩,?_⟩
   simp -implicitDefEqProofs only [rX,bW,hst]
   trivial
  ·have hd:decide ((k:Int)<arcs.length)=false:=decide_eq_false (by omega)
   have:k=arcs.length:=by omega
   subst this
   simp -implicitDefEqProofs only [rX,↓rY,↓reduceIte,Nat.reduceEqDiff,Nat.reduceAdd,aQ,aU,leH,leB,leV,bA,aD,aB,wfB,wfV,wfL,hd,cQ,bW]
end
end Go.Fx.P.K
namespace Go.Fx.P.K
open Go Go.Fx Go.Fx.E Go.Proofs
structure SI (N:Nat) (arcs:List Arc) (f t:Nat) (am:Int) (x p:List Int) (sent:Int):Prop where
 xb:XB arcs x
 val:∀ w:Nat,valTo arcs w x arcs.length=vd f sent w-vd t sent w
 nn:NN arcs x fun u=>p.getD u 0
 pl:p.length=N
 p0:p.getD f 0=0
 pb:∀ j,0≤p.getD j 0∧p.getD j 0≤p.getD t 0
 pt:p.getD t 0≤((N:Int)-1)*1048576
 s0:0≤sent∧sent≤am
def Reach (arcs:List Arc) (x p:List Int) (f t:Nat):Prop:=∀ S:Nat→Prop,S f→(∀ i,rJ arcs x i→dJ arcs (fun u=>p.getD u 0) i=0→S (wsrc arcs i)→S (wdst arcs i))→S t
section
variable {N:Nat} {arcs:List Arc} {f t:Nat} {am sent:Int} {x p:List Int}
theorem SI.pmax (hN:1≤N∧N≤64) (h:SI N arcs f t am x p sent) (j:Nat):0≤p.getD j 0∧p.getD j 0≤1073741824:=by
 have h1:=h.pb j
 have h2:=h.pt
 have:((N:Int)-1)*1048576≤63*1048576:=yaG (by omega) (by omega)
 omega
theorem SI.wok (hV:Val N arcs) (hN:N≤64) (h:SI N arcs f t am x p sent) (y:List Int) (hy:XB arcs y):WOk N arcs y p :=
 ⟨hV,hN,hy.hl,h.pl,h.pmax ⟨hV.hn.1,hN⟩⟩
theorem Tm (hV:Val N arcs) {hs:f<N} {hn:NN arcs x fun u=>p.getD u 0}:∀ {v:Nat} {r:List Nat},Lb.PR (grD N arcs x (fun u=>p.getD u 0) f hV hs hn) v r→Lb.cs (grD N arcs x (fun u=>p.getD u 0) f hV hs hn) r+p.getD v 0≤(r.length:Int)*1048576+p.getD f 0
 | v,[],h=>by
  rw [show v=f from h]
  simp [Lb.cs]
 | v,i::r,h=>by
  have ih:=Tm hV h.2.2
  have hi:rJ arcs x i:=h.1
  have hd:wdst arcs i=v:=h.2.1
  have hc:=tC hV hi.1
  have e:Lb.cs (grD N arcs x (fun u=>p.getD u 0) f hV hs hn) (i::r)=dJ arcs (fun u=>p.getD u 0) i+Lb.cs (grD N arcs x (fun u=>p.getD u 0) f hV hs hn) r:=rfl
  have ihs:Lb.cs (grD N arcs x (fun u=>p.getD u 0) f hV hs hn) r+p.getD (wsrc arcs i) 0≤(r.length:Int)*1048576+p.getD f 0:=ih
  rw [e]
  unfold dJ
  rw [hd,yaD,yaE,yaF]
  simp only [Int.natCast_one,Int.one_mul]
  omega
theorem SI.price (hV:Val N arcs) (hf:f<N) (ht:t<N) (h:SI N arcs f t am x p sent) {D:List Int} (hD:Bg N (grD N arcs x (fun u=>p.getD u 0) f hV hf h.nn) D) (hN:N≤64) (hdt:D.getD t 0≠far) {p':List Int} (hl:p'.length=N) (hp:∀ k,k<N→p'.getD k 0=p.getD k 0+min (D.getD k 0) (D.getD t 0)) :
  SI N arcs f t am x p' sent∧Reach arcs x p' f t:=by
 have hb:∀ u,u<N→0≤D.getD u 0∧(D.getD u 0=far∨D.getD u 0≤KB):=fun u hu=>y7 hN (fun j=>h.pmax ⟨hV.hn.1,hN⟩ j) hD.lab hu
 have hKB:KB<far:=by decide
 have hDf:D.getD f 0=0:=hD.lab.h0
 have hbt:=hb t ht
 have hcl:∀ i,rJ arcs x i→D.getD (wsrc arcs i) 0<far→D.getD (wdst arcs i) 0≤D.getD (wsrc arcs i) 0+dJ arcs (fun u=>p.getD u 0) i:=fun i hi hlt=>hD.cl i hi hlt
 have hr':∀ i,rJ arcs x i→dJ arcs (fun u=>p'.getD u 0) i=dJ arcs (fun u=>p.getD u 0) i+min (D.getD (wsrc arcs i) 0) (D.getD t 0)-min (D.getD (wdst arcs i) 0) (D.getD t 0):=by
  intro i hi
  obtain ⟨w1,w2,_⟩:=xI hV hi.1
  unfold dJ
  simp only
  rw [hp _ w1,hp _ w2]
  omega
 have hout:∀ j,¬j<N→p'.getD j 0=0∧p.getD j 0=0:=by
  intro j hj
  have h1:=h.pl
  rw [yaf,yaf,yat (by omega),yat (by omega)]
  exact ⟨rfl,rfl⟩
 obtain ⟨r,hW⟩:∃ r,Lb.Wp (grD N arcs x (fun u=>p.getD u 0) f hV hf h.nn) (fun u=>D.getD u 0) t r:=by
  rcases hD.lab.hw t ht with he|⟨_,h⟩
  ·exact absurd he hdt
  ·exact h
 have hpt':=hp t ht
 rw [Int.min_self] at hpt'
 refine ⟨⟨h.xb,h.val,fun i hi=>?_,hl,?_,fun j=>?_,?_,h.s0⟩,?_⟩
 ·rw [hr' i hi]
  have h1:=h.nn i hi
  have hm1:=yax (D.getD (wdst arcs i) 0) (D.getD t 0)
  have hm2:=yaN (D.getD (wdst arcs i) 0) (D.getD t 0)
  rcases Int.le_total (D.getD t 0) (D.getD (wsrc arcs i) 0) with h2|h2
  ·rw [Int.min_eq_right h2];omega
  ·rw [yaI h2]
   have:=hcl i hi (by rcases hbt.2 with e|e<;>omega)
   omega
 ·rw [hp f hf,h.p0,hDf,yaI hbt.1];rfl
 ·by_cases hj:j<N
  ·rw [hp j hj,hpt']
   have h1:=h.pb j
   have h2:=hb j hj
   have hm1:=yax (D.getD j 0) (D.getD t 0)
   have hm2:0≤min (D.getD j 0) (D.getD t 0):=Int.le_min.2 ⟨h2.1,hbt.1⟩
   omega
  ·rw [(hout j hj).1,hpt']
   have:=h.pb t
   omega
 ·rw [hpt']
  have h1:=Tm hV hW.pr
  have h2:=hW.len
  rw [hW.co,h.p0] at h1
  have h3:r.length<N:=h2
  have h4:(r.length:Int)*1048576≤((N:Int)-1)*1048576:=yaG (by omega) (by omega)
  have h1':D.getD t 0+p.getD t 0≤(r.length:Int)*1048576+0:=h1
  omega
 ·intro S hS hstep
  have hCl:Lb.Cl (grD N arcs x (fun u=>p.getD u 0) f hV hf h.nn) far (fun u=>D.getD u 0):=fun i hi hlt=>hcl i hi hlt
  have hfin:∀ i,(grD N arcs x (fun u=>p.getD u 0) f hV hf h.nn).res i→D.getD (wsrc arcs i) 0<far→D.getD (wdst arcs i) 0<far:=by
   intro i hi hlt
   have hi':rJ arcs x i:=hi
   obtain ⟨w1,w2,_⟩:=xI hV hi'.1
   have h1:=hcl i hi' hlt
   have h2:=hb _ w1
   have h3:=tC hV hi'.1
   have h4:=h.pmax ⟨hV.hn.1,hN⟩ (wsrc arcs i)
   have h5:=h.pmax ⟨hV.hn.1,hN⟩ (wdst arcs i)
   unfold dJ at h1
   simp only at h1
   have:KB+1048576+1073741824<far:=by decide
   rcases h2.2 with e|e<;>omega
  have hti:=Lb.Fv hDf (by decide:(0:Int)<far) hCl hfin hW.pr hW.co
  have key:∀ (v:Nat) (r:List Nat),Lb.PR (grD N arcs x (fun u=>p.getD u 0) f hV hf h.nn) v r→Lb.Tight (grD N arcs x (fun u=>p.getD u 0) f hV hf h.nn) (fun u=>D.getD u 0) v r→D.getD v 0≤D.getD t 0→S v:=by
   intro v r
   induction r generalizing v with
   | nil=>intro h1 _ _;rw [show v=f from h1];exact hS
   | cons i r ih =>
    intro h1 h2 h3
    have hi:rJ arcs x i:=h1.1
    have hd:wdst arcs i=v:=h1.2.1
    have ht1:D.getD (wdst arcs i) 0=D.getD (wsrc arcs i) 0+dJ arcs (fun u=>p.getD u 0) i:=h2.1
    have h0:=h.nn i hi
    rw [←hd] at h3 ⊢
    refine hstep i hi ?_ (ih (wsrc arcs i) h1.2.2 h2.2 (by omega))
    rw [hr' i hi,yaI h3,yaI (by omega)]
    omega
  exact key t r hW.pr hti (yae _)
theorem SI.fill (h:SI N arcs f t am x p sent) (hf:f<N) {n:Int} {x':List Int} {d':List Bool} (hq:FQ arcs x (fun u=>p.getD u 0) t (yab N false) f (am-sent) (n,x',d')) :
  SI N arcs f t am x' p (sent+n)∧0≤n∧(Reach arcs x p f t→sent<am→0<n):=by
 have hfi:=hq.fi
 have hn:=hq.n0
 simp only at hfi hn
 have hs:=h.s0
 refine ⟨⟨hfi.xb,fun w=>?_,fun i hi=>?_,h.pl,h.p0,h.pb,h.pt,by omega⟩,hn.1,fun hR hlt=>?_⟩
 ·rw [hfi.val,h.val,Dr,Dr];omega
 ·by_cases e:x'.getD (i/2) 0=x.getD (i/2) 0
  ·refine h.nn i ⟨hi.1,?_⟩
   have:=hi.2
   unfold wrm at this ⊢
   rw [e] at this
   exact this
  ·have h0:=hfi.tig (i/2) hi.1 e
   by_cases e2:i%2=0
   ·rw [show 2*(i/2)=i by omega] at h0
    omega
   ·have h1:=Qz (arcs:=arcs) (p:=fun u=>p.getD u 0) (k:=i/2)
    rw [show 2*(i/2)+1=i by omega] at h1
    omega
 ·apply Classical.byContradiction
  intro hz
  have h0:n=0:=by omega
  obtain ⟨z1,z2,z3⟩:=hq.zero h0 (by omega)
  simp only at z1 z2 z3
  have hfr:∀ u,(yab N false).getD u false=false:=by
   intro u
   rw [yaf,yaM]
   split<;>rfl
  have:d'.getD t false=true:=hR (fun u=>d'.getD u false=true) z2 fun i hi hc hu=>(z3 _ hu (hfr _)).2 i hi rfl hc
  exact (z3 t this (hfr t)).1 rfl
def fH (D:List Int):Nat→List Int
 | 0=>[]
 | k+1=>if D.getD k 0<far then fH D k++[(k:Int)] else fH D k
theorem oR {D:List Int} {v:Int}:∀ {k:Nat},v∈fH D k↔(0≤v∧v<k)∧D.getD v.toNat 0<far
 | 0=>by
  simp only [fH,List.not_mem_nil,false_iff]
  omega
 | k+1=>by
  have ih:=oR (D:=D) (v:=v) (k:=k)
  unfold fH
  by_cases e:v=k
  ·subst e
   rw [yaa] at ih ⊢
   split
   ·rename_i h
    rw [yaJ,yas]
    exact ⟨fun _=>⟨by omega,h⟩,fun _=>.inr rfl⟩
   ·rename_i h
    rw [ih]
    exact ⟨fun h2=>absurd h2.2 h,fun h2=>absurd h2.2 h⟩
  ·split
   ·rw [yaJ,ih,yas]
    constructor
    ·rintro (h1|h1)
     ·exact ⟨⟨h1.1.1,by omega⟩,h1.2⟩
     ·exact absurd h1 e
    ·intro h1
     exact .inl ⟨⟨h1.1.1,by omega⟩,h1.2⟩
   ·rw [ih]
    constructor
    ·intro h1
     exact ⟨⟨h1.1.1,by omega⟩,h1.2⟩
    ·intro h1
     exact ⟨⟨h1.1.1,by omega⟩,h1.2⟩
theorem Hs {D:List Int}:∀ {k:Nat},(fH D k).length≤k
 | 0=>by simp [fH]
 | k+1=>by
  have:=Hs (D:=D) (k:=k)
  unfold fH
  split<;>simp<;>omega
theorem Ms {D:List Int} {n:Int}:∀ {k:Nat},(k:Int)≤n→OkS n (fH D k) (fH D k).length
 | 0,_=>⟨fun j h=>by simp [fH] at h⟩
 | k+1,hk=>by
  have ih:=Ms (D:=D) (n:=n) (k:=k) (by omega)
  have hm:=fun v=>oR (D:=D) (v:=v) (k:=k)
  unfold fH
  split
  ·refine ⟨fun j hj _=>?_⟩
   rw [yaq,yaP] at hj
   by_cases e:j<(fH D k).length
   ·rw [yaQ e]
    have:=ih.h j e e
    refine ⟨this.1,fun h0=>?_⟩
    have h2:=this.2 h0
    rw [bY (by omega)] at h2
    rw [bY (by rw [yaq,yaP];omega),yaQ (by omega)]
    exact h2
   ·have ej:j=(fH D k).length:=by omega
    subst ej
    rw [List.getElem_append_right (yan _)]
    simp only [Nat.sub_self,List.getElem_singleton]
    refine ⟨by omega,fun h0=>?_⟩
    rw [bY (by rw [yaq,yaP];omega),yaQ (by omega)]
    have:=((hm _).1 (yad (l:=fH D k) (n:=(fH D k).length-1) (by omega))).1
    omega
  ·exact ih
theorem SI.okF (hf:f<N) (ht:t<N) (h:SI N arcs f t am x p sent):OkF N arcs f t x:=by
 refine ⟨h.xb.hl,fun i h1 h2=>?_,fun j h1 h2 h3 h4=>?_⟩
 ·have:=h.xb.hb i h2
  rw [gA_at h2,bY h1] at this
  exact this
 ·have:=h.val j.toNat
  rw [yap h1] at this
  rw [this]
  unfold vd
  rw [if_neg (by omega),if_neg (by omega)];rfl
theorem SI.okP (hV:Val N arcs) (hN:N≤64) (h:SI N arcs f t am x p sent):OkP N arcs f x p:=by
 have hs:=Rn.1 h.nn
 refine ⟨h.pl,by rw [yaa];exact h.p0,fun j hj=>?_,fun k hk=>?_⟩
 ·rw [←bY hj];exact h.pmax ⟨hV.hn.1,hN⟩ j
 ·have:=hs k hk
  rw [gA_at hk] at this
  exact this
theorem SI.okv (hft:f≠t) (h:SI N arcs f t am x p sent):valTo arcs f x arcs.length=sent:=by
 rw [h.val]
 unfold vd
 rw [if_pos rfl,if_neg hft];omega
theorem SI.all (hV:Val N arcs) (hN:N≤64) (hf:f<N) (ht:t<N) (hft:f≠t) (h:SI N arcs f t am x p sent) (he:sent=am):OkAc N arcs f t am ⟨sent,d8 arcs x arcs.length,x,p,[]⟩ :=
 ⟨h.okF hf ht,h.s0,h.okv hft,rfl,h.okP hV hN,by simp only;rw [if_pos he];trivial⟩
theorem SI.cut (hV:Val N arcs) (hN:N≤64) (hf:f<N) (ht:t<N) (hft:f≠t) (h:SI N arcs f t am x p sent) (he:sent<am) {D:List Int} (hD:Bg N (grD N arcs x (fun u=>p.getD u 0) f hV hf h.nn) D) (hdt:D.getD t 0=far):OkAc N arcs f t am ⟨sent,d8 arcs x arcs.length,x,p,fH D N⟩:=by
 have hKB:KB<far:=by decide
 have hb:∀ u,u<N→0≤D.getD u 0∧(D.getD u 0=far∨D.getD u 0≤KB):=fun u hu=>y7 hN (fun j=>h.pmax ⟨hV.hn.1,hN⟩ j) hD.lab hu
 have hDf:D.getD f 0=0:=hD.lab.h0
 have hcl:∀ i,rJ arcs x i→D.getD (wsrc arcs i) 0<far→D.getD (wdst arcs i) 0<far:=by
  intro i hi hlt
  obtain ⟨w1,w2,_⟩:=xI hV hi.1
  have h1:D.getD (wdst arcs i) 0≤D.getD (wsrc arcs i) 0+dJ arcs (fun u=>p.getD u 0) i:=hD.cl i hi hlt
  have h2:=hb _ w1
  have h3:=tC hV hi.1
  have h4:=h.pmax ⟨hV.hn.1,hN⟩ (wsrc arcs i)
  have h5:=h.pmax ⟨hV.hn.1,hN⟩ (wdst arcs i)
  unfold dJ at h1
  simp only at h1
  have:KB+1048576+1073741824<far:=by decide
  rcases h2.2 with e|e<;>omega
 have hh:∀ v:Int,hasB (fH D N) v=true↔((0≤v∧v<N)∧D.getD v.toNat 0<far):=by
  intro v
  unfold hasB
  rw [decide_eq_true_eq,oR]
 have hfalse:∀ v:Int,0≤v∧v<N→hasB (fH D N) v=false→¬D.getD v.toNat 0<far:=by
  intro v hv h1 h2
  rw [(hh v).2 ⟨hv,h2⟩] at h1
  cases h1
 refine ⟨h.okF hf ht,h.s0,h.okv hft,rfl,h.okP hV hN,?_⟩
 simp only
 rw [if_neg (by omega)]
 refine ⟨Ms (yae _),(hh _).2 ⟨by omega,by rw [yaa,hDf];decide⟩,?_,⟨fun j hj _=>?_⟩⟩
 ·rw [←Bool.not_eq_true,hh,yaa,hdt]
  exact fun h1=>absurd h1.2 (yaH _)
 ·have hva:=hV.at hj
  have hxb:=h.xb.hb j hj
  rw [gA_at hj] at hva hxb
  refine ⟨fun h1 h2=>?_,fun h1 h2=>?_⟩
  ·have h3:=((hh _).1 h1).2
   have h4:=hfalse _ hva.2.1 h2
   apply Classical.byContradiction
   intro h5
   have:=hcl (2*j) ⟨by omega,by
    unfold wrm
    rw [if_pos (by omega),show 2*j/2=j by omega,gA_at hj];omega⟩
   unfold wsrc wdst at this
   rw [if_pos (by omega),if_pos (by omega),show 2*j/2=j by omega,gA_at hj] at this
   exact h4 (this h3)
  ·have h3:=((hh _).1 h1).2
   have h4:=hfalse _ hva.1 h2
   apply Classical.byContradiction
   intro h5
   have:=hcl (2*j+1) ⟨by omega,by
    unfold wrm
    rw [if_neg (by omega),show (2*j+1)/2=j by omega];omega⟩
   unfold wsrc wdst at this
   rw [if_neg (by omega),if_neg (by omega),show (2*j+1)/2=j by omega,gA_at hj] at this
   exact h4 (this h3)
end
end Go.Fx.P.K
namespace Go.Fx.P.K
open Go Go.Fx Go.Fx.E Go.Proofs
set_option maxRecDepth 20000
section
variable {N:Nat} {arcs:List Arc} {p x:List Int}
abbrev u5 (N:Nat) (arcs:List Arc) (x p D:List Int) (sent tot:Int) (k:Nat):St :=
 ⟨[(24,.i k),(23,.i D.length),(22,.bro 1 (D.map encI)),(7,.ptr 5 0 0),(6,.ptr 4 0 0)],[wB N x.length arcs 1 2 3,.arr 1 (x.map encI),.arv 1 (iJ arcs N),.arr 1 (p.map encI),.var [.i 0,.i 0,.nil,.nil,.nil],.var [.i sent,.i tot,.sl 1 0 x.length,.sl 3 0 N,.sl 6 0 (fH D k).length],.arr 1 ((fH D k).map encI)],0⟩
theorem acB (D:List Int) (hD:D.length≤64) (sent tot:Int) {RR:St→Prop} {X:Nat→St→Prop}
  (hX:∀ e b,get e 7=.ptr 5 0 0→get e 6=.ptr 4 0 0→X 0 ⟨e,(u5 N arcs x p D sent tot D.length).h,b⟩) (k:Nat) (hk:k≤D.length) :
  aw (cxN Tryz.prog [0,1,2,3]) c91l0 (fun s'=>∃ k':Nat,(k'≤D.length∧D.length-k'<D.length-k)∧leS [0,1,2,3] s' (u5 N arcs x p D sent tot k')) X RR (u5 N arcs x p D sent tot k):=by
 have hcl:=Hs (D:=D) (k:=k)
 unfold c91l0 u5 wB
 rcases yam k D.length with h|h
 ·have hd:decide ((k:Int)<D.length)=true:=decide_eq_true (by omega)
  simp -implicitDefEqProofs only [rX,↓rY,aA,cells?,splice,↓reduceIte,Nat.reduceEqDiff,Nat.reduceAdd,reduceCtorEq,aC,cG,leE,leH,leB,leV,bA,aD,aB,wfE,wfB,wfV,wfL,bN,bE,kill,bO,St.kill,isD,isC,Nat.reduceLT,yac,cR,yaa,cxN,hd,fS]
  have hDk:D.getD k 0=D[k]:=bY h
  simp only [br,decide_eq_true_eq,decide_eq_false_iff_not]
  refine ⟨⟨by omega,by omega⟩,h,⟨fun hf=>?_,fun hf=>?_⟩⟩
  ·have hcs:fH D (k+1)=fH D k++[(k:Int)]:=by
    show (if D.getD k 0<far then _ else _)=_
    rw [if_pos (by rw [hDk];exact hf)]
   refine ⟨by omega,by simp only [lo,hi];omega,k+1,⟨by omega,by omega⟩,by simp,?_⟩
   rw [hcs]
   refine ⟨⟨by simp,?_⟩,v6⟩
   rw [yaK,yao (by simp)]
   rfl
  ·have hcs:fH D (k+1)=fH D k:=by
    show (if D.getD k 0<far then _ else _)=_
    rw [if_neg (by rw [hDk];exact hf)]
   refine ⟨by simp only [lo,hi];omega,k+1,⟨by omega,by omega⟩,?_⟩
   rw [hcs]
   simp -implicitDefEqProofs only [rX,bW]
   trivial
 ·have hd:decide ((k:Int)<D.length)=false:=decide_eq_false (by omega)
  have:k=D.length:=by omega
  subst this
  have:=hX
  unfold u5 wB at this
  simp -implicitDefEqProofs only [rX,↓rY,↓reduceIte,Nat.reduceEqDiff,Nat.reduceAdd,cxN,hd]
  exact this _ _ rfl rfl
theorem adX (hW:WOk N arcs x p) (hx:XB arcs x) (sent:Int) (D:List Int) (hD:D.length≤N):OkN Tryz.prog 91 [.ptr 0 0 0,.i sent,.bro 1 (D.map encI)] (wH N arcs x p) [] (IsA (.agg [.i sent,.i (d8 arcs x arcs.length),.sl 1 0 x.length,.sl 3 0 N,.sl 6 0 (fH D D.length).length]) (wH N arcs x p++[.dead,.dead,.arr 1 ((fH D D.length).map encI)])):=by
 have hV:=hW.hV
 have hN:=hW.hN
 have hxl:=hW.hx
 have hal:=hV.hl
 have hcall:=aeS hW hx
 generalize hT:d8 arcs x arcs.length=tot at *
 refine eS pol [0,1,2,3] lw91 (by simp) ⟨trivial,trivial,trivial,trivial,trivial⟩ (by simp [wH];omega) ?_
 unfold c91 wH wB
 simp -implicitDefEqProofs only [rX,↓rY,aA,cells?,↓reduceIte,Nat.reduceEqDiff,Nat.reduceAdd,reduceCtorEq,aC,cxN,aL]
 repeat' refine And.intro ?_ ?_
 all_goals
  refine dC [0,1,2,3] [.ptr 0 0 0] (.i tot) (.i tot) (wH N arcs x p) (wH N arcs x p) _ hcall (by simp) (by simp [wH,wB,blk,cB,cK,ren,pos,cH]) (by simp [aG,aK,aX,bQ,wkL,wk,pos]) (by simp [wH]) rfl rfl (by simp [aD,aB,wH,wB,bH,cB]) ?_
  simp -implicitDefEqProofs only [rX,↓rY,rdK,aA,cells?,splice,↓reduceIte,Nat.reduceEqDiff,Nat.reduceAdd,reduceCtorEq,aC,bU,isC,Nat.reduceLeDiff,wH,wB,bH,cB,cK,ren,cH,back]
  intro _
  refine fU (.virt 1 1 (by decide) (.nilB 5 [.i sent,.i tot,.sl 1 0 x.length,.sl 3 0 N,.nil] [.i sent,.i tot,.sl 1 0 x.length,.sl 3 0 N,.sl 6 0 0] rfl ⟨rfl,fun i a b h1 h2=>?_⟩ (.refl _))) (u5 N arcs x p D sent tot) (fun k=>k≤D.length) (fun k=>D.length-k) 0 (yak _) ?_ (acB D (by omega) sent tot fun e b he1 he2=>?_)
  ·match i with
   | 0=>simp at h1 h2;subst h1 h2;exact .inl rfl
   | 1=>simp at h1 h2;subst h1 h2;exact .inl rfl
   | 2=>simp at h1 h2;subst h1 h2;exact .inl rfl
   | 3=>simp at h1 h2;subst h1 h2;exact .inl rfl
   | 4=>simp at h1 h2;subst h1 h2;exact .inr ⟨rfl,_,rfl⟩
   | i+5=>simp at h1
  ·unfold u5 wB
   simp -implicitDefEqProofs only [rX,↓reduceIte,Nat.reduceEqDiff,leE,leH,leB,leV,bA,aD,aB,wfE,wfB,wfV,wfL,bW,fH,yal]
  ·unfold u5 wB
   simp -implicitDefEqProofs only [rX,↓rY,cells?,splice,↓reduceIte,Nat.reduceEqDiff,Nat.reduceAdd,aQ,aU,leH,leB,leV,bA,aD,aB,wfB,wfV,wfL,isC,Nat.reduceLeDiff,he1,he2,cQ,bW]
end
end Go.Fx.P.K
namespace Go.Fx.P.K
open Go Go.Fx Go.Fx.E Go.Proofs
set_option maxRecDepth 20000
def sX (x:Int):Bool:=decide (x<0∨1073741824<x)
theorem aeQ (x:Int):Ok 130 [.i x] (Is (.b (sX x))):=by
 refine ok_of lw130 (by simp) ?_
 unfold c130
 simp -implicitDefEqProofs only [rX,↓rY,aA,↓reduceIte,Nat.reduceEqDiff,reduceCtorEq,aQ,aU,wfV,cxN,aL]
 simp only [br,decide_eq_true_eq,decide_eq_false_iff_not,sX]
 grind
def Ex (l:List Int):Int:=if l.any sX then (l.findIdx sX:Nat) else -1
structure GInv (l:List Int) (k:Nat):Prop where
 h:∀ j (h:j<l.length),j<k→sX l[j]=false
theorem aeM (l:List Int):Ok 147 [li l,.clo 130 []] (Is (.i (Ex l))):=by
 refine ok_of lw147 (by simp) ?_
 unfold c147 li
 simp -implicitDefEqProofs only [rX,↓rY,aA,↓reduceIte,reduceCtorEq,cxN,aL]
 intro hm
 refine aV (fun k:Nat=>⟨[(8,.i k),(7,.i l.length),(1,.clo 130 []),(0,.ro 1 (l.map encI))],[],0⟩) (fun k=>k≤l.length∧GInv l k) (fun k=>l.length-k) 0 ⟨by omega,⟨by simp⟩⟩ ?_ ?_
 ·simp -implicitDefEqProofs only [rX,↓reduceIte,Nat.reduceEqDiff,reduceCtorEq,leE,leH,aD,wfE,wfB,wfV,wfL,yal]
 rintro k ⟨hk,hv⟩
 unfold c147l0
 simp -implicitDefEqProofs only [rX,↓rY,aA,↓reduceIte,Nat.reduceEqDiff,reduceCtorEq,aQ,aU,wfV,yac,cR,yaa]
 simp only [br,yaa,decide_eq_true_eq,decide_eq_false_iff_not]
 refine ⟨fun h=>⟨⟨by omega,h⟩,by omega,?_⟩,fun h=>?_⟩
 ·have hk:k<l.length:=by omega
  refine aE (aeQ l[k]) ?_ rfl trivial ?_
  ·simp [aG,aK,aX,bQ,wkL,wk,pos]
  cases hb:sX l[k] with
  | true =>
   simp -implicitDefEqProofs only [rX,↓rY,↓reduceIte,Nat.reduceEqDiff,aQ,aU,wfV]
   have h1:l.any sX=true:=by
    rw [List.any_eq_true];exact ⟨_,yad hk,hb⟩
   have h2:l.findIdx sX=k:=by
    rw [List.findIdx_eq hk]
    exact ⟨hb,fun j hj=>hv.h j (by omega) hj⟩
   simp [Ex,h1,h2]
  | false =>
   simp -implicitDefEqProofs only [rX,↓rY,aA,↓reduceIte,Nat.reduceEqDiff,reduceCtorEq,leE,leH,aD,wfE,wfB,wfV,wfL]
   refine ⟨by simp only [lo,hi,maxLen] at *;omega,k+1,⟨⟨by omega,⟨fun j hj h2=>?_⟩⟩,by omega⟩,by simp⟩
   by_cases h3:j=k
   ·subst h3;exact hb
   ·exact hv.h j hj (by omega)
 ·have h1:l.any sX=false:=by
   rw [List.any_eq_false]
   intro x hx
   obtain ⟨j,hj,rfl⟩:=yai hx
   simp [hv.h j hj (by omega)]
  simp [Ex,h1]
theorem aeR (l:List Int):Ok 129 [li l,.clo 130 []] (Is (.b (l.any sX))):=by
 refine ok_of lw129 (by simp) ?_
 unfold c129 li
 simp -implicitDefEqProofs only [rX,aA,↓reduceIte,Nat.reduceEqDiff,reduceCtorEq,cxN,aL]
 refine aE (aeM l) ?_ rfl trivial ?_
 ·simp [li,aG,aK,aX,bQ,wkL,wk,wkR]
 simp -implicitDefEqProofs only [rX,↓rY,aA,↓reduceIte,aQ,aU,wfV,Ex]
 by_cases h:l.any sX=true
 ·simp [h]
 ·simp only [h,if_false];simp
theorem aiY (N:Nat) (arcs:List Arc) (f:Int) (fr:Fr) (hV:Val N arcs) (hf:0≤f∧f<N) (hl:fr.flow.length=arcs.length):Ok 94 [net N arcs,.i f,fr.enc] (Is (.b (prB N arcs f fr.flow fr.price))):=by
 refine ok_of lw94 (by simp) ?_
 unfold c94 net Fr.enc li
 simp -implicitDefEqProofs only [rX,↓rY,aA,cells?,↓reduceIte,Nat.reduceEqDiff,Nat.reduceAdd,reduceCtorEq,aC,aQ,aU,wfV,yac,cR,cxN,aL]
 simp only [br,decide_eq_true_eq,decide_eq_false_iff_not,bne_iff_ne,bne_eq_false_iff_eq]
 have hL:=hV.hl
 have hN:=hV.hn
 refine fun hm1=>⟨fun h=>Gl fun hO=>?_,fun h=>?_⟩
 ·have:=hO.hl;omega
 have hpl:fr.price.length=N:=by omega
 refine ⟨⟨hf.1,by omega⟩,by omega,fun h0=>Gl fun hO=>?_,fun h0=>?_⟩
 ·have:=hO.h0
  rw [getD_at (by omega)] at this
  exact h0 this
 refine aE (aeR fr.price) (by simp [li,aG,aK,aX,bQ,wkL,wk,wkR]) rfl trivial ?_
 cases hb:fr.price.any sX with
 | true =>
  simp -implicitDefEqProofs only [rX,↓rY,aA,↓reduceIte,Nat.reduceEqDiff,Nat.reduceAdd,aQ,aU,wfV]
  refine Gl fun hO=>?_
  rw [List.any_eq_true] at hb
  obtain ⟨x,hx,hb⟩:=hb
  obtain ⟨j,hj,rfl⟩:=yai hx
  have:=hO.hb j hj
  simp only [sX,decide_eq_true_eq] at hb
  omega
 | false =>
 have hb:∀ j (h:j<fr.price.length),0≤fr.price[j]∧fr.price[j]≤1073741824:=by
  intro j hj
  rw [List.any_eq_false] at hb
  have:=hb _ (yad hj)
  simp only [sX,decide_eq_true_eq] at this
  omega
 simp -implicitDefEqProofs only [rX,↓rY,aA,↓reduceIte,Nat.reduceEqDiff,Nat.reduceAdd]
 refine fun _=>aV (fun k:Nat=>⟨[(32,.i k),(31,.i arcs.length),(30,.ro 4 (arcs.map Arc.enc)),(5,.ptr 1 0 0),(3,.ptr 0 0 0),(1,.i f)],[.var [.i N,.ro 4 (arcs.map Arc.enc)],frB fr],0⟩) (fun k=>k≤arcs.length∧RInv arcs fr.flow fr.price k) (fun k=>arcs.length-k) 0 ⟨by omega,⟨by simp⟩⟩ ?_ ?_
 ·simp -implicitDefEqProofs only [rX,↓reduceIte,Nat.reduceEqDiff,reduceCtorEq,leE,leH,leB,leV,bA,aD,aB,wfE,wfB,wfV,wfL,bA,leV,yal,frB]
 rintro k ⟨hk,hv⟩
 simp -implicitDefEqProofs only [rX,↓rY,aA,cells?,splice,↓reduceIte,Nat.reduceEqDiff,Nat.reduceAdd,aC,aQ,aU,leE,leH,leB,leV,bA,aD,aB,wfE,wfB,wfV,wfL,yac,enc_len,fB,oP,oO,sR,u9,fO,cR,yaa,frB]
 simp only [br,decide_eq_true_eq,decide_eq_false_iff_not]
 refine ⟨fun h2=>?_,fun h2=>?_⟩
 ·have hk1:k<arcs.length:=by omega
  have hk2:k<fr.flow.length:=by omega
  have hva:=hV.ha arcs[k] (yad hk1)
  have b1:=hb arcs[k].from_.toNat (by omega)
  have b2:=hb arcs[k].to.toNat (by omega)
  have bad:¬(_∧_)→false=prB N arcs f fr.flow fr.price:=fun h=>Gl fun hO=>h (hO.ha k hk1)
  have good:=hv.next hk1
  rw [getD_at (by omega),getD_at (by omega),bY hk2] at bad good
  simp only [lo,hi,maxLen] at *
  repeat' (first|(refine ⟨(k+1:_),?_⟩)|(refine ⟨by omega,?_⟩)|(refine And.intro ?_ ?_)|(refine (fun _=>?_)))
  all_goals first|omega|(apply bad;omega)|(apply good;omega)
 ·refine Yc ⟨hpl,?_,hb,fun j hj=>hv.h j hj (by omega)⟩
  rw [getD_at (by omega)];exact h0
end Go.Fx.P.K
namespace Go.Fx.P.K
open Go Go.Fx Go.Fx.E Go.Proofs
set_option maxRecDepth 20000
theorem Oj {l:List Int} {k:Nat} (h:k<l.length) (x:Int):hasB (l.take (k+1)) x=if x=l[k] then true else hasB (l.take k) x:=by
 simp only [hasB,List.take_succ_eq_append_getElem h,yaJ,yas]
 by_cases hx:x=l[k]
 ·simp only [hx,or_true,if_true,decide_true]
 ·simp only [hx,or_false,if_false]
theorem aiX (N:Nat) (arcs:List Arc) (f t:Int) (fr:Fr) (hV:Val N arcs) (hf:0≤f∧f<N) (ht:0≤t∧t<N) (hl:fr.flow.length=arcs.length):Ok 95 [net N arcs,.i f,.i t,fr.enc] (Is (.b (cuB N arcs f t fr.flow fr.cut))):=by
 refine ok_of lw95 (by simp) ?_
 unfold c95 net Fr.enc li
 simp -implicitDefEqProofs only [rX,↓rY,aA,cells?,↓reduceIte,Nat.reduceEqDiff,Nat.reduceAdd,reduceCtorEq,aC,yaa,cxN,aL]
 have hL:=hV.hl
 have hN:=hV.hn
 refine ⟨by omega,fun hm=>?_⟩
 refine aV (fun k:Nat=>⟨[(20,.i k),(19,.i fr.cut.length),(18,.ro 1 (fr.cut.map encI)),(9,.sl 2 0 N),(7,.ptr 1 0 0),(4,.ptr 0 0 0),(2,.i t),(1,.i f)],[.var [.i N,.ro 4 (arcs.map Arc.enc)],frB fr,.arr 1 (oA N (fun j=>hasB (fr.cut.take k) j))],0⟩) (fun k=>k≤fr.cut.length∧OkS N fr.cut k) (fun k=>fr.cut.length-k) 0 ⟨by omega,⟨by simp⟩⟩ ?_ ?_
 ·have h0:oA N (fun j=>hasB [] j)=yab N [V.b false]:=by rw [Qq];rfl
  simp -implicitDefEqProofs only [rX,↓reduceIte,Nat.reduceEqDiff,reduceCtorEq,leE,leH,leB,leV,bA,aD,aB,wfE,wfB,wfV,wfL,bA,leV,yal,frB,h0]
 rintro k ⟨hk,hv⟩
 simp -implicitDefEqProofs only [rX,↓rY,aA,cells?,splice,↓reduceIte,Nat.reduceEqDiff,cU,Nat.reduceAdd,aQ,aU,leE,leH,leB,leV,bA,aD,aB,wfE,wfB,wfV,wfL,isD,isC,yac,cR,uF,yaa,iY,frB,Ga,yA,Qp]
 simp only [br,decide_eq_true_eq,decide_eq_false_iff_not]
 refine ⟨fun h2=>?_,fun h2=>?_⟩
 ·have hk1:k<fr.cut.length:=by omega
  have good:=hv.next hk1
  have bad:¬((0≤fr.cut[k]∧fr.cut[k]<N)∧(0<k→fr.cut.getD (k-1) 0<fr.cut[k]))→false=cuB N arcs f t fr.flow fr.cut:=fun h=>Ht fun hO=>h (hO.hs.h k hk1 hk1)
  have hp:0<k→fr.cut.getD (k-1) 0=fr.cut[((k:Int)-1).toNat]'(by omega):=by
   intro h0
   have e1:((k:Int)-1).toNat=k-1:=by omega
   simp only [e1]
   exact bY (by omega)
  have hrow:∀ i:Nat,i<N→(if (i:Int)=(fr.cut[k].toNat:Nat) then true else hasB (fr.cut.take k) i)=hasB (fr.cut.take (k+1)) i∨¬(0≤fr.cut[k]):=by
   intro i hi
   rw [Oj hk1]
   by_cases h0:0≤fr.cut[k]
   ·left;rw [yap h0]
   ·right;exact h0
  simp only [br,decide_eq_true_eq,decide_eq_false_iff_not,lo,hi,maxLen] at *
  repeat' (first|(refine ⟨(k+1:_),?_⟩)|(refine ⟨by omega,?_⟩)|(refine And.intro ?_ ?_)|(refine (fun _=>?_)))
  all_goals first|omega|(apply bad;rintro ⟨_,h4⟩;have h4:=h4 (by omega);rw [hp (by omega)] at h4;omega)|(apply bad;omega)|(apply good;refine ⟨by omega,fun h0=>?_⟩;rw [hp h0];omega)|(apply good;refine ⟨by omega,fun h0=>?_⟩;omega)|(congr 1;apply Jf;intro i hi;exact (hrow i hi).resolve_right (by omega))
 have hs:OkS N fr.cut fr.cut.length:=⟨fun j h _=>hv.h j h (by omega)⟩
 have hk0:fr.cut.take k=fr.cut:=yao (by omega)
 rw [hk0]
 have e1:((f.toNat:Nat):Int)=f:=yap hf.1
 have e2:((t.toNat:Nat):Int)=t:=yap ht.1
 simp only [e1,e2]
 refine ⟨hf,by omega,fun h3=>Ht fun hO=>?_,fun h3=>⟨ht,by omega,fun h4=>Ht fun hO=>?_,fun h4=>?_⟩⟩
 ·have:=hO.hf;simp [this] at h3
 ·have:=hO.ht;simp [this] at h4
 have h3:hasB fr.cut f=true:=by simpa using h3
 refine fun _=>aV (fun k:Nat=>⟨[(65,.i k),(64,.i arcs.length),(63,.ro 4 (arcs.map Arc.enc)),(9,.sl 2 0 N),(7,.ptr 1 0 0)],[.dead,frB fr,.arr 1 (oA N (fun j=>hasB fr.cut j))],0⟩) (fun k=>k≤arcs.length∧OkA arcs fr.flow fr.cut k) (fun k=>arcs.length-k) 0 ⟨by omega,⟨by simp⟩⟩ ?_ ?_
 ·simp -implicitDefEqProofs only [rX,↓reduceIte,Nat.reduceEqDiff,leE,leH,leB,leV,bA,aD,aB,wfE,wfB,wfV,wfL,bA,leV,yal,frB]
 rintro k ⟨hk,hv⟩
 simp -implicitDefEqProofs only [rX,↓rY,aA,cells?,splice,↓reduceIte,Nat.reduceEqDiff,cU,Nat.reduceAdd,aC,aQ,aU,leE,leH,leB,leV,bA,aD,aB,wfE,wfB,wfV,wfL,yac,enc_len,fB,oP,oO,sR,fO,cR,uF,yaa,frB,Ga,yA]
 simp only [br,decide_eq_true_eq,decide_eq_false_iff_not]
 refine ⟨fun h5=>?_,fun h2=>Ys ⟨hs,h3,h4,⟨fun j h _=>hv.h j h (by omega)⟩⟩⟩
 have hk1:k<arcs.length:=by omega
 have hk2:k<fr.flow.length:=by omega
 have hva:=hV.ha arcs[k] (yad hk1)
 have good:=hv.next hk1
 have bad:¬(_∧_)→false=cuB N arcs f t fr.flow fr.cut:=fun h=>Ht fun hO=>h (hO.ha.h k hk1 hk1)
 rw [bY hk2] at good bad
 have e3:((arcs[k].from_.toNat:Nat):Int)=arcs[k].from_:=by omega
 have e4:((arcs[k].to.toNat:Nat):Int)=arcs[k].to:=by omega
 simp only [e3,e4] at *
 generalize hasB fr.cut arcs[k].from_=x at *
 generalize hasB fr.cut arcs[k].to=y at *
 cases x<;>cases y<;>simp only [br,bne_iff_ne,bne_eq_false_iff_eq,lo,hi,maxLen,Bool.not_true,Bool.not_false,forall_const,yay,reduceCtorEq,false_implies,true_implies,and_true,true_and] at*<;>
  (repeat' (first|(refine ⟨(k+1:_),?_⟩)|(refine ⟨by omega,?_⟩)|(refine And.intro ?_ ?_)|(refine (fun _=>?_))))<;>first|omega|exact good ‹_›|exact bad ‹_›|exact good|(apply bad;simp;omega)|(apply good;simp;try omega)|(apply good;done)|trivial
theorem ajL (N:Nat) (arcs:List Arc) (f t am:Int) (fr:Fr) (hV:Val N arcs) (hf:0≤f∧f<N) (ht:0≤t∧t<N):Ok 69 [net N arcs,.i f,.i t,.i am,fr.enc] (Is (.i (accI N arcs f t am fr))):=by
 refine ok_of lw69 (by simp) ?_
 unfold c69 net Fr.enc li
 have hL:=hV.hl
 have hN:=hV.hn
 simp -implicitDefEqProofs only [rX,↓rY,aA,cells?,↓reduceIte,Nat.reduceEqDiff,Nat.reduceAdd,reduceCtorEq,aC,aQ,aU,wfV,cxN,aL]
 simp only [br,decide_eq_true_eq,decide_eq_false_iff_not]
 refine ⟨fun h=>rH fun hO=>by have:=hO.hs;omega,fun h0=>⟨fun h=>rH fun hO=>by have:=hO.hs;omega,fun h1=>?_⟩⟩
 refine aE (aiZ N arcs f t fr hV hf) (by simp [Fr.enc,net,li,aG,aK,aX,bQ,wkL,wk,wkR]) rfl trivial ?_
 cases hfl:Bo N arcs f t fr with
 | false =>
  simp -implicitDefEqProofs only [rX,↓rY,aA,↓reduceIte,Nat.reduceEqDiff,Nat.reduceAdd,aQ,aU,wfV]
  exact rH fun hO=>by rw [abM ⟨hO.fl,hO.hv,hO.ht⟩] at hfl;cases hfl
 | true =>
 have hfl:OkF N arcs f t fr.flow∧valTo arcs f fr.flow arcs.length=fr.sent∧d8 arcs fr.flow arcs.length=fr.cost:=by
  apply Classical.byContradiction
  intro h
  rw [Aj h] at hfl;cases hfl
 have hl:=hfl.1.hl
 simp -implicitDefEqProofs only [rX,↓rY,↓reduceIte,Nat.reduceEqDiff,Nat.reduceAdd,reduceCtorEq]
 refine aE (aiY N arcs f fr hV hf hl) (by simp [Fr.enc,net,li,aG,aK,aX,bQ,wkL,wk,wkR]) rfl trivial ?_
 cases hp:prB N arcs f fr.flow fr.price with
 | false =>
  simp -implicitDefEqProofs only [rX,↓rY,aA,↓reduceIte,Nat.reduceEqDiff,Nat.reduceAdd,aQ,aU,wfV]
  exact rH fun hO=>by have:=Yc hO.hp;rw [hp] at this;cases this
 | true =>
 have hp:OkP N arcs f fr.flow fr.price:=by
  apply Classical.byContradiction
  intro h
  have:=Gl h;rw [hp] at this;cases this
 simp -implicitDefEqProofs only [rX,↓rY,aA,↓reduceIte,Nat.reduceEqDiff,Nat.reduceAdd,reduceCtorEq,aQ,aU,wfV]
 simp only [br,beq_iff_eq,beq_eq_false_iff_ne,decide_eq_true_eq,decide_eq_false_iff_not]
 refine ⟨fun h4=>fun _=>⟨fun h5=>Ub ⟨hfl.1,by omega,hfl.2.1,hfl.2.2,hp,?_⟩,fun h5=>⟨fun h6=>by omega,fun h6=>rH fun hO=>?_⟩⟩,fun h4=>⟨fun h5=>?_,fun h5=>rH fun hO=>?_⟩⟩
 ·rw [if_pos h4]
  exact yaX.1 (by omega)
 ·have:=hO.hc
  rw [if_pos h4] at this
  rw [this] at h5
  simp at h5
 ·refine aE (aiX N arcs f t fr hV hf ht hl) (by simp [Fr.enc,net,li,aG,aK,aX,bQ,wkL,wk,wkR]) rfl trivial ?_
  cases hc:cuB N arcs f t fr.flow fr.cut with
  | false =>
   simp -implicitDefEqProofs only [rX,↓rY,aA,↓reduceIte,Nat.reduceEqDiff,Nat.reduceAdd,aQ,aU,wfV]
   exact rH fun hO=>by have h6:=hO.hc;rw [if_neg h4] at h6;have:=Ys h6;rw [hc] at this;cases this
  | true =>
  have hc:OkC N arcs f t fr.flow fr.cut:=by
   apply Classical.byContradiction
   intro h
   have:=Ht h;rw [hc] at this;cases this
  simp -implicitDefEqProofs only [rX,↓rY,aA,↓reduceIte,Nat.reduceEqDiff,Nat.reduceAdd,aQ,aU,wfV]
  exact Ub ⟨hfl.1,by omega,hfl.2.1,hfl.2.2,hp,by rw [if_neg h4];exact hc⟩
 ·have:=hO.hs;omega
end Go.Fx.P.K
namespace Go.Fx.P.K
open Go Go.Fx Go.Fx.E Go.Proofs
set_option maxRecDepth 20000
end Go.Fx.P.K
namespace Go.Fx.P.K
open Go Go.Fx Go.Fx.E Go.Proofs
set_option maxRecDepth 20000
def tU (p D:List Int) (t:Nat):Nat→List Int
 | 0=>p
 | k+1=>(tU p D t k).set k (p.getD k 0+min (D.getD k 0) (D.getD t 0))
theorem sG {p D:List Int} {t:Nat}:∀ {k:Nat},(tU p D t k).length=p.length
 | 0=>rfl
 | k+1=>by unfold tU;rw [yaw];exact sG
theorem yN {p D:List Int} {t:Nat} (j:Nat):∀ {k:Nat},k≤p.length→(tU p D t k).getD j 0=if j<k then p.getD j 0+min (D.getD j 0) (D.getD t 0) else p.getD j 0
 | 0,_=>by rw [if_neg (by omega)];rfl
 | k+1,hk=>by
  unfold tU
  rw [f9 (by rw [sG];omega)]
  by_cases e:j=k
  ·subst e;rw [if_pos rfl,if_pos (by omega)]
  ·rw [if_neg e,yN j (by omega)]
   by_cases e2:j<k
   ·rw [if_pos e2,if_pos (by omega)]
   ·rw [if_neg e2,if_neg (by omega)]
section
variable {N:Nat} {arcs:List Arc} {f t:Nat} {am:Int}
def hpS (N:Nat) (arcs:List Arc) (x p:List Int):List Blk :=
 [.var [.i N,.ro 4 (arcs.map Arc.enc)],.var [.i 0,.i 0,.nil,.nil,.nil],.arr 1 (x.map encI),.dead,.arv 1 (iJ arcs N),.arr 1 (p.map encI),wB N arcs.length arcs 2 4 5]
abbrev yQ (N:Nat) (arcs:List Arc) (f t:Nat) (am:Int) (g:Int × List Int × List Int):St :=
 ⟨[(12,.i g.1),(11,.ptr 6 0 0),(8,.ptr 1 0 0),(3,.i am),(2,.i t),(1,.i f)],hpS N arcs g.2.1 g.2.2,0⟩
def Tight (arcs:List Arc) (f:Nat) (am:Int) (fr:Fr):Prop:=fr.sent<am→∀ v∈fr.cut,v≠f→∃ i,rJ arcs fr.flow i∧(wdst arcs i:Int)=v∧(wsrc arcs i:Int)∈fr.cut
theorem Ot {N:Nat} {arcs:List Arc} {f:Nat} {am:Int} {x p:List Int} {sent c:Int} {hV:Val N arcs} {hf:f<N} {hn:NN arcs x (fun u=>p.getD u 0)} {D:List Int} (hD:Bg N (grD N arcs x (fun u=>p.getD u 0) f hV hf hn) D):Tight arcs f am ⟨sent,c,x,p,fH D N⟩:=by
 intro _ v hv hne
 obtain ⟨⟨h0,h1⟩,h2⟩:=oR.1 hv
 have hvt:((v.toNat:Nat):Int)=v:=yap h0
 rcases hD.lab.hw v.toNat (by show v.toNat<N;omega) with h3|⟨_,r,hr⟩
 ·exact absurd (show D.getD v.toNat 0=far from h3) (by omega)
 have hco:Lb.cs (grD N arcs x (fun u=>p.getD u 0) f hV hf hn) r=D.getD v.toNat 0:=hr.co
 cases r with
 | nil =>
  have:=hr.pr
  exact absurd (show v.toNat=f from this) (by omega)
 | cons i r =>
  obtain ⟨g1,g2,g3⟩:=hr.pr
  have g4:=hr.dm.2.head
  have g5:0≤dJ arcs (fun u=>p.getD u 0) i:=hn i g1
  have g6:(grD N arcs x (fun u=>p.getD u 0) f hV hf hn).c i=dJ arcs (fun u=>p.getD u 0) i:=rfl
  have g7:(grD N arcs x (fun u=>p.getD u 0) f hV hf hn).src i=wsrc arcs i:=rfl
  have g8:wdst arcs i=v.toNat:=g2
  simp only [Lb.cs,g6] at hco
  rw [g7] at g4
  have w:=xI hV g1.1
  refine ⟨i,g1,by omega,oR.2 ⟨⟨by omega,by have:=w.1;omega⟩,?_⟩⟩
  rw [yaa]
  have g9:D.getD (wsrc arcs i) 0≤Lb.cs (grD N arcs x (fun u=>p.getD u 0) f hV hf hn) r:=g4
  omega
def R13 (N:Nat) (arcs:List Arc) (f t:Nat) (am:Int) (r:V) (hs:List Blk):Prop:=∃ fr:Fr,((OkAc N arcs f t am fr∧Tight arcs f am fr)∧SI N arcs f t am fr.flow fr.price fr.sent)∧(∃ c tl,r=.tup [.agg [.i fr.sent,.i fr.cost,.sl 2 0 arcs.length,.sl 5 0 N,c],.i 0]∧hs=[.dead,.dead,.arr 1 (fr.flow.map encI),.dead,.dead,.arr 1 (fr.price.map encI)]++tl∧gvV (fun k=>decide (6≤k)) hs c=.ro 1 (fr.cut.map encI))∧wk (.tup [fr.enc,.i 0]) (gvV (fun _=>true) hs r)
theorem SI.init (hV:Val N arcs) (hf:f<N) (ht:t<N) (ham:0≤am):SI N arcs f t am (yab arcs.length 0) (yab N 0) 0:=by
 have hr:∀ (m k:Nat),(yab m (0:Int)).getD k 0=0:=by
  intro m k
  rw [yaf,yaM]
  split<;>rfl
 refine ⟨⟨by simp,fun k hk=>?_⟩,fun w=>?_,fun i hi=>?_,by simp,hr _ _,fun j=>?_,?_,⟨yae _,ham⟩⟩
 ·rw [hr]
  have:=hV.at hk
  omega
 ·rw [Uz,Uz]
  have:∀ k,valTo arcs w (yab arcs.length 0) k=0:=by
   intro k
   induction k with
   | zero=>rfl
   | succ k ih=>simp only [valTo,ih,hr];split<;>split<;>rfl
  rw [this];rfl
 ·obtain ⟨h1,h2⟩:=hi
  have:=hV.at h1
  unfold wrm at h2
  rw [hr] at h2
  unfold dJ e7
  simp only [hr]
  split at h2
  ·rename_i h0
   rw [if_pos h0];omega
  ·omega
 ·simp only [hr];omega
 ·rw [hr]
  have:=hV.hn
  exact Int.mul_nonneg (by omega) (by omega)
theorem tF {l:List Int} {n:Nat} (h:l.length=n):yaj n (l.map encI)=l.map encI:=yao (by simp [h])
theorem Dx {l:List Int}:yaj l.length (l.map encI)=l.map encI:=tF rfl
theorem afH (hV:Val N arcs) (hN:N≤64) (hf:f<N) (ht:t<N) (ham:0≤am∧am≤2199023255552) {x p:List Int} {sent:Int} (hlt:sent<am) (hS:SI N arcs f t am x p sent) (hR:Reach arcs x p f t) {X:Nat→St→Prop} {RR:St→Prop} {s:St}
  (hX:∀ (x':List Int) (s':Int),SI N arcs f t am x' p s'→sent<s'→∀ e b,leS [] ⟨e,hpS N arcs x' p,b⟩ (yQ N arcs f t am (s',x',p))→X 4 ⟨e,hpS N arcs x' p,b⟩)
  (hs:leS [] s ⟨[(15,.i 1),(12,.i sent),(11,.ptr 6 0 0),(8,.ptr 1 0 0),(3,.i am),(2,.i t),(1,.i f)],hpS N arcs x p,0⟩) :
  y0 [] (fun NX=>aw (cxN Tryz.prog []) c66l2 NX X RR) s:=by
 refine aV (fun g:Int × Int × List Int=>(⟨[(15,.i g.1),(12,.i g.2.1),(11,.ptr 6 0 0),(8,.ptr 1 0 0),(3,.i am),(2,.i t),(1,.i f)],hpS N arcs g.2.2 p,0⟩:St))
  (fun g=>SI N arcs f t am g.2.2 p g.2.1∧0≤g.1∧((g.1=1∧g.2.1=sent∧Reach arcs g.2.2 p f t)∨sent<g.2.1)) (fun g=>2*(am-g.2.1).toNat+(if 0<g.1 then 1 else 0)) (1,sent,x) ⟨hS,by omega,.inl ⟨rfl,rfl,hR⟩⟩ hs ?_
 rintro ⟨more,s1,x1⟩ ⟨hS1,hm0,hcase⟩
 simp only at hS1 hm0 hcase ⊢
 have hxl:=hS1.xb.hl
 have hW:=hS1.wok hV hN
 have hs0:=hS1.s0
 unfold c66l2 hpS wB
 by_cases hgo:0<more∧s1<am
 ·have hd1:decide (0<more)=true:=decide_eq_true hgo.1
  have hd2:decide (s1<am)=true:=decide_eq_true hgo.2
  simp -implicitDefEqProofs only [rX,↓rY,aA,↓reduceIte,Nat.reduceEqDiff,Nat.reduceAdd,cxN,hd1,hd2]
  refine ⟨by simp only [lo,hi];omega,?_⟩
  have h30:=ajA hV hW ht x1 f (am-s1) hS1.xb hf ⟨by omega,by omega⟩
  refine eQ (FQ arcs x1 (fun u=>p.getD u 0) t (yab N false) f (am-s1)) [6,2,4,5] [] [] [.ptr 0 0 0,.i f,.i t,.i (am-s1)] (fun g=>.i g.1) (wH N arcs x1 p) (fun g=>wH N arcs g.2.1 p) h30 (by simp) (by simp) (by simp [wH,wB,blk,cB,cK,ren,pos,cH,hxl]) (by simp [aG,aK,aX,bQ,wkL,wk,pos]) fun g hg=>⟨by simp [aD],?_⟩
  obtain ⟨n,x2,d2⟩:=g
  obtain ⟨q1,q2,q3⟩:=hS1.fill hf hg
  have hx2:x2.length=arcs.length:=q1.xb.hl
  have q4:=q1.s0
  simp -implicitDefEqProofs only [rX,↓rY,↓reduceIte,Nat.reduceEqDiff,Nat.reduceAdd,leE,leH,leB,leV,bA,aD,aB,wfE,wfB,wfV,wfL,bN,bE,kill,bO,St.kill,wH,wB,bH,cB,cK,ren,cH,fS,back,hx2,Nat.reduceAdd]
  refine ⟨by simp only [lo,hi];omega,(n,s1+n,x2),⟨⟨q1,q2,?_⟩,?_⟩,?_⟩
  ·right
   simp only
   rcases hcase with ⟨c1,c2,c3⟩|c
   ·have:=q3 c3 hgo.2
    omega
   ·omega
  ·simp only
   rw [if_pos hgo.1]
   split<;>omega
  ·simp -implicitDefEqProofs only [rX,bW]
 ·have hs1:sent<s1:=by
   rcases hcase with ⟨c1,c2,c3⟩|c
   ·exact absurd ⟨by omega,by omega⟩ hgo
   ·exact c
  have hx:=hX x1 s1 hS1 hs1
  unfold yQ hpS wB at hx
  by_cases h1:0<more
  ·have hd1:decide (0<more)=true:=decide_eq_true h1
   have hd2:decide (s1<am)=false:=decide_eq_false (fun h2=>hgo ⟨h1,h2⟩)
   simp -implicitDefEqProofs only [rX,↓rY,aA,↓reduceIte,Nat.reduceEqDiff,Nat.reduceAdd,cxN,hd1,hd2]
   refine hx _ _ ?_
   simp -implicitDefEqProofs only [rX,↓reduceIte,Nat.reduceEqDiff,leE,leH,leB,leV,bA,aD,aB,wfE,wfB,wfV,wfL,bW]
  ·have hd1:decide (0<more)=false:=decide_eq_false h1
   simp -implicitDefEqProofs only [rX,↓rY,aA,↓reduceIte,Nat.reduceEqDiff,Nat.reduceAdd,cxN,hd1]
   refine hx _ _ ?_
   simp -implicitDefEqProofs only [rX,↓reduceIte,Nat.reduceEqDiff,leE,leH,leB,leV,bA,aD,aB,wfE,wfB,wfV,wfL,bW]
theorem acE (hV:Val N arcs) (hN:N≤64) (hf:f<N) (ht:t<N) (hft:f≠t) (hal:arcs.length≤100) (ham:0≤am∧am≤2199023255552) {X:Nat→St→Prop}
  (hX:∀ g:Int × List Int × List Int,SI N arcs f t am g.2.1 g.2.2 g.1→g.1=am→∀ e b,get e 11=.ptr 6 0 0→get e 12=.i am→get e 8=.ptr 1 0 0→X 0 ⟨e,hpS N arcs g.2.1 g.2.2,b⟩)
  (g:Int × List Int × List Int) (hg:SI N arcs f t am g.2.1 g.2.2 g.1) :
  aw (cxN Tryz.prog []) c66l0 (fun s'=>∃ g':Int × List Int × List Int,(SI N arcs f t am g'.2.1 g'.2.2 g'.1∧(am-g'.1).toNat<(am-g.1).toNat)∧leS [] s' (yQ N arcs f t am g')) X (eZ [] 0 [.cell 8 (some 5),.tmp 9] (R13 N arcs f t am)) (yQ N arcs f t am g):=by
 obtain ⟨sent,x,p⟩:=g
 simp only at hg
 have hxl:=hg.xb.hl
 have hW:=hg.wok hV hN
 have hWx:=hW x hg.xb
 have hs0:=hg.s0
 unfold c66l0 yQ hpS wB
 rcases (by omega:sent<am∨am≤sent) with h|h
 ·have hd:decide (sent<am)=true:=decide_eq_true h
  simp -implicitDefEqProofs only [rX,↓rY,↓reduceIte,Nat.reduceEqDiff,Nat.reduceAdd,cxN,hd]
  have h28:=ajB (hs:=hf) hWx hg.nn (fun j=>hg.xb.bd hV j)
  refine eQ (Bg N (grD N arcs x (fun u=>p.getD u 0) f hWx.hV hf hg.nn)) [6,2,4,5] [] [] [.ptr 0 0 0,.i f] (fun _=>.sl 7 0 N) (wH N arcs x p) (fun D:List Int=>wH N arcs x p++[Blk.dead,Blk.dead,Blk.dead,Blk.arr 1 (D.map encI)]) h28 (by simp) (by simp) (by simp [wH,wB,blk,cB,cK,ren,pos,cH,hxl]) (by simp [aG,aK,aX,bQ,wkL,wk,pos]) fun D hD=>⟨by simp [aD,aB,wH,wB,bH,cB,bE],?_⟩
  simp -implicitDefEqProofs only [rX,↓rY,aA,↓reduceIte,Nat.reduceEqDiff,cU,Nat.reduceAdd,bN,bE,kill,bO,St.kill,yac,cR,yaa,wH,wB,bH,cB,cK,ren,cH,fS,back,hxl,List.getElem?_nil,Nat.reduceSub,Nat.reduceAdd]
  have hDl:=hD.len
  have hDt:D.getD t 0=D[t]'(by omega):=bY (by omega)
  refine ⟨⟨by omega,by omega⟩,by omega,?_⟩
  simp only [br,beq_iff_eq,beq_eq_false_iff_ne]
  refine ⟨fun hfar=>?_,fun hfar=>?_⟩
  ·have h29:=adX hWx hg.xb sent D (by omega)
   rw [hDl] at h29
   have hok:=hg.cut hV hN hf ht hft h hD (by rw [hDt];exact hfar)
   generalize hT:d8 arcs x arcs.length=tot at *
   refine dC [6,2,4,5] [.ptr 0 0 0,.i sent,.bro 1 (D.map encI)] (.agg [.i sent,.i tot,.sl 1 0 x.length,.sl 3 0 N,.sl 6 0 (fH D N).length]) (.agg [.i sent,.i tot,.sl 2 0 x.length,.sl 5 0 N,.sl 13 0 (fH D N).length]) (wH N arcs x p) (wH N arcs x p++[Blk.dead,Blk.dead,Blk.arr 1 ((fH D N).map encI)]) _ h29 (by simp) (by simp [wH,wB,blk,cB,cK,ren,pos,cH,hxl]) (by simp [aG,aK,aX,bQ,wkL,wk,wkR,wkB,blk,pos,hDl,tF]) (by simp [wH]) rfl (by simp [ren,cK,back]) (by simp [aD]) ?_
   simp -implicitDefEqProofs only [rX,↓rY,aA,cells?,splice,↓reduceIte,Nat.reduceEqDiff,Nat.reduceAdd,isC,wH,wB,bH,cB,cK,ren,cH,back,hxl,Nat.reduceAdd]
   rw [fN]
   simp -implicitDefEqProofs only [rX,↓rY,↓reduceIte,Nat.reduceEqDiff,Nat.reduceAdd,aQ,aU,aD,aB,wfV,wfL]
   refine ⟨[.dead,.dead,.arr 1 (x.map encI),.dead,.dead,.arr 1 (p.map encI),.dead,.dead,.dead,.dead,.dead,.dead,.dead,.arr 1 ((fH D N).map encI)],⟨by simp [leH,leB],by simp [wfV,wfL,aB],by simp [wfB]⟩,_,⟨⟨hok,Ot hD⟩,hg⟩,⟨_,[.dead,.dead,.dead,.dead,.dead,.dead,.dead,.arr 1 ((fH D N).map encI)],rfl,rfl,by simp [gvV,blk,Dx]⟩,?_⟩
   have e1:yaj arcs.length (x.map encI)=x.map encI:=tF hxl
   have e2:yaj N (p.map encI)=p.map encI:=tF hg.pl
   have hpl:=hg.pl
   simp [gvV,gvL,wk,wkL,wkR,blk,Fr.enc,li,e1,e2,Dx,hxl,hpl]
  ·have hp13:=hg.price hV hf ht hD hN (by rw [hDt];exact hfar) (p':=tU p D t N) (sG.trans hg.pl) (fun k hk=>by rw [yN k (by rw [hg.pl];exact yan _),if_pos hk])
   have hpl:=hg.pl
   intro _
   refine aV (fun k:Nat=>(⟨[(55,.i k),(54,.i N),(13,.sl 10 0 N),(12,.i sent),(11,.ptr 6 0 0),(8,.ptr 1 0 0),(3,.i am),(2,.i t),(1,.i f)],hpS N arcs x (tU p D t k)++[.dead,.dead,.dead,.arr 1 (D.map encI)],0⟩:St)) (fun k=>k≤N) (fun k=>N-k) 0 (yak _) ?_ fun k hk=>?_
   ·unfold hpS wB
    simp -implicitDefEqProofs only [rX,↓reduceIte,Nat.reduceEqDiff,leE,leH,leB,leV,bA,aD,aB,wfE,wfB,wfV,wfL,bW,yal,tU]
   unfold c66l1 hpS wB
   rcases yam k N with hkN|hkN
   ·have hd2:decide ((k:Int)<N)=true:=decide_eq_true (by omega)
    simp -implicitDefEqProofs only [rX,↓rY,aA,cells?,splice,↓reduceIte,Nat.reduceEqDiff,cU,Nat.reduceAdd,leE,leH,leB,leV,bA,aD,aB,wfE,wfB,wfV,wfL,isD,isC,yac,cR,yaa,fG,hd2]
    have hml:(tU p D t k).length=N:=sG.trans hpl
    have hmk:(tU p D t k)[k]'(by omega)=p.getD k 0:=by
     rw [←bY (by omega),yN k (by omega),if_neg (Nat.lt_irrefl _)]
    have hDk:D.getD k 0=D[k]'(by omega):=bY (by omega)
    have hpb:=hWx.hb k
    have hKBv:KB=67711795200:=rfl
    have hbk:=y7 (hV:=hWx.hV) (hs:=hf) (hn:=hg.nn) hN (fun j=>hWx.hb j) hD.lab hkN
    have hbt:=y7 (hV:=hWx.hV) (hs:=hf) (hn:=hg.nn) hN (fun j=>hWx.hb j) hD.lab ht
    have hfv:far=4611686018427387904:=rfl
    have hm1:min D[k] D[t]≤67711795200:=by
     refine yaC (yax _ _) ?_
     rcases hbt.2 with e|e
     ·exact absurd (hDt.symm.trans e) hfar
     ·rw [hDt] at e;omega
    have hm2:0≤min D[k] D[t]:=by
     rw [hDk] at hbk
     rw [hDt] at hbt
     exact Int.le_min.2 ⟨hbk.1,hbt.1⟩
    have hms:tU p D t (k+1)=(tU p D t k).set k (p.getD k 0+min D[k] D[t]):=by rw [←hDk,←hDt];rfl
    simp only [hmk]
    refine ⟨⟨by omega,by omega⟩,by rw [hml];exact hkN,⟨by omega,by omega⟩,by omega,⟨by omega,by omega⟩,by omega,by simp only [lo,hi];omega,⟨by omega,by omega⟩,by rw [hml];exact hkN,by simp only [lo,hi];omega,k+1,⟨by omega,by omega⟩,by simp,?_,v6⟩
    rw [hms,←mE]
   ·have hd2:decide ((k:Int)<N)=false:=decide_eq_false (by omega)
    have:k=N:=by omega
    subst this
    simp -implicitDefEqProofs only [rX,↓rY,aA,↓reduceIte,Nat.reduceEqDiff,Nat.reduceAdd,hd2]
    obtain ⟨hS1,hR1⟩:=hp13
    generalize tU p D t k=p1 at *
    refine afH hV hN hf ht ham h hS1 hR1 (fun x' s' h1 h2 e b h3=>?_) ?_
    ·simp only [if_pos]
     exact ⟨(s',x',p1),⟨h1,by simp only;have:=h1.s0;omega⟩,h3⟩
    ·unfold hpS wB
     simp -implicitDefEqProofs only [rX,↓reduceIte,Nat.reduceEqDiff,leE,leH,leB,leV,bA,aD,aB,wfE,wfB,wfV,wfL,bW]
 ·have hd:decide (sent<am)=false:=decide_eq_false (by omega)
  simp -implicitDefEqProofs only [rX,↓rY,↓reduceIte,Nat.reduceEqDiff,Nat.reduceAdd,cxN,hd]
  have he:sent=am:=by omega
  subst he
  exact hX (sent,x,p) hg rfl _ _ rfl rfl rfl
theorem adT (hV:Val N arcs) (hN:N≤64) (hf:f<N) (ht:t<N) (hft:f≠t) (hal:arcs.length≤100) (ham:0≤am∧am≤2199023255552) (htask:Fw N f t am=true) :
  Ok 66 [net N arcs,.i f,.i t,.i am] (R13 N arcs f t am):=by
 refine ok_of lw66 (by simp) ?_
 unfold c66 net
 simp -implicitDefEqProofs only [rX,↓rY,aA,cells?,↓reduceIte,Nat.reduceEqDiff,Nat.reduceAdd,aC,cxN,aL]
 refine aE (ajE N arcs) (by simp [net,aG,aK,aX,bQ,wkL,wk,wkR]) rfl trivial ?_
 simp -implicitDefEqProofs only [rX,↓rY,aA,cells?,splice,↓reduceIte,Nat.reduceEqDiff,Nat.reduceAdd,reduceCtorEq,bU,isC,hV.chk,bne_self_eq_false]
 refine aE (ajD N arcs f t am) (by simp [net,aG,aK,aX,bQ,wkL,wk,wkR]) rfl trivial ?_
 simp -implicitDefEqProofs only [rX,↓rY,rdK,↓reduceIte,Nat.reduceEqDiff,Nat.reduceAdd,aC,yaa,htask]
 intro _
 refine ⟨⟨⟨by omega,by omega⟩,by omega,by omega⟩,?_⟩
 have hx0:(yab arcs.length (0:Int)).length=arcs.length:=by simp
 have h27:=ajC N arcs (yab arcs.length 0) hV
 rw [hx0] at h27
 have e0:yab arcs.length [V.i 0]=(yab arcs.length (0:Int)).map encI:=by simp [encI]
 refine dC [2] [net N arcs,.sl 0 0 arcs.length] (.ptr 4 0 0) (.ptr 6 0 0) [.arr 1 ((yab arcs.length (0:Int)).map encI)] [.arr 1 ((yab arcs.length (0:Int)).map encI),Blk.dead,.arv 1 (iJ arcs N),.arr 1 (yab N (encI 0)),wB N arcs.length arcs 0 2 3] _ h27 (by simp) (by simp [blk,cB,cK,ren,pos,encI]) (by simp [net,aG,aK,aX,bQ,wkL,wk,wkR,pos]) (by simp) rfl (by simp [ren,cK,back]) (by simp [aD]) ?_
 rw [Gf]
 simp -implicitDefEqProofs only [rX,aA,↓reduceIte,Nat.reduceAdd,wB,bH,cB,cK,ren,cH,back,List.getElem?_nil,Nat.reduceSub,Nat.reduceAdd]
 refine aV (yQ N arcs f t am) (fun g=>SI N arcs f t am g.2.1 g.2.2 g.1) (fun g=>(am-g.1).toNat) (0,yab arcs.length 0,yab N 0) (SI.init hV hf ht ham.1) ?_ (acE hV hN hf ht hft hal ham ?_)
 ·unfold yQ hpS wB
  simp -implicitDefEqProofs only [rX,↓reduceIte,Nat.reduceEqDiff,reduceCtorEq,leE,leH,leB,leV,bA,aD,aB,wfE,wfB,wfV,wfL,bW]
 ·rintro ⟨sent,x,p⟩ hS he e b g1 g2 g3
  simp only at hS he
  subst he
  have hWx:=hS.wok hV hN x hS.xb
  have hxl:=hS.xb.hl
  have hpl:=hS.pl
  have h29:=adX hWx hS.xb sent [] (yak _)
  have hok:=hS.all hV hN hf ht hft rfl
  generalize hT:d8 arcs x arcs.length=tot at *
  unfold hpS wB
  simp -implicitDefEqProofs only [rX,aA,↓reduceIte,Nat.reduceEqDiff,Nat.reduceAdd,g1,g2]
  refine dC [6,2,4,5] [.ptr 0 0 0,.i sent,.bro 1 []] (.agg [.i sent,.i tot,.sl 1 0 x.length,.sl 3 0 N,.sl 6 0 0]) (.agg [.i sent,.i tot,.sl 2 0 x.length,.sl 5 0 N,.sl 9 0 0]) (wH N arcs x p) (wH N arcs x p++[Blk.dead,Blk.dead,Blk.arr 1 []]) _ h29 (by simp) (by simp [wH,wB,blk,cB,cK,ren,pos,cH,hxl]) (by simp [aG,aK,aX,bQ,wkL,wk,wkR,wkB,blk,pos]) (by simp [wH]) rfl (by simp [ren,cK,back]) (by simp [aD]) ?_
  simp -implicitDefEqProofs only [rX,↓rY,aA,cells?,splice,↓reduceIte,Nat.reduceEqDiff,Nat.reduceAdd,isC,wH,wB,bH,cB,cK,ren,cH,back,hxl,g3,Nat.reduceAdd]
  rw [fN]
  simp -implicitDefEqProofs only [rX,↓rY,↓reduceIte,Nat.reduceEqDiff,Nat.reduceAdd,aQ,aU,aD,aB,wfV,wfL,g3]
  refine ⟨[.dead,.dead,.arr 1 (x.map encI),.dead,.dead,.arr 1 (p.map encI),.dead,.dead,.dead,.arr 1 []],⟨by simp [leH,leB],by simp [wfV,wfL,aB],by simp [wfB]⟩,_,⟨⟨hok,fun h=>absurd h (yaH _)⟩,hS⟩,⟨_,[.dead,.dead,.dead,.arr 1 []],rfl,rfl,by simp [gvV,blk]⟩,?_⟩
  have e1:yaj arcs.length (x.map encI)=x.map encI:=tF hxl
  have e2:yaj N (p.map encI)=p.map encI:=tF hpl
  simp [gvV,gvL,wk,wkL,wkR,blk,Fr.enc,li,e1,e2,Dx,hxl,hpl]
theorem ajO (hV:Val N arcs) (hN:N≤64) (hf:f<N) (ht:t<N) (hft:f≠t) (hal:arcs.length≤100) (ham:0≤am∧am≤2199023255552) (htask:Fw N f t am=true) :
  Ok 66 [net N arcs,.i f,.i t,.i am] (IsQ (fun fr=>OkAc N arcs f t am fr∧Tight arcs f am fr) (fun fr=>.tup [fr.enc,.i 0]) (fun _=>[])):=by
 refine ⟨iS lw66,Uk (R:=R13 N arcs f t am) ?_ fun r hs ⟨fr,h1,_,h2⟩=>⟨_,h2,fr,h1.1,rfl,rfl⟩⟩
 exact (adT hV hN hf ht hft hal ham htask).2
end
end Go.Fx.P.K
namespace Go.Fx.P
open Go Go.Fx Go.Fx.E Go.Proofs
set_option maxRecDepth 20000
theorem Xa {ps:List aF} {rs:List Road} (hc:fQ ps rs=0) (h1:ps.length≤10) (h2:rs.length≤25):nN ps≤64∧(bJ ps rs).length≤100:=by
 have:=w4 (ps:=ps) (l:=rs)
 simp only [nN,bJ];omega
theorem aeH (ps:List aF) (rs:List Road) (h:agY ps rs):Ok 29 [bD ps rs] (IsQ (fun fr=>cF ps rs fr∧K.Tight (bJ ps rs) 0 (dem ps) fr) (fun fr=>.tup [fr.enc,.i 0]) (fun _=>[])):=by
 obtain ⟨hc,hl,hr⟩:=h
 obtain ⟨⟨_,_⟩,hcap,hv⟩:=eG hc
 have hV:=v8 hc
 have hb:=Xa hc hl hr
 have hd:0≤dem ps∧dem ps≤10737418240:=by
  have h1:=xP hcap (ofN ps 1 ps.length)
  have h2:=fF (ps:=ps) (kind:=1) (n:=ps.length)
  unfold dem
  omega
 have ht:K.Fw (nN ps) (0:Nat) (1:Nat) (dem ps)=true:=by
  have e:((nN ps:Nat):Int)=2+2*ps.length:=by simp [nN]
  refine decide_eq_true ⟨⟨by omega,by omega⟩,⟨by omega,by omega⟩,by omega,hd.1,by omega⟩
 have e46:=K.ajO (f:=0) (t:=1) (am:=dem ps) hV hb.1 (by simp only [nN];omega) (by simp only [nN];omega) (by omega) hb.2 ⟨hd.1,by omega⟩ ht
 refine ok_of lw29 (by simp) ?_
 unfold c29 bD sps rds
 simp -implicitDefEqProofs only [rX,↓rY,aA,cells?,↓reduceIte,Nat.reduceEqDiff,Nat.reduceAdd,aC,cxN,aL]
 refine aE (adZ ps rs) (by simp [bD,sps,rds,aG,aK,aX,bQ,wkL,wk,wkR]) rfl trivial ?_
 simp -implicitDefEqProofs only [rX,↓rY,rdK,aA,cells?,splice,↓reduceIte,Nat.reduceEqDiff,Nat.reduceAdd,bU,isC,hc,bne_self_eq_false]
 refine aE (aaN ps rs (by omega) (by omega) hv) (by simp [bD,sps,rds,aG,aK,aX,bQ,wkL,wk,wkR]) rfl trivial ?_
 simp -implicitDefEqProofs only [rX,↓reduceIte,Nat.reduceEqDiff]
 refine aE (aaL ps rs (by omega) hcap) (by simp [bD,sps,rds,aG,aK,aX,bQ,wkL,wk,wkR]) rfl trivial ?_
 simp -implicitDefEqProofs only [rX,aA,↓reduceIte,Nat.reduceEqDiff]
 rw [Md]
 refine eQ (fun fr=>K.OkAc (nN ps) (bJ ps rs) 0 1 (dem ps) fr∧K.Tight (bJ ps rs) 0 (dem ps) fr) [] [] [] [net (nN ps) (bJ ps rs),.i 0,.i 1,.i (dem ps)] (fun fr=>.tup [fr.enc,.i 0]) [] (fun _=>[]) e46 ⟨by simp,by simp⟩ ⟨rfl,by simp⟩ rfl (by simp [net,aG,aK,aX,bQ,wkL,wk,wkR]) fun fr hfr=>⟨trivial,?_⟩
 simp -implicitDefEqProofs only [rX,↓rY,cells?,splice,↓reduceIte,Nat.reduceEqDiff,Nat.reduceAdd,bN,bE,kill,bO,St.kill,isC,Fr.enc,li,bH,ren,cK]
 refine dV (Q:=fun fr=>cF ps rs fr∧K.Tight (bJ ps rs) 0 (dem ps) fr) fr ⟨⟨hc,⟨hl,hr⟩,hfr.1⟩,hfr.2⟩ ?_
 simp -implicitDefEqProofs only [rX,↓rY,↓reduceIte,Nat.reduceEqDiff,Nat.reduceAdd,aQ,aU,leH,aD,wfB,wfV,wfL]
open Classical in
noncomputable def sZ (ps:List aF) (rs:List Road) (fr:Fr):Int:=if fQ ps rs≠0 then fQ ps rs else K.accI (nN ps) (bJ ps rs) 0 1 (dem ps) fr
theorem aeE (ps:List aF) (rs:List Road) (fr:Fr):Ok 38 [bD ps rs,fr.enc] (Is (.i (sZ ps rs fr))):=by
 refine ok_of lw38 (by simp) ?_
 unfold c38 bD sps rds Fr.enc li
 simp -implicitDefEqProofs only [rX,↓rY,aA,cells?,↓reduceIte,Nat.reduceEqDiff,Nat.reduceAdd,reduceCtorEq,aC,cxN,aL]
 refine aE (adZ ps rs) (by simp [bD,sps,rds,aG,aK,aX,bQ,wkL,wk,wkR]) rfl trivial ?_
 by_cases hc:fQ ps rs=0
 ·obtain ⟨⟨hl,hr⟩,hcap,hv⟩:=eG hc
  have hV:=v8 hc
  have e:((nN ps:Nat):Int)=2+2*ps.length:=by simp [nN]
  simp -implicitDefEqProofs only [rX,↓rY,rdK,aA,↓reduceIte,Nat.reduceEqDiff,Nat.reduceAdd,aQ,aU,wfV,hc,bne_self_eq_false]
  refine aE (aaN ps rs hl hr hv) (by simp [bD,sps,rds,aG,aK,aX,bQ,wkL,wk,wkR]) rfl trivial ?_
  simp -implicitDefEqProofs only [rX,↓reduceIte,Nat.reduceEqDiff]
  refine aE (aaL ps rs hl hcap) (by simp [bD,sps,rds,aG,aK,aX,bQ,wkL,wk,wkR]) rfl trivial ?_
  simp -implicitDefEqProofs only [rX,aA,↓reduceIte,Nat.reduceEqDiff]
  rw [Md]
  refine aE (K.ajL (nN ps) (bJ ps rs) 0 1 (dem ps) fr hV (by omega) (by omega)) (by simp [net,Fr.enc,li,aG,aK,aX,bQ,wkL,wk,wkR]) rfl trivial ?_
  simp -implicitDefEqProofs only [rX,↓reduceIte,aQ,aU,wfV,sZ,hc]
  simp
 ·have hb:(fQ ps rs != 0)=true:=by simpa using hc
  simp -implicitDefEqProofs only [rX,↓rY,rdK,aA,↓reduceIte,Nat.reduceEqDiff,Nat.reduceAdd,aQ,aU,wfV,hb]
  rw [sZ,if_pos hc]
theorem cF.acc0 {ps:List aF} {rs:List Road} {fr:Fr} (h:cF ps rs fr):sZ ps rs fr=0:=by
 rw [sZ,if_neg (by simp [h.chk]),K.accI,if_pos h.acc]
end Go.Fx.P
namespace Go.Fx.E
open Go Go.Fx Go.Proofs
set_option maxRecDepth 20000
structure Rf where
 place:Int
 n:Int
 win:Int
 sent:Int
 cut:List Int
 lo:Int
 hi:Int
 serial:Int
 sg:Bs
def Rf.enc (r:Rf):List V:=.i r.place::.i r.n::.i r.win::.i r.sent::P.li r.cut::.i r.lo::.i r.hi::.i r.serial::us r.sg
def partsOf (r:Rf):List Bs:=[lB [r.place,r.n,r.win,r.sent,r.lo,r.hi,r.serial],lB r.cut]
structure Rf.Ok (r:Rf):Prop where
 n7:In64 [r.place,r.n,r.win,r.sent,r.lo,r.hi,r.serial]
 cut:In64 r.cut
 len:r.cut.length≤1000000
theorem Hz {cx:Cx} {f:FuncId} {args:List V} {e:Env} {h:List Blk} {b:Nat} {K:V→St→Prop} {xs:List V} {n:Nat} {els:List (List V)} (hC:cx.C f xs [] [] (IsA (.sl 0 0 n) [.arr 1 els])) (h1:aG h (fun _=>none) args∧wkL xs (aX h (fun _=>none) args))
  (keep:aD cx.fx (h++[.arr 1 els])) (h3:K (.sl h.length 0 n) ⟨e,h++[.arr 1 els],b⟩):lE cx f args ⟨e,h,b⟩ K :=
 fC xs _ _ _ _ hC h1 rfl rfl keep h3
theorem Ia {l:Bs} {n:Nat} (h:n=l.length):yaj n (l.map by1)=l.map by1:=yao (by rw [yau,h];exact yan _)
set_option maxHeartbeats 2000000 in
theorem aeC (r:Rf) (hr:r.Ok):Ok 41 [.agg r.enc] (Is (rS (partsOf r))):=by
 refine tX (ok_of lw41 (by simp) ?_)
 unfold c41 Rf.enc
 have o7:=adY [r.place,r.n,r.win,r.sent,r.lo,r.hi,r.serial] hr.n7 (by simp)
 have oc:=adY r.cut hr.cut (by have:=hr.len;omega)
 have t7:=Ia (l:=lB [r.place,r.n,r.win,r.sent,r.lo,r.hi,r.serial]) rfl
 have tc:=Ia (l:=lB r.cut) rfl
 simp -implicitDefEqProofs only [rX,↓rY,rdK,aA,cells?,↓reduceIte,Nat.reduceEqDiff,Nat.reduceAdd,aC,cG,isD,Nat.reduceLT,aJ,aL]
 have fin:∀ (e:Env) (h:List Blk) (b:Nat),get e 2=.sl 2 0 2→h[2]?=some (.arr 1 [[V.v (Value.string (sb (lB [r.place,r.n,r.win,r.sent,r.lo,r.hi,r.serial])))],[V.v (Value.string (sb (lB r.cut)))]])→eZ [] 0 [iF.tmp 2] (Gv (rS (partsOf r))) ⟨e,h,b⟩ :=
  fun e h b h1 h2=>Jk h1 h2 rfl
 repeat' first
  | exact fin _ _ _ rfl rfl
  | (exact Or.inr trivial)
  | refine And.intro ?_ ?_
  | (refine Hz o7 ⟨⟨yan 7,trivial⟩,⟨rfl,rfl⟩,trivial⟩ trivial ?_
     simp -implicitDefEqProofs only [rX,↓rY,↓reduceIte,Nat.reduceEqDiff,Nat.reduceAdd,aJ,t7,i3,Cg])
  | (refine Hz oc ⟨⟨trivial,trivial⟩,⟨rfl,rfl⟩,trivial⟩ trivial ?_
     simp -implicitDefEqProofs only [rX,↓rY,cells?,↓reduceIte,Nat.reduceEqDiff,Nat.reduceAdd,aC,cG,isD,Nat.reduceLT,aJ,t7,tc,i3,Cg])
set_option maxRecDepth 20000
def KyP (k:Ky):Prop:=(1≤k.party∧k.party≤1073741824)∧(1≤k.serial∧k.serial≤1073741824)∧(1≤k.sec.length∧k.sec.length≤64)∧0≤k.fr∧k.fr<k.to∧k.to≤1099511627776
instance (k:Ky):Decidable (KyP k):=by unfold KyP;infer_instance
def kyB (k:Ky):Bool:=decide (KyP k)
theorem Eg {p:Prop} [Decidable p] {t:Bool} (h:t=true↔p):t=decide p:=by rw [yaR,h];simp
theorem ajX (k:Ky):Ok 35 [.agg k.enc] (Is (.b (kyB k))):=by
 refine ok_of lw35 (by simp) ?_
 unfold c35 Ky.enc
 simp -implicitDefEqProofs only [rX,↓rY,aA,cells?,↓reduceIte,Nat.reduceEqDiff,aC,aQ,aU,wfV,mT,aL]
 simp only [br,decide_eq_true_eq,decide_eq_false_iff_not,beq_iff_eq,beq_eq_false_iff_ne]
 have e:∀ t:Bool,(t=true↔KyP k)→t=kyB k:=fun t=>Eg
 simp only [KyP] at e
 repeat' (first|(refine ⟨(0:_),?_⟩)|(refine ⟨by omega,?_⟩)|(refine And.intro ?_ ?_)|(refine (fun _=>?_)))
 all_goals (apply e;first|omega|(simp only [yay,false_iff,decide_eq_true_eq];omega))
def PeP (a b:Int):Prop:=0≤a∧a≤b∧b≤1099511627776
instance (a b:Int):Decidable (PeP a b):=by unfold PeP;infer_instance
def peB (a b:Int):Bool:=decide (PeP a b)
theorem ajW (a b:Int):Ok 36 [.agg [.i a,.i b]] (Is (.b (peB a b))):=by
 refine ok_of lw36 (by simp) ?_
 unfold c36
 simp -implicitDefEqProofs only [rX,↓rY,aA,cells?,↓reduceIte,Nat.reduceEqDiff,aC,aQ,aU,wfV,aL]
 simp only [br,decide_eq_true_eq,decide_eq_false_iff_not,beq_iff_eq,beq_eq_false_iff_ne]
 have e:∀ t:Bool,(t=true↔PeP a b)→t=peB a b:=fun t=>Eg
 simp only [PeP] at e
 repeat' (first|(refine ⟨(0:_),?_⟩)|(refine ⟨by omega,?_⟩)|(refine And.intro ?_ ?_)|(refine (fun _=>?_)))
 all_goals (apply e;first|omega|(simp only [yay,false_iff,decide_eq_true_eq];omega))
def pE (a:Int):Bool:=decide (0≤a∧a≤1099511627776)
theorem aeF (a:Int):Ok 37 [.i a] (Is (.b (pE a))):=by
 refine ok_of lw37 (by simp) ?_
 unfold c37
 simp -implicitDefEqProofs only [rX,↓rY,aA,↓reduceIte,Nat.reduceEqDiff,reduceCtorEq,aQ,aU,wfV,aL]
 simp only [br,decide_eq_true_eq,decide_eq_false_iff_not,beq_iff_eq,beq_eq_false_iff_ne]
 have e:∀ t:Bool,(t=true↔(0≤a∧a≤1099511627776))→t=pE a:=fun t=>Eg
 repeat' (first|(refine ⟨(0:_),?_⟩)|(refine ⟨by omega,?_⟩)|(refine And.intro ?_ ?_)|(refine (fun _=>?_)))
 all_goals (apply e;first|omega|(simp only [yay,false_iff,decide_eq_true_eq];omega))
def Um (k:Ky) (a b:Int):Prop:=0≤a∧a≤b∧b≤1099511627776∧k.fr≤a∧b<k.to
instance (k:Ky) (a b:Int):Decidable (Um k a b):=by unfold Um;infer_instance
def Ou (k:Ky) (a b:Int):Bool:=decide (Um k a b)
theorem ajG (k:Ky) (a b:Int):Ok 80 [.agg k.enc,.agg [.i a,.i b]] (Is (.b (Ou k a b))):=by
 refine ok_of lw80 (by simp) ?_
 unfold c80 Ky.enc
 simp -implicitDefEqProofs only [rX,↓rY,aA,cells?,↓reduceIte,Nat.reduceEqDiff,Nat.reduceAdd,reduceCtorEq,aC,aQ,aU,wfV,aL]
 simp only [br,decide_eq_true_eq,decide_eq_false_iff_not,beq_iff_eq,beq_eq_false_iff_ne]
 have e:∀ t:Bool,(t=true↔Um k a b)→t=Ou k a b:=fun t=>Eg
 simp only [Um] at e
 repeat' (first|(refine ⟨(0:_),?_⟩)|(refine ⟨by omega,?_⟩)|(refine And.intro ?_ ?_)|(refine (fun _=>?_)))
 all_goals (apply e;first|omega|(simp only [yay,false_iff,decide_eq_true_eq];omega))
def Kr (a b:Ky):Prop:=a.party<b.party∨(a.party=b.party∧a.serial<b.serial)
instance (a b:Ky):Decidable (Kr a b):=by unfold Kr;infer_instance
set_option maxRecDepth 20000
def vS (k:Ky) (p s:Int):Int:=if k.party=p then IntKind.i64.wrap (k.serial-s) else IntKind.i64.wrap (k.party-p)
theorem Ye (k:Ky) (p s:Int):OkN Tryz.prog 137 [.agg k.enc,.i p,.ptr 0 0 0] [.var [.i s]] [] (IsA (.i (vS k p s)) [.var [.i s]]):=by
 refine eS pol [0] lw137 (by simp) ⟨trivial,trivial⟩ (by simp) ?_
 unfold c137 Ky.enc
 simp -implicitDefEqProofs only [rX,↓rY,aA,cells?,↓reduceIte,Nat.reduceEqDiff,Nat.reduceAdd,reduceCtorEq,aC,aQ,aU,leH,leB,leV,bA,aD,aB,wfB,wfV,wfL,aL,cQ,vS]
 simp only [br,bne_iff_ne,bne_eq_false_iff_eq,ne_eq]
 refine ⟨fun h=>by rw [if_neg h],fun h=>by rw [if_pos h]⟩
structure Bb (l:List Ky):Prop where
 ok:∀ k∈l,KyP k
 ord:l.Pairwise Kr
def ltK (k:Ky) (p s:Int):Prop:=k.party<p∨(k.party=p∧k.serial<s)
theorem Pm {x:Int} (h:-18446744073709551616<x∧x<18446744073709551616):IntKind.i64.wrap x=0↔x=0:=by
 simp [IntKind.wrap,IntKind.bits,IntKind.signed];omega
def PS (p s:Int):Prop:=(0≤p∧p≤1099511627776)∧-9223372036854775808≤s∧s≤9223372036854775807
theorem Tp {k:Ky} {p s:Int} (hk:KyP k) (h:PS p s):vS k p s=0↔(k.party=p∧k.serial=s):=by
 obtain ⟨h1,h2,_⟩:=hk
 obtain ⟨h3,h4⟩:=h
 unfold vS
 split
 ·rename_i e;rw [Pm (by omega)];omega
 ·rename_i e;rw [Pm (by omega)];omega
theorem Mt {k:Ky} {p s:Int} (hk:KyP k) (h:PS p s) (hs:1≤s):vS k p s<0↔ltK k p s:=by
 obtain ⟨h1,h2,_⟩:=hk
 obtain ⟨h3,h4⟩:=h
 unfold vS ltK
 split
 ·rename_i e;rw [dY .i64 _ (by simp only [lo,Fx.hi];omega)];omega
 ·rename_i e;rw [dY .i64 _ (by simp only [lo,Fx.hi];omega)];omega
theorem sh_r {k:IntKind} {a c:Int} {K:V→Prop}:cS .shr k a c K=(0≤c∧K (.v (.int k (a.fdiv (2 ^ (min c.toNat k.bits)))))):=rfl
structure Fnd (l:List Ky) (p s:Int) (g:Nat × Bool):Prop where
 le:g.1≤l.length
 y:g.2=true→∃ h:g.1<l.length,l[g.1].party=p∧l[g.1].serial=s
 n:g.2=false→∀ k∈l,¬(k.party=p∧k.serial=s)
theorem aeO (l:List Ky) (p s:Int) (hR:Bb l) (hl:l.length≤1000000) (hps:PS p s):OkN Tryz.prog 136 [.bro 5 (l.map Ky.enc),.i p,.clo 137 [.ptr 0 0 0]] [.var [.i s]] [] (IsQ (Fnd l p s) (fun g=>.tup [.i g.1,.b g.2]) (fun _=>[.var [.i s]])):=by
 refine eS pol [0] lw136 (by simp) ⟨trivial,trivial⟩ (by simp) ?_
 unfold c136
 simp -implicitDefEqProofs only [rX,↓rY,aA,↓reduceIte,Nat.reduceEqDiff,Nat.reduceAdd,reduceCtorEq,aJ,aL]
 intro hmx
 have hp:=yav.1 hR.ord
 refine dB (fun g:Nat × Nat=>(⟨[(10,.i g.2),(9,.i g.1),(8,.i l.length),(2,.clo 137 [.ptr 0 0 0]),(1,.i p),(0,.bro 5 (l.map Ky.enc))],[.var [.i s]],1⟩:St)) (fun g=>(g.1≤g.2∧g.2≤l.length)∧(1≤s→∀ j (h:j<l.length),j<g.1→ltK l[j] p s)∧(1≤s→∀ j (h:j<l.length),g.2≤j→¬ltK l[j] p s)) (fun g=>g.2-g.1) (0,l.length) ⟨⟨by simp,by simp⟩,fun _ j _ h=>by simp at h,fun _ j h h2=>by simp at h2;omega⟩ ?_ ?_
 ·simp -implicitDefEqProofs only [rX,↓reduceIte,Nat.reduceEqDiff,reduceCtorEq,leE,leH,leB,leV,bA,aD,aB,wfE,wfB,wfV,wfL,yal]
 rintro ⟨i,j⟩ ⟨⟨hij,hj⟩,h1,h2⟩ N hN
 simp only at hij hj h1 h2
 unfold c136l0
 rcases yam i j with c|c
 ·have hd:decide ((i:Int)<(j:Int))=true:=decide_eq_true (by omega)
  have hw:IntKind.wrap .u64 ((i:Int)+(j:Int))=((i+j:Nat):Int):=by rw [dY .u64 _ (by simp only [lo,Fx.hi];omega)];omega
  have hdv:((i+j:Nat):Int).fdiv (2 ^ (min (Int.toNat 1) IntKind.u64.bits))=(((i+j)/2:Nat):Int):=by
   rw [show min (Int.toNat 1) IntKind.u64.bits=1 from rfl]
   rw [Int.fdiv_eq_ediv_of_nonneg _ (by decide)]
   omega
  have hw2:IntKind.wrap .i64 (((i+j)/2:Nat):Int)=(((i+j)/2:Nat):Int):=dY .i64 _ (by simp only [lo,Fx.hi];omega)
  have hk:(i+j)/2<l.length:=by omega
  have hkP:=hR.ok _ (yad hk)
  simp -implicitDefEqProofs only [rX,↓rY,aA,↓reduceIte,Nat.reduceEqDiff,reduceCtorEq,yac,yaa,hd,hw,hdv,hw2,↓sh_r,yag hk,y8,sJ]
  refine ⟨by simp only [lo,Fx.hi];omega,by omega,⟨by omega,by omega⟩,hk,?_⟩
  refine dC [0] [.agg l[(i+j)/2].enc,.i p,.ptr 0 0 0] (.i (vS l[(i+j)/2] p s)) (.i (vS l[(i+j)/2] p s)) [.var [.i s]] [.var [.i s]] _ (Ye l[(i+j)/2] p s) (by simp [aZ]) rfl (by simp [aG,aK,aX,bQ,wkL,wk,wkR,pos,Ky.enc]) (by simp) rfl rfl ⟨trivial,trivial⟩ ?_
  cases h4:decide (vS l[(i+j)/2] p s<0) with
  | true =>
   have h4':=of_decide_eq_true h4
   simp -implicitDefEqProofs only [rX,↓rY,aA,↓reduceIte,Nat.reduceEqDiff,h4,bH,cB,cK,ren]
   refine ⟨by simp only [lo,Fx.hi];omega,hN _ ((i+j)/2+1,j) ⟨⟨by simp only;omega,hj⟩,fun hs q hk2 hlt=>?_,h2⟩ (by simp only;omega) (by simp -implicitDefEqProofs only [rX,↓reduceIte,Nat.reduceEqDiff,reduceCtorEq,leE,leH,leB,leV,bA,aD,aB,wfE,wfB,wfV,wfL];simp)⟩
   simp only at hlt
   have h3:=(Mt hkP hps hs).1 h4'
   by_cases e:q=(i+j)/2
   ·subst e;exact h3
   ·have:=hp q ((i+j)/2) hk2 hk (by omega)
    unfold Kr at this
    unfold ltK at h3 ⊢
    omega
  | false =>
   have h4':=of_decide_eq_false h4
   simp -implicitDefEqProofs only [rX,↓rY,aA,↓reduceIte,Nat.reduceEqDiff,h4,bH,cB,cK,ren]
   refine hN _ (i,(i+j)/2) ⟨⟨by simp only;omega,by simp only;omega⟩,h1,fun hs q hk2 hlt hlk=>?_⟩ (by simp only;omega) (by simp -implicitDefEqProofs only [rX,↓reduceIte,Nat.reduceEqDiff,reduceCtorEq,leE,leH,leB,leV,bA,aD,aB,wfE,wfB,wfV,wfL])
   simp only at hlt
   have h3:¬ltK l[(i+j)/2] p s:=fun h=>h4' ((Mt hkP hps hs).2 h)
   by_cases e:q=(i+j)/2
   ·subst e;exact h3 hlk
   ·have:=hp ((i+j)/2) q hk hk2 (by omega)
    unfold Kr at this
    unfold ltK at h3 hlk
    omega
 ·have hd:decide ((i:Int)<(j:Int))=false:=decide_eq_false (by omega)
  have he:i=j:=by omega
  subst he
  have none:∀ q (hq:q<l.length),q≠i→¬(l[q].party=p∧l[q].serial=s):=by
   intro q hq hqi hm
   have hqP:=hR.ok _ (yad hq)
   have hs:1≤s:=by have:=hqP.2.1;omega
   rcases yam q i with d|d
   ·have:=h1 hs q hq d
    unfold ltK at this
    omega
   ·have hi:i<l.length:=by omega
    have h5:=h2 hs i hi (yan _)
    have:=hp i q hi hq (by omega)
    unfold Kr at this
    unfold ltK at h5
    omega
  rcases yam i l.length with c2|c2
  ·have hd2:decide ((i:Int)<(l.length:Int))=true:=decide_eq_true (by omega)
   have hiP:=hR.ok _ (yad c2)
   simp -implicitDefEqProofs only [rX,↓rY,↓reduceIte,Nat.reduceEqDiff,reduceCtorEq,yac,yaa,hd,hd2,yag c2,y8,sJ]
   refine ⟨⟨by omega,by omega⟩,c2,?_⟩
   refine dC [0] [.agg l[i].enc,.i p,.ptr 0 0 0] (.i (vS l[i] p s)) (.i (vS l[i] p s)) [.var [.i s]] [.var [.i s]] _ (Ye l[i] p s) (by simp [aZ]) rfl (by simp [aG,aK,aX,bQ,wkL,wk,wkR,pos,Ky.enc]) (by simp) rfl rfl ⟨trivial,trivial⟩ ?_
   simp -implicitDefEqProofs only [rX,↓rY,aA,↓reduceIte,Nat.reduceEqDiff,bH,cB,cK,ren]
   refine dV (Q:=Fnd l p s) (i,vS l[i] p s==0) ⟨by omega,fun h=>⟨c2,(Tp hiP hps).1 (by simpa using h)⟩,fun h k hk hm=>?_⟩ ?_
   ·obtain ⟨q,hq,rfl⟩:=yai hk
    by_cases e:q=i
    ·subst e
     have:=(Tp hiP hps).2 hm
     simp [this] at h
    ·exact none q hq e hm
   ·simp -implicitDefEqProofs only [rX,↓reduceIte,Nat.reduceEqDiff,aQ,aU,leH,leB,leV,bA,aD,aB,wfB,wfV,wfL]
  ·have hd2:decide ((i:Int)<(l.length:Int))=false:=decide_eq_false (by omega)
   simp -implicitDefEqProofs only [rX,↓rY,aA,↓reduceIte,Nat.reduceEqDiff,hd,hd2]
   refine dV (Q:=Fnd l p s) (i,false) ⟨by omega,(fun h=>by cases h),fun h k hk hm=>?_⟩ ?_
   ·obtain ⟨q,hq,rfl⟩:=yai hk
    exact none q hq (by omega) hm
   ·simp -implicitDefEqProofs only [rX,↓reduceIte,Nat.reduceEqDiff,aQ,aU,leH,leB,leV,bA,aD,aB,wfB,wfV,wfL]
set_option maxRecDepth 20000
def bK (l:List Ky):V:=.bro 5 (l.map Ky.enc)
theorem aeW (l:List Ky) (p s:Int) (hR:Bb l) (hl:l.length≤1000000) (hps:PS p s):Ok 109 [bK l,.i p,.i s] (IsQ (Fnd l p s) (fun g=>.tup [.i g.1,.b g.2]) (fun _=>[.var [.i s]])):=by
 refine ok_of lw109 (by simp) ?_
 unfold c109 bK
 simp -implicitDefEqProofs only [rX,↓rY,aA,cells?,↓reduceIte,Nat.reduceEqDiff,Nat.reduceAdd,reduceCtorEq,aC,aL]
 refine eQ (Fnd l p s) [0] [] [] [.bro 5 (l.map Ky.enc),.i p,.clo 137 [.ptr 0 0 0]] (fun g=>.tup [.i g.1,.b g.2]) [.var [.i s]] (fun _=>[.var [.i s]]) (aeO l p s hR hl hps) ⟨by simp,by simp [aZ]⟩ ⟨rfl,by simp⟩ rfl (by simp [aG,aK,aX,bQ,wkL,wk,wkR,wkB,pos]) ?_
 intro g hg
 simp -implicitDefEqProofs only [rX,↓rY,↓reduceIte,Nat.reduceEqDiff,bN,bE,kill,bO,St.kill,aJ,Yo,bH,cB,cK,ren]
 refine dV (Q:=Fnd l p s) g hg ?_
 simp -implicitDefEqProofs only [rX,↓reduceIte,Nat.reduceEqDiff,aQ,aU,leH,leB,leV,bA,aD,wfB,wfV,wfL,Nat.reduceLeDiff]
def nR (l:List Ky) (p s:Int):Option Ky:=l.find? fun k=>decide (k.party=p∧k.serial=s)
def zKy:Ky:=⟨0,0,[],0,0⟩
theorem Jx {l:List Ky} {p s:Int} (hR:Bb l) {i:Nat} (hi:i<l.length) (h:l[i].party=p∧l[i].serial=s):nR l p s=some l[i]:=by
 unfold nR
 rw [List.find?_eq_some_iff_getElem]
 refine ⟨by simpa using h,i,hi,rfl,fun j hj=>?_⟩
 have:=yav.1 hR.ord j i (by omega) hi hj
 unfold Kr at this
 have hn:¬(l[j].party=p∧l[j].serial=s):=by omega
 simp only [decide_eq_false hn,Bool.not_false]
theorem Jy {l:List Ky} {p s:Int} (h:∀ k∈l,¬(k.party=p∧k.serial=s)):nR l p s=none:=by
 unfold nR
 rw [List.find?_eq_none]
 intro k hk
 have:=h k hk
 simpa using this
theorem afI {q:List Blk} {k:Ky}:wfL q k.enc:=⟨trivial,trivial,trivial,trivial,trivial,trivial⟩
theorem ajH (l:List Ky) (p s:Int) (hR:Bb l) (hl:l.length≤1000000) (hps:PS p s):Ok 79 [bK l,.i p,.i s] (Is (.tup [.agg ((nR l p s).getD zKy).enc,.i (if (nR l p s).isSome then 0 else 5)])):=by
 refine ok_of lw79 (by simp) ?_
 unfold c79
 simp -implicitDefEqProofs only [rX,↓rY,aA,cells?,↓reduceIte,Nat.reduceEqDiff,Nat.reduceAdd,reduceCtorEq,aC,aL]
 refine eQ (Fnd l p s) [] [] [] [bK l,.i p,.i s] (fun g=>.tup [.i g.1,.b g.2]) [] (fun _=>[.var [.i s]]) (aeW l p s hR hl hps) ⟨by simp,by simp⟩ ⟨rfl,by simp⟩ rfl (by simp [aG,aK,aX,bQ,wkL,wk,wkR,wkB,bK]) ?_
 rintro ⟨i,t⟩ hg
 simp -implicitDefEqProofs only [rX,↓rY,aA,cells?,splice,↓reduceIte,Nat.reduceEqDiff,Nat.reduceAdd,reduceCtorEq,bU,aQ,aU,wfV,wfL,bN,bE,kill,bO,St.kill,isC,aZ,aJ,Yo,bH,cB,cK,ren]
 have hle:=hg.le
 simp only at hle
 cases t with
 | true =>
  obtain ⟨h1,h2⟩:=hg.y rfl
  simp only at h1 h2
  simp -implicitDefEqProofs only [rX,↓rY,kill,St.kill,yac,yaa,bK,yag h1,y8,sJ,afJ]
  rw [Jx hR h1 h2]
  exact ⟨⟨by omega,by omega⟩,h1,afI,rfl⟩
 | false =>
  have h2:=hg.n rfl
  simp -implicitDefEqProofs only [↓rY]
  rw [Jy h2]
  rfl
set_option maxRecDepth 20000
theorem Ta {a b:UInt8} {K:Bool→Prop}:eqC (.int .u8) (some (u8 a)) (some (u8 b)) K=K (a==b):=by
 have e:eqK (.int .u8 a.toNat) (.int .u8 b.toNat)=(a==b):=by
  show ((a.toNat:Int)==(b.toNat:Int))=(a==b)
  by_cases h:a=b
  ·subst h;simp
  ·have h2:a.toNat≠b.toNat:=fun h3=>h (UInt8.toNat_inj.1 h3)
   have h3:(a==b)=false:=by simpa using h
   rw [h3];simp;omega
 show ((_∧_)∧K (eqK _ _))=_
 rw [e]
 exact propext ⟨fun h=>h.2,fun h=>⟨⟨rfl,rfl⟩,h⟩⟩
theorem Ap {l1 l2:Bs} {xs ys:List V} (hx:∀ i (h:i<l1.length),xs[i]?=some (u8 l1[i])) (hy:∀ i (h:i<l2.length),ys[i]?=some (u8 l2[i])):∀ {m a:Nat} {K:Bool→Prop},a+m≤l1.length→a+m≤l2.length →
  gL xs ys ((List.range' a m).map fun i=>(i,.int .u8)) K=K ((l1.drop a).take m==(l2.drop a).take m)
 | 0,a,K,_,_=>by simp [gL]
 | m+1,a,K,h1,h2=>by
  rw [List.range'_succ,List.map_cons,gL,hx a (by omega),hy a (by omega),Ta,Ap hx hy (by omega) (by omega),yaY (show a<l1.length by omega),yaY (show a<l2.length by omega),yaZ,yaZ]
  rfl
theorem Xv {l:Bs} {i:Nat} (h:i<l.length):(us l)[i]?=some (u8 l[i]):=by
 rw [Zo h];unfold bn;rw [yaf,yag h];rfl
theorem abR {a b:Bs} (ha:a.length=16) (hb:b.length=16) {K:Bool→Prop}:(dS (vU (.agg (us a))) fun xs=>dS (vU (.agg (us b))) fun ys=>gL xs ys ((List.range' 0 16).map fun i=>(i,.int .u8)) K)=K (a==b):=by
 show gL (us a) (us b) _ K=_
 rw [Ap (fun i h=>Xv h) (fun i h=>Xv h) (by omega) (by omega)]
 simp only [List.drop_zero]
 rw [yao (by omega),yao (by omega)]
def Kd (l:List Ky) (p s tag:Int) (ps:List Bs) (sg:Bs) (a b:Int):Int :=
 match nR l p s with
 | none=>5
 | some k=>if Ou k a b=false then 9 else if mS k tag ps=sg then 0 else 8
theorem Om {l:List Ky} {p s:Int} {k:Ky} (h:nR l p s=some k):k∈l:=List.mem_of_find?_eq_some h
theorem gZ {h:List Blk} {g:Nat→Option Nat} {k:Ky}:aK h g (.agg k.enc)∧wk (.agg k.enc) (bQ h g (.agg k.enc)):=⟨⟨trivial,trivial,trivial,trivial,trivial,trivial⟩,⟨rfl,rfl,rfl,rfl,rfl,trivial⟩⟩
theorem akH:((5:Int) != 0)=true:=rfl
set_option maxHeartbeats 1000000 in
theorem ajS (l:List Ky) (p s tag:Int) (ps:List Bs) (sg:Bs) (a b:Int) (hR:Bb l) (hl:l.length≤1000000) (hps:PS p s) (hsg:sg.length=16) (hS:∀ k∈l,acJ k ps):Ok 58 [bK l,.i p,.i s,.i tag,rS ps,.agg (us sg),.agg [.i a,.i b]] (Is (.i (Kd l p s tag ps sg a b))):=by
 refine ok_of lw58 (by simp) ?_
 unfold c58
 obtain ⟨u1,u2,u3⟩:=Pt hsg
 have o79:=ajH l p s hR hl hps
 simp -implicitDefEqProofs only [rX,↓rY,aA,cells?,↓reduceIte,Nat.reduceEqDiff,Nat.reduceAdd,reduceCtorEq,aC,aL]
 unfold Kd
 cases hf:nR l p s with
 | none =>
  rw [hf] at o79
  refine aE o79 (by simp [aG,aK,aX,bQ,wkL,wk,wkR,wkB,bK]) rfl trivial ?_
  simp -implicitDefEqProofs only [rX,↓rY,aA,cells?,splice,↓reduceIte,Nat.reduceEqDiff,Nat.reduceAdd,aC,aQ,aU,wfV,isC,aZ,Ky.enc,zKy,yar,akH]
 | some k =>
  rw [hf] at o79
  have hk:=hS k (Om hf)
  refine aE o79 (by simp [aG,aK,aX,bQ,wkL,wk,wkR,wkB,bK]) rfl trivial ?_
  simp -implicitDefEqProofs only [rX,↓rY,aA,cells?,splice,↓reduceIte,Nat.reduceEqDiff,Nat.reduceAdd,aC,aQ,aU,wfV,aZ,y8,sJ,afJ,yaz,bne_self_eq_false]
  refine aE (ajG k a b) ⟨⟨gZ.1,⟨trivial,trivial,trivial⟩,trivial⟩,gZ.2,⟨rfl,rfl,trivial⟩,trivial⟩ rfl trivial ?_
  cases hc:Ou k a b with
  | false=>simp -implicitDefEqProofs only [rX,↓rY,aA,↓reduceIte,Nat.reduceAdd,aQ,aU,wfV]
  | true =>
   simp -implicitDefEqProofs only [rX,↓rY,rdK,↓reduceIte,Nat.reduceEqDiff,Nat.reduceAdd,reduceCtorEq,aJ,y8,sJ,u1,u2]
   refine aE (aeD k tag ps hk) ⟨⟨gZ.1,trivial,trivial,trivial⟩,gZ.2,rfl,⟨rfl,rfl⟩,trivial⟩ (by simp [ren,mM]) trivial ?_
   simp -implicitDefEqProofs only [rX,aA,↓reduceIte,Nat.reduceEqDiff,Nat.reduceAdd,aQ,aU,wfV,↓abR (cW (k:=k) (tag:=tag) (l:=ps)) hsg]
   by_cases hq:mS k tag ps=sg
   ·rw [hq,beq_self_eq_true,if_pos rfl];exact ⟨(fun h=>by cases h),fun _=>rfl⟩
   ·rw [if_neg hq,beq_eq_false_iff_ne.2 hq];exact ⟨fun _=>rfl,(fun h=>by cases h)⟩
set_option maxRecDepth 20000
open Go.Fx.P (Arc)
theorem rM {q:List Blk}:∀ {a b:List Blk},wfB q (a++b)=(wfB q a∧wfB q b)
 | [],b=>by simp [wfB]
 | x::a,b=>by
  rw [List.cons_append]
  cases x<;>simp only [wfB,rM,and_assoc]
theorem Oi {h tl:List Blk} {k:Nat} (hk:aB h k):aB (h++tl) k:=by
 unfold aB at hk ⊢
 by_cases hl:k<h.length
 ·rw [yaS hl];exact hk
 ·rw [yat (by omega)] at hk;exact hk.elim
theorem mC {h tl:List Blk}:∀ {fx:List Nat},aD fx h→aD fx (h++tl)
 | [],_=>trivial
 | _::_,hk=>⟨Oi hk.1,mC hk.2⟩
def inR (N:Nat) (cut:List Int) (j:Nat):List (List V):=(List.range N).map fun x:Nat=>[V.b (decide ((x:Int)∈cut.take j))]
theorem mZ {N:Nat} {cut:List Int} {j:Nat}:(inR N cut j).length=N:=by simp [inR]
theorem abB {N:Nat} {cut:List Int} {j x:Nat} (h:x<N):(inR N cut j)[x]?=some [.b (decide ((x:Int)∈cut.take j))]:=by
 unfold inR;rw [List.getElem?_map,List.getElem?_range h];rfl
theorem w9 {N:Nat} {cut:List Int} {j x:Nat} {h:x<(inR N cut j).length}:(inR N cut j)[x]=[.b (decide ((x:Int)∈cut.take j))]:=by
 have:=abB (N:=N) (cut:=cut) (j:=j) (x:=x) (by rw [mZ] at h;exact h)
 rw [yag h] at this
 exact Option.some.inj this
theorem Wg {N:Nat} {cut:List Int} {j x:Nat} (hj:j<cut.length) (hx:cut[j]=(x:Int)):(inR N cut j).set x [.b true]=inR N cut (j+1):=by
 have hs:cut.take (j+1)=cut.take j++[(x:Int)]:=by rw [←yaT hj,hx]
 apply List.ext_getElem
 ·rw [yaw,mZ,mZ]
 ·intro i h1 h2
  rw [List.getElem_set,w9,w9,hs]
  by_cases e:x=i
  ·subst e;simp
  ·rw [if_neg e]
   have:((i:Int)∈cut.take j++[(x:Int)])↔(i:Int)∈cut.take j:=by
    rw [yaJ,yas]
    constructor
    ·rintro (h|h)
     ·exact h
     ·omega
    ·exact .inl
   simp only [this]
theorem afO {N:Nat} {cut:List Int}:inR N cut 0=yab N [.b false]:=by
 unfold inR
 apply List.ext_getElem
 ·simp
 ·intro i h1 h2;simp
structure E83 (N:Nat) (arcs:List Arc) (L k i:Nat) (e:Env):Prop where
 e0:get e 0=.itr k
 e4:get e 4=.sl L 0 N
 e23:get e 23=.ro 4 (arcs.map Arc.enc)
 e24:get e 24=.i arcs.length
 e25:get e 25=.i i
 e43:get e 43=.b true
structure acM {G:Type} (hp:G→List Blk) (L:Nat) (N:Nat) (arcs:List Arc) (cut:List Int) (k a c:Nat) (fx:List Nat):Prop where
 len:∀ g,(hp g).length=L
 ha:∀ g tl,(hp g++tl)[a]?=some (.var [.i N,.ro 4 (arcs.map Arc.enc)])
 hc:∀ g tl,(hp g++tl)[c]?=some (.var [.ro 1 (cut.map P.encI)])
 kp:∀ g,aD fx (hp g)
 wf:∀ g tl,wfB (hp g++tl) (hp g)
 lk:∀ g tl,∃ t e,(hp g++tl)[k]?=some (.rcd t e)
def f8 (cut:List Int) (a:Arc):Bool:=decide (a.from_∈cut)&&!decide (a.to∈cut)
section
variable {G:Type} {hp:G→List Blk} {L N:Nat} {arcs:List Arc} {cut:List Int} {k a c:Nat} {fx:List Nat} {Y:Yt} {K:List Blk→Prop} {Inv:Nat→G→Prop}
abbrev Re {G:Type} (hp:G→List Blk) (L N:Nat) (arcs:List Arc) (cut:List Int) (k:Nat) (g:Nat × G):St :=
 ⟨[(25,.i g.1),(24,.i arcs.length),(23,.ro 4 (arcs.map Arc.enc)),(4,.sl L 0 N),(0,.itr k)],hp g.2++[.arr 1 (inR N cut cut.length)],0⟩
theorem afN (H:acM hp L N arcs cut k a c fx) (hN:N≤1000000) (hal:arcs.length≤1000000) (hcl:cut.length≤1000000)
  (hcut:∀ x∈cut,0≤x∧x<N) (hv:∀ x∈arcs,(0≤x.from_∧x.from_<N)∧(0≤x.to∧x.to<N))
  (hskip:∀ i g (hi:i<arcs.length),Inv i g→f8 cut arcs[i]=false→Inv (i+1) g)
  (hY:∀ i g (hi:i<arcs.length),Inv i g→f8 cut arcs[i]=true→∀ (e:Env) (bb:Nat) (Z:V→St→Prop),E83 N arcs L k i e →
   (∀ e' g' tl,E83 N arcs L k i e'→Inv (i+1) g'→Z (.b true) ⟨e',hp g'++.arr 1 (inR N cut cut.length)::tl,bb⟩)→Y [.i i,.agg arcs[i].enc] ⟨e,hp g++[.arr 1 (inR N cut cut.length),.var arcs[i].enc],bb⟩ Z)
  (hK:∀ g,Inv arcs.length g→K (hp g++[.arr 1 (inR N cut cut.length)])) (g:G) (hg:Inv 0 g) :
  I0 Tryz.prog 83 [.itr k,.ptr a 0 0,.ptr c 0 0] fx k Y (hp g) K:=by
 refine Sf pol fx lw83 (by simp) ?_
 have go:∀ g j tl,(hp g++tl)[L+j]?=tl[j]?:=fun g j tl=>by
  rw [yaA (by rw [H.len];omega),H.len];congr 1;omega
 have go0:∀ g tl,(hp g++tl)[L]?=tl[0]?:=fun g=>go g 0
 have gs:∀ g j tl B,(hp g++tl).set (L+j) B=hp g++tl.set j B:=fun g j tl B=>by
  rw [yaW _ _ (by rw [H.len];omega),H.len];congr 2;omega
 have gs0:∀ g tl B,(hp g++tl).set L B=hp g++tl.set 0 B:=fun g=>gs g 0
 have a0:=H.ha g []
 have c0:=H.hc g []
 rw [yaB] at a0 c0
 unfold c83
 simp -implicitDefEqProofs only [rX,↓rY,aA,↓reduceIte,Nat.reduceEqDiff,Nat.reduceAdd,reduceCtorEq,aC,yaa,aL,H.ha,H.hc,H.len,go0,gs0]
 refine ⟨⟨⟨by omega,by omega⟩,by omega,by omega⟩,fun hcm=>?_⟩
 refine dB (fun j:Nat=>(⟨[(14,.i j),(13,.i cut.length),(12,.ro 1 (cut.map P.encI)),(4,.sl L 0 N),(0,.itr k),(1,.ptr a 0 0)],hp g++[.arr 1 (inR N cut j)],0⟩:St)) (fun j=>j≤cut.length) (fun j=>cut.length-j) 0 (yak _) ?_ ?_
 ·obtain ⟨tk,ek,lk⟩:=H.lk g [.arr 1 (yab N [V.b false])]
  simp -implicitDefEqProofs only [rX,↓reduceIte,Nat.reduceEqDiff,reduceCtorEq,leE,aB,wfE,wfB,wfV,afO,go0,H.ha,lk,eq_true (mC (H.kp g)),rM,eq_true (H.wf g _)]
  exact ⟨rfl,bV _⟩
 intro j hj N1 hN1
 simp only [c83l0]
 simp -implicitDefEqProofs only [rX,↓rY,aA,cells?,splice,↓reduceIte,Nat.reduceEqDiff,cU,reduceCtorEq,isD,isC,yac,yaa,H.len,go0,gs0]
 cases h1:decide ((j:Int)<(cut.length:Int)) with
 | true =>
  have h1':=of_decide_eq_true h1
  have hj':j<cut.length:=by omega
  have hx:=hcut _ (yad hj')
  obtain ⟨x,hxe⟩:∃ x:Nat,cut[j]=x:=⟨cut[j].toNat,by omega⟩
  simp -implicitDefEqProofs only [rX,↓rY,yaa,yag hj',hxe,P.cR]
  refine ⟨by omega,hj',by omega,by rw [mZ];omega,⟨by simp only [lo];omega,by simp only [Fx.hi];omega⟩,hN1 _ (j+1) (by omega) (by omega) ?_⟩
  have hset:(inR N cut j).set x (V.v (Value.bool true)::List.drop 1 ((inR N cut j)[x]'(by rw [mZ];omega)))=inR N cut (j+1):=by
   rw [w9];exact Wg hj' hxe
  rw [hset]
  obtain ⟨tk,ek,lk⟩:=H.lk g [.arr 1 (inR N cut (j+1))]
  simp -implicitDefEqProofs only [rX,↓reduceIte,Nat.reduceEqDiff,reduceCtorEq,leE,aB,wfE,wfB,wfV,go0,H.ha,lk,eq_true (mC (H.kp g)),rM,eq_true (H.wf g _)]
  exact ⟨rfl,bV _⟩
 | false =>
  have h1':=of_decide_eq_false h1
  have:j=cut.length:=by omega
  subst this
  simp -implicitDefEqProofs only [rX,↓rY,H.ha]
  intro ham
  refine dB (Re hp L N arcs cut k) (fun g=>g.1≤arcs.length∧Inv g.1 g.2) (fun g=>arcs.length-g.1) (0,g) ⟨yak _,hg⟩ ?_ ?_
  ·obtain ⟨tk,ek,lk⟩:=H.lk g [.arr 1 (inR N cut cut.length)]
   simp -implicitDefEqProofs only [rX,↓reduceIte,Nat.reduceEqDiff,reduceCtorEq,leE,aB,wfE,wfB,wfV,go0,lk,eq_true (mC (H.kp g)),rM,eq_true (H.wf g _)]
   exact ⟨rfl,bV _⟩
  rintro ⟨i,g⟩ ⟨hi,hI⟩ N2 hN2
  simp only at hi hI
  simp only [c83l1]
  unfold Re
  simp -implicitDefEqProofs only [rX,↓rY,rZ,↓rW,aA,cells?,splice,↓reduceIte,Nat.reduceEqDiff,cU,Nat.reduceAdd,reduceCtorEq,aC,yac,yaa,H.len,go,go0,gs,yah]
  cases h2:decide ((i:Int)<(arcs.length:Int)) with
  | true =>
   have h2':=of_decide_eq_true h2
   have hi':i<arcs.length:=by omega
   obtain ⟨⟨f1,f2⟩,f3,f4⟩:=hv _ (yad hi')
   obtain ⟨u,hu⟩:∃ u:Nat,arcs[i].from_=u:=⟨arcs[i].from_.toNat,by omega⟩
   obtain ⟨v,hw⟩:∃ v:Nat,arcs[i].to=v:=⟨arcs[i].to.toNat,by omega⟩
   have lu:u<(inR N cut cut.length).length:=by rw [mZ];omega
   have lv:v<(inR N cut cut.length).length:=by rw [mZ];omega
   have b0:lo IntKind.i64≤(i:Int)+1∧(i:Int)+1≤Fx.hi IntKind.i64:=⟨by simp only [lo];omega,by simp only [Fx.hi];omega⟩
   have fin:∀ (e:Env) (b:Nat) (g':G) (tl:List Blk),get e 0=.itr k→get e 4=.sl L 0 N→get e 23=.ro 4 (arcs.map Arc.enc)→get e 24=.i arcs.length→get e 25=.v (.int .i64 ((i:Int)+1))→leS fx ⟨e,hp g'++.arr 1 (inR N cut cut.length)::tl,b⟩ (Re hp L N arcs cut k (i+1,g')):=by
    intro e b g' tl q0 q4 q23 q24 q25
    obtain ⟨tk,ek,lk⟩:=H.lk g' [.arr 1 (inR N cut cut.length)]
    simp -implicitDefEqProofs only [rX,leE,aB,wfE,wfB,wfV,go0,lk,eq_true (mC (H.kp g')),rM,eq_true (H.wf g' _),q0,q4,q23,q24,q25]
    refine ⟨rfl,?_⟩
    rw [show hp g'++.arr 1 (inR N cut cut.length)::tl=(hp g'++[.arr 1 (inR N cut cut.length)])++tl by simp]
    exact P.K.leH_app _ _
   have hop:f8 cut arcs[i]=(decide ((u:Int)∈cut)&&!decide ((v:Int)∈cut)):=by unfold f8;rw [hu,hw]
   simp -implicitDefEqProofs only [rX,↓rY,↓reduceIte,yaa,hu,hw,w9,List.take_length,yag hi',P.enc_len,P.fB,P.fO,P.oP,P.oO]
   refine ⟨⟨by omega,by omega⟩,hi',by omega,lu,?_⟩
   cases d1:decide ((u:Int)∈cut) with
   | false =>
    rw [d1] at hop
    simp -implicitDefEqProofs only [↓rY]
    exact ⟨b0,hN2 _ (i+1,g) ⟨by simp only;omega,hskip i g hi' hI hop⟩ (by simp only;omega) (fin _ _ _ _ rfl rfl rfl rfl rfl)⟩
   | true =>
    simp -implicitDefEqProofs only [↓rY]
    refine ⟨by omega,lv,?_⟩
    cases d2:decide ((v:Int)∈cut) with
    | true =>
     rw [d1,d2] at hop
     simp -implicitDefEqProofs only [rX,↓rY]
     exact ⟨b0,hN2 _ (i+1,g) ⟨by simp only;omega,hskip i g hi' hI hop⟩ (by simp only;omega) (fin _ _ _ _ rfl rfl rfl rfl rfl)⟩
    | false =>
     rw [d1,d2] at hop
     simp -implicitDefEqProofs only [rX,↓rY]
     refine ⟨rfl,?_⟩
     refine hY i g hi' hI hop _ _ _ ⟨rfl,rfl,rfl,rfl,rfl,rfl⟩ ?_
     intro e' g' tl he' hI'
     simp -implicitDefEqProofs only [rX,↓rY,rZ,aA,↓reduceIte,Nat.reduceEqDiff,he'.e25,he'.e43]
     exact ⟨b0,hN2 _ (i+1,g') ⟨by simp only;omega,hI'⟩ (by simp only;omega) (fin _ _ _ _ (by simp -implicitDefEqProofs only [rX,↓reduceIte,reduceCtorEq,he'.e0]) (by simp -implicitDefEqProofs only [rX,↓reduceIte,Nat.reduceEqDiff,he'.e4]) (by simp -implicitDefEqProofs only [rX,↓reduceIte,Nat.reduceEqDiff,he'.e23]) (by simp -implicitDefEqProofs only [rX,↓reduceIte,Nat.reduceEqDiff,he'.e24]) rfl)⟩
  | false =>
   have h2':=of_decide_eq_false h2
   have:i=arcs.length:=by omega
   subst this
   have:=hK g hI
   simp -implicitDefEqProofs only [↓rY]
   exact this
end
set_option maxRecDepth 20000
open Go.Fx.P (Arc)
def sW (arcs:List Arc) (cut:List Int) (i:Nat):Int:=(((arcs.take i).filter (f8 cut)).map (·.cap)).sum
def bnd (arcs:List Arc) (cut:List Int):Int:=sW arcs cut arcs.length
theorem Ty {arcs:List Arc} {cut:List Int}:sW arcs cut 0=0:=rfl
theorem Tw {arcs:List Arc} {cut:List Int} {i:Nat} (h:i<arcs.length) (ho:f8 cut arcs[i]=true):sW arcs cut (i+1)=sW arcs cut i+arcs[i].cap:=by
 unfold sW
 rw [←yaT h,List.filter_append,yaK,List.sum_append,List.filter_cons_of_pos ho]
 simp
theorem Mz {arcs:List Arc} {cut:List Int} {i:Nat} (h:i<arcs.length) (ho:f8 cut arcs[i]=false):sW arcs cut (i+1)=sW arcs cut i:=by
 unfold sW
 rw [←yaT h,List.filter_append,yaK,List.sum_append,List.filter_cons_of_neg (by simp [ho])]
 simp
theorem Tx {arcs:List Arc} {cut:List Int} (hc:∀ a∈arcs,0≤a.cap∧a.cap≤1073741824):∀ {i:Nat},i≤arcs.length→0≤sW arcs cut i∧sW arcs cut i≤1073741824*i
 | 0,_=>by rw [Ty];omega
 | i+1,h=>by
  have:=Tx (cut:=cut) hc (i:=i) (by omega)
  have:=hc _ (yad (show i<arcs.length by omega))
  cases ho:f8 cut arcs[i] with
  | true=>rw [Tw (by omega) ho];omega
  | false=>rw [Mz (by omega) ho];omega
attribute [irreducible] sW
theorem aeA (N:Nat) (arcs:List Arc) (cut:List Int):Ok 61 [P.net N arcs,P.li cut] (IsA (.clo 83 [.ptr 0 0 0,.ptr 1 0 0]) [.var [.i N,.ro 4 (arcs.map Arc.enc)],.var [P.li cut]]):=by
 refine ok_of lw61 (by simp) ?_
 unfold c61 P.net P.li
 simp -implicitDefEqProofs only [rX,↓rY,aA,cells?,↓reduceIte,Nat.reduceEqDiff,Nat.reduceAdd,reduceCtorEq,aC,aQ,aU,leH,leB,leV,bA,aD,aB,wfB,wfV,wfL,Nat.reduceLeDiff,aL,cQ]
abbrev abD (N:Nat) (arcs:List Arc) (cut:List Int) (s:Int):List Blk:=[.var [.i N,.ro 4 (arcs.map Arc.enc)],.var [.i s],.var [.i N,.ro 4 (arcs.map Arc.enc)],.var [.ro 1 (cut.map P.encI)],.rcd .ready [(5,.ptr 1 0 0)]]
theorem akJ (N:Nat) (arcs:List Arc) (cut:List Int):acM (abD N arcs cut) 5 N arcs cut 4 2 3 [4]:=by
 refine ⟨fun g=>rfl,fun g tl=>rfl,fun g tl=>rfl,fun g=>⟨trivial,trivial⟩,fun g tl=>?_,fun g tl=>⟨_,_,rfl⟩⟩
 simp -implicitDefEqProofs only [rX,aB,wfE,wfB,wfV,wfL]
theorem aeB (N:Nat) (arcs:List Arc) (cut:List Int) (hV:P.K.Val N arcs) (hcl:cut.length≤1000000) (hcut:∀ x∈cut,0≤x∧x<N):Ok 54 [P.net N arcs,P.li cut] (Is (.i (bnd arcs cut))):=by
 have hN:=hV.hn
 have hal:=hV.hl
 refine tX (ok_of lw54 (by simp) ?_)
 unfold c54 P.net
 simp -implicitDefEqProofs only [rX,↓rY,aA,cells?,splice,↓reduceIte,Nat.reduceEqDiff,Nat.reduceAdd,reduceCtorEq,aC,isC,aZ,aL]
 refine fC [P.net N arcs,P.li cut] (.clo 83 [.ptr 0 0 0,.ptr 1 0 0]) (.clo 83 [.ptr 2 0 0,.ptr 3 0 0]) [.var [.i N,.ro 4 (arcs.map Arc.enc)],.var [P.li cut]] [.var [.i N,.ro 4 (arcs.map Arc.enc)],.var [P.li cut]] (aeA N arcs cut) (by simp [aG,aK,aX,bQ,wkL,wk,wkR,P.net,P.li]) rfl rfl trivial ?_
 simp -implicitDefEqProofs only [rX]
 refine Ed 4 rfl rfl trivial ?_
 refine Ui (h':=abD N arcs cut 0) ?_ ⟨trivial,trivial⟩ ?_ ?_ (afN (Inv:=fun i g=>g=sW arcs cut i) (akJ N arcs cut) (by omega) (by omega) hcl hcut (fun x hx=>⟨(hV.ha x hx).1,(hV.ha x hx).2.1⟩) ?_ ?_ ?_ _ Ty.symm)
 ·simp -implicitDefEqProofs only [rX,↓reduceIte,Nat.reduceEqDiff,leE,leH,leB,leV,bA]
  repeat' first|rfl|trivial|apply And.intro|exact Or.inr trivial
 ·simp -implicitDefEqProofs only [rX,aB,wfE,wfB,wfV,wfL]
 ·simp -implicitDefEqProofs only [rX,aB,wfV,wfL]
 ·rintro i g hi rfl ho
  exact (Mz hi ho).symm
 ·rintro i g hi rfl ho e bb Z he hZ
  refine Kt 7 rfl rfl rfl ?_
  have hcap:=hV.ha _ (yad hi)
  have hb:=Tx (cut:=cut) (fun a ha=>(hV.ha a ha).2.2.2.1) (Nat.le_of_lt hi)
  unfold c54a0
  simp -implicitDefEqProofs only [rX,↓rY,rZ,↓rW,aA,cells?,splice,↓reduceIte,Nat.reduceEqDiff,Nat.reduceAdd,aC,aZ,aJ,lM,P.enc_len,P.fO]
  unfold c54r0
  simp -implicitDefEqProofs only [rX,↓rY,rZ,↓rW,cells?,splice,↓reduceIte,Nat.reduceEqDiff,Nat.reduceAdd,isC,P.sR]
  refine ⟨⟨by simp only [lo];omega,by simp only [Fx.hi];omega⟩,?_⟩
  exact hZ e _ _ he (Tw hi ho).symm
 ·rintro g rfl
  unfold abD
  simp -implicitDefEqProofs only [rX,↓rY,rZ,↓rW,↓reduceIte,Nat.reduceAdd,aB,wfE,wfB,wfV,wfL]
  exact r8 ⟨trivial,rfl⟩
abbrev bI' (l:List Int):V:=.bro 1 (l.map P.encI)
def s6 (n:Int) (cut:List Int):Prop:=(∀ x∈cut,0≤x∧x<n∧x≠1)∧cut.Pairwise (·<·)∧cut.head?=some 0
instance (n:Int) (cut:List Int):Decidable (s6 n cut):=by unfold s6;infer_instance
def nC (n:Int) (cut:List Int):Bool:=decide (s6 n cut)
structure CuI (n:Int) (cut:List Int) (j:Nat):Prop where
 le:j≤cut.length
 ok:∀ i (h:i<cut.length),i<j→0≤cut[i]∧cut[i]<n∧cut[i]≠1
 ord:∀ i (h:i+1<cut.length),i+1<j→cut[i]<cut[i+1]
theorem CuI.all {n:Int} {cut:List Int} (h:CuI n cut cut.length):(∀ x∈cut,0≤x∧x<n∧x≠1)∧cut.Pairwise (·<·):=by
 refine ⟨fun k hk=>?_,yav.2 fun i j hi hj hij=>?_⟩
 ·obtain ⟨j,hj,rfl⟩:=yai hk
  exact h.ok j hj hj
 ·obtain ⟨d,rfl⟩:∃ d,j=i+1+d:=⟨j-(i+1),by omega⟩
  induction d with
  | zero=>exact h.ord i (by omega) (by omega)
  | succ d ih =>
   have h1:=ih (by omega) (by omega)
   have h2:=h.ord (i+1+d) (by omega) (by omega)
   exact Int.lt_trans h1 h2
theorem Ff {n:Int} {cut:List Int} {j:Nat} (hj:j<cut.length) (h:¬(0≤cut[j]∧cut[j]<n∧cut[j]≠1)):false=nC n cut:=(decide_eq_false fun q=>h (q.1 _ (yad hj))).symm
theorem Wy {n:Int} {cut:List Int} {j:Nat} (hj:j+1<cut.length) (h:¬cut[j]<cut[j+1]):false=nC n cut:=(decide_eq_false fun q=>h (yav.1 q.2.1 j (j+1) (by omega) hj (by omega))).symm
theorem aaM (n:Int) (cut:List Int) (hcl:cut.length≤1000000):Ok 53 [.agg [.i n,.any],bI' cut] (Is (.b (nC n cut))):=by
 refine ok_of lw53 (by simp) ?_
 unfold c53
 simp -implicitDefEqProofs only [rX,↓rY,aA,cells?,↓reduceIte,Nat.reduceEqDiff,reduceCtorEq,aC,aJ,aL]
 intro hml
 refine dB (fun j:Nat=>(⟨[(9,.i j),(8,.i cut.length),(7,bI' cut),(2,.ptr 0 0 0),(1,bI' cut)],[.var [.i n,.any]],1⟩:St)) (CuI n cut) (fun j=>cut.length-j) 0 ⟨yak _,fun i _ h=>by omega,fun i _ h=>by omega⟩ ?_ ?_
 ·exact ⟨by simp -implicitDefEqProofs only [rX,↓reduceIte,Nat.reduceEqDiff,reduceCtorEq,leE];rfl,bV _,trivial,by simp -implicitDefEqProofs only [rX,aB,wfE,wfV],by simp -implicitDefEqProofs only [rX,wfB,wfV,wfL]⟩
 intro j hI N hN
 have hle:=hI.le
 have b0:lo IntKind.i64≤(j:Int)+1∧(j:Int)+1≤Fx.hi IntKind.i64:=⟨by simp only [lo];omega,by simp only [Fx.hi];omega⟩
 simp only [c53l0]
 simp -implicitDefEqProofs only [rX,↓rY,aA,↓reduceIte,Nat.reduceEqDiff,aQ,aU,wfV,yac,yaa]
 cases h1:decide ((j:Int)<(cut.length:Int)) with
 | true =>
  have h1':=of_decide_eq_true h1
  have hj:j<cut.length:=by omega
  have fin:∀ (e:Env) (b:Nat),(0≤cut[j]∧cut[j]<n∧cut[j]≠1)→(∀ i (h:i+1<cut.length),i+1=j→cut[i]<cut[i+1])→get e 9=.v (.int .i64 ((j:Int)+1))→get e 8=.i cut.length→get e 7=bI' cut→get e 2=.ptr 0 0 0→get e 1=bI' cut→N ⟨e,[.var [.i n,.any]],b⟩:=by
   intro e b q1 q2 q9 q8 q7 q22 q11
   refine hN _ (j+1) ⟨by omega,fun i hi hlt=>?_,fun i hi hlt=>?_⟩ (by omega) ?_
   ·by_cases e:i=j
    ·subst e;exact q1
    ·exact hI.ok i hi (by omega)
   ·by_cases e:i+1=j
    ·exact q2 i hi e
    ·exact hI.ord i hi (by omega)
   ·simp -implicitDefEqProofs only [rX,leE,leH,leB,leV,bA,aD,aB,wfE,wfB,wfV,wfL,q9,q8,q7,q22,q11]
    rfl
  simp -implicitDefEqProofs only [rX,↓rY,yag hj,P.cR]
  refine ⟨⟨by omega,by omega⟩,hj,?_⟩
  cases d1:decide (cut[j]<0) with
  | true =>
   have d1':=of_decide_eq_true d1
   simp -implicitDefEqProofs only [↓rY]
   exact Ff hj (by omega)
  | false =>
   have d1':=of_decide_eq_false d1
   simp -implicitDefEqProofs only [↓rY]
   cases d2:decide (n≤cut[j]) with
   | true =>
    have d2':=of_decide_eq_true d2
    simp -implicitDefEqProofs only [↓rY]
    exact Ff hj (by omega)
   | false =>
    have d2':=of_decide_eq_false d2
    simp -implicitDefEqProofs only [↓rY]
    cases d3:(cut[j]==1) with
    | true =>
     have d3':=eq_of_beq d3
     simp -implicitDefEqProofs only [↓rY]
     exact Ff hj (by omega)
    | false =>
     have d3':=ne_of_beq_false d3
     simp -implicitDefEqProofs only [↓rY]
     have q1:0≤cut[j]∧cut[j]<n∧cut[j]≠1:=⟨by omega,by omega,d3'⟩
     cases d4:decide (0<(j:Int)) with
     | false =>
      have d4':=of_decide_eq_false d4
      simp -implicitDefEqProofs only [↓rY]
      exact ⟨b0,fin _ _ q1 (fun i h e=>by omega) rfl rfl rfl rfl rfl⟩
     | true =>
      have d4':=of_decide_eq_true d4
      obtain ⟨m,rfl⟩:∃ m,j=m+1:=⟨j-1,by omega⟩
      have hm:m<cut.length:=by omega
      have em:((m+1:Nat):Int)-1=(m:Int):=by omega
      simp -implicitDefEqProofs only [↓rY,yaa,em]
      refine ⟨⟨by simp only [lo];omega,by simp only [Fx.hi];omega⟩,⟨by omega,by omega⟩,hm,?_⟩
      cases d5:decide (cut[m+1]≤cut[m]) with
      | true =>
       have d5':=of_decide_eq_true d5
       simp -implicitDefEqProofs only [↓rY]
       exact Wy hj (by omega)
      | false =>
       have d5':=of_decide_eq_false d5
       simp -implicitDefEqProofs only [↓rY]
       refine ⟨b0,fin _ _ q1 (fun i h e=>?_) rfl rfl rfl rfl rfl⟩
       obtain rfl:i=m:=by omega
       omega
 | false =>
  have h1':=of_decide_eq_false h1
  have:j=cut.length:=by omega
  subst this
  obtain ⟨a1,a2⟩:=hI.all
  simp -implicitDefEqProofs only [↓rY]
  intro _
  cases hc:cut with
  | nil =>
   have:nC n []=false:=decide_eq_false fun q=>by have:=q.2.2;simp at this
   simp -implicitDefEqProofs only [rX,this]
   exact ⟨fun h=>by simp at h,fun _=>trivial⟩
  | cons x r =>
   rw [hc] at a1 a2
   have hx:nC n (x::r)=(x==0):=by
    rw [yaR]
    unfold nC s6
    simp only [decide_eq_true_eq,List.head?_cons,Option.some.injEq,beq_iff_eq]
    exact ⟨fun h=>h.2.2,fun h=>⟨a1,a2,h⟩⟩
   rw [hx]
   have hd:decide ((0:Int)<((x::r).length:Int))=true:=decide_eq_true (by simp)
   simp only [hd,wc]
   simp -implicitDefEqProofs only [rX,↓rY,P.cR]
   exact ⟨⟨by omega,by omega⟩,by simp,rfl⟩
set_option maxRecDepth 20000
open Go.Fx.P (Arc aF)
def hasB (l:List Int) (x:Int):Bool:=decide (x∈l)
structure NoI (l:List Int) (x:Int) (j:Nat):Prop where
 le:j≤l.length
 no:∀ i (h:i<l.length),i<j→l[i]≠x
theorem NoI.next {l:List Int} {x:Int} {j:Nat} (h:NoI l x j) (hj:j<l.length) (hx:l[j]≠x):NoI l x (j+1):=⟨by omega,fun i hi hlt=>by
 by_cases e:i=j
 ·subst e;exact hx
 ·exact h.no i hi (by omega)⟩
theorem afR {l:List Int} {x:Int} {j:Nat} (hj:j<l.length) (h:l[j]=x):hasB l x=true:=decide_eq_true (h▸yad hj)
theorem NoI.none {l:List Int} {x:Int} (h:NoI l x l.length):hasB l x=false:=decide_eq_false fun hm=>by
 obtain ⟨i,hi,rfl⟩:=yai hm
 exact h.no i hi hi rfl
theorem ajI (l:List Int) (x:Int):Ok 78 [bI' l,.i x] (IsQ (fun k:Int=>decide (k≥0)=hasB l x) (fun k=>.i k) (fun _=>[])):=by
 refine ok_of lw78 (by simp) ?_
 unfold c78
 simp -implicitDefEqProofs only [rX,↓rY,aA,↓reduceIte,reduceCtorEq,aJ,aL]
 intro hml
 simp only [maxLen] at hml
 refine dB (fun j:Nat=>(⟨[(8,.i j),(7,.i l.length),(1,.i x),(0,bI' l)],[],0⟩:St)) (NoI l x) (fun j=>l.length-j) 0 ⟨yak _,fun i _ h=>by omega⟩ ?_ ?_
 ·exact ⟨by simp -implicitDefEqProofs only [rX,↓reduceIte,Nat.reduceEqDiff,reduceCtorEq,leE];rfl,bV _,trivial,by simp -implicitDefEqProofs only [rX,wfE,wfV],by simp -implicitDefEqProofs only [wfB]⟩
 intro j hI N hN
 have hle:=hI.le
 simp only [c78l0]
 simp -implicitDefEqProofs only [rX,↓rY,aA,↓reduceIte,Nat.reduceEqDiff,reduceCtorEq,yac,yaa]
 cases h1:decide ((j:Int)<(l.length:Int)) with
 | true =>
  have h1':=of_decide_eq_true h1
  have hj:j<l.length:=by omega
  simp -implicitDefEqProofs only [rX,↓rY,yag hj,P.cR]
  refine ⟨⟨by omega,by omega⟩,hj,?_⟩
  cases h2:(x==l[j]) with
  | true =>
   have h2':=eq_of_beq h2
   simp -implicitDefEqProofs only [↓rY]
   refine dV (Q:=fun k:Int=>decide (k≥0)=hasB l x) (j:Int) (by rw [afR hj h2'.symm];exact decide_eq_true (by omega)) ?_
   simp -implicitDefEqProofs only [rX,↓reduceIte,aQ,aU,leH,aD,wfB,wfV]
  | false =>
   have h2':=ne_of_beq_false h2
   simp -implicitDefEqProofs only [↓rY]
   refine ⟨⟨by simp only [lo];omega,by simp only [Fx.hi];omega⟩,hN _ (j+1) (hI.next hj (fun h=>h2' h.symm)) (by omega) ?_⟩
   exact ⟨by simp -implicitDefEqProofs only [rX,↓reduceIte,Nat.reduceEqDiff,reduceCtorEq,leE];rfl,bV _,trivial,by simp -implicitDefEqProofs only [rX,wfE,wfV],by simp -implicitDefEqProofs only [wfB]⟩
 | false =>
  have h1':=of_decide_eq_false h1
  have:j=l.length:=by omega
  subst this
  simp -implicitDefEqProofs only [↓rY]
  refine dV (Q:=fun k:Int=>decide (k≥0)=hasB l x) (-1:Int) (by rw [hI.none];rfl) ?_
  simp -implicitDefEqProofs only [rX,↓reduceIte,aQ,aU,leH,aD,wfB,wfV]
theorem ajT (l:List Int) (x:Int):Ok 56 [bI' l,.i x] (Is (.b (hasB l x))):=by
 refine ok_of lw56 (by simp) ?_
 unfold c56
 simp -implicitDefEqProofs only [rX,aA,↓reduceIte,Nat.reduceEqDiff,reduceCtorEq,aL]
 refine sV _ _ _ (ajI l x) (by simp [aG,aK,aX,bQ,wkL,wk,wkR,wkB]) (fun g=>rfl) trivial ?_
 intro k hk
 simp -implicitDefEqProofs only [rX,↓rY,aA,↓reduceIte,aQ,aU,wfV,hk]
def fK (ps:List aF) (p:Int):Option aF:=if 0≤p then (ps[p.toNat]?).filter (fun x=>x.kind==1) else none
theorem Vg {ps:List aF} {p:Int} (h:p<0):fK ps p=none:=if_neg (by omega)
theorem Vi {ps:List aF} {p:Int} (h:(ps.length:Int)≤p):fK ps p=none:=by
 unfold fK
 rw [if_pos (by omega),yat (by omega)];rfl
theorem Qi {ps:List aF} {k:Nat} (h:k<ps.length):fK ps (k:Int)=if ps[k].kind=1 then some ps[k] else none:=by
 unfold fK
 rw [if_pos (by omega),yaa,yag h,Option.filter_some]
 by_cases e:ps[k].kind=1
 ·simp [e]
 ·simp [e]
theorem tK {ps:List aF} {p:Int} {x:aF} (h:fK ps p=some x):∃ (k:Nat) (hk:k<ps.length),p=k∧ps[k]=x∧x.kind=1:=by
 unfold fK at h
 split at h
 ·rename_i h0
  obtain ⟨h1,h2⟩:=Option.filter_eq_some_iff.1 h
  obtain ⟨h3,h4⟩:=List.getElem?_eq_some_iff.1 h1
  exact ⟨p.toNat,h3,by omega,h4,by simpa using h2⟩
 ·cases h
def zSp:aF:=⟨0,0,0⟩
theorem aaO (ps:List aF) (rs:List P.Road) (p:Int) (hl:ps.length≤1000):Ok 34 [P.bD ps rs,.i p] (Is (.tup [.agg ((fK ps p).getD zSp).enc,.b (fK ps p).isSome])):=by
 refine ok_of lw34 (by simp) ?_
 unfold c34 P.bD P.sps P.rds
 simp -implicitDefEqProofs only [rX,↓rY,aA,cells?,splice,↓reduceIte,Nat.reduceEqDiff,Nat.reduceAdd,reduceCtorEq,aC,bU,aQ,aU,wfV,wfL,isC,yac,aZ,aL]
 cases d1:decide (p<0) with
 | true =>
  have d1':=of_decide_eq_true d1
  simp -implicitDefEqProofs only [rX,↓rY,Vg d1',yar]
  rfl
 | false =>
  have d1':=of_decide_eq_false d1
  simp -implicitDefEqProofs only [↓rY]
  intro hml
  cases d2:decide ((ps.length:Int)≤p) with
  | true =>
   have d2':=of_decide_eq_true d2
   simp -implicitDefEqProofs only [rX,↓rY,Vi d2',yar]
   rfl
  | false =>
   have d2':=of_decide_eq_false d2
   obtain ⟨k,rfl⟩:∃ k:Nat,p=k:=⟨p.toNat,by omega⟩
   have hk:k<ps.length:=by omega
   have hs:=Qi hk
   simp -implicitDefEqProofs only [rX,↓rY,yaa,P.mQ,P.iQ,P.vL,P.nX]
   refine ⟨⟨by omega,by omega⟩,hk,?_⟩
   by_cases e:ps[k].kind=1
   ·rw [if_pos e] at hs
    simp -implicitDefEqProofs only [rX,↓rY,hs,e,bne_self_eq_false,yaz]
    exact ⟨⟨by omega,by omega⟩,hk,⟨trivial,trivial,trivial,trivial⟩⟩
   ·rw [if_neg e] at hs
    have e2:(ps[k].kind != 1)=true:=bne_iff_ne.2 e
    simp -implicitDefEqProofs only [rX,↓rY,hs,e2,yar]
    rfl
set_option maxRecDepth 20000
open Go.Fx.P (Arc aF)
structure CuS (n:Int) (cut:List Int) (j:Nat):Prop where
 le:j≤cut.length
 ok:∀ i (h:i<cut.length),i<j→0≤cut[i]∧cut[i]<n
 ord:∀ i (h:i+1<cut.length),i+1<j→cut[i]<cut[i+1]
theorem CuS.all {n:Int} {cut:List Int} (h:CuS n cut cut.length):nC n cut=(hasB cut 0&&!hasB cut 1):=by
 have h1:∀ x∈cut,0≤x∧x<n:=fun k hk=>by
  obtain ⟨j,hj,rfl⟩:=yai hk
  exact h.ok j hj hj
 have h2:cut.Pairwise (·<·):=yav.2 fun i j hi hj hij=>by
  obtain ⟨d,rfl⟩:∃ d,j=i+1+d:=⟨j-(i+1),by omega⟩
  induction d with
  | zero=>exact h.ord i (by omega) (by omega)
  | succ d ih=>exact Int.lt_trans (ih (by omega) (by omega)) (h.ord (i+1+d) (by omega) (by omega))
 have e1:nC n cut=true↔s6 n cut:=decide_eq_true_iff
 have e2:(hasB cut 0&&!hasB cut 1)=true↔(0:Int)∈cut∧¬(1:Int)∈cut:=by
  unfold hasB
  rw [Bool.and_eq_true,Bool.not_eq_true',decide_eq_false_iff_not,decide_eq_true_eq]
 rw [yaR,e1,e2]
 constructor
 ·rintro ⟨a,b,c⟩
  exact ⟨List.mem_of_mem_head? c,fun h=>(a 1 h).2.2 rfl⟩
 ·rintro ⟨a,b⟩
  refine ⟨fun x hx=>⟨(h1 x hx).1,(h1 x hx).2,fun e=>b (e▸hx)⟩,h2,?_⟩
  cases cut with
  | nil=>simp at a
  | cons x r =>
   rw [List.head?_cons]
   rcases yaL.1 a with e|e
   ·rw [←e]
   ·have:=(List.pairwise_cons.1 h2).1 0 e
    have:=(h1 x List.mem_cons_self).1
    omega
structure eU (ps:List aF) (rs:List P.Road):Prop where
 ok:P.fQ ps rs=0
 pl:ps.length≤6
 rl:rs.length≤20
theorem eU.net {ps:List aF} {rs:List P.Road} (h:eU ps rs):P.K.Val (P.nN ps) (P.bJ ps rs):=P.v8 h.ok
theorem eU.e25 {ps:List aF} {rs:List P.Road} (h:eU ps rs):Ok 25 [P.bD ps rs] (Is (P.net (P.nN ps) (P.bJ ps rs))):=by
 have:=P.akB ps rs (by have:=h.pl;omega) (by have:=h.rl;omega) (P.eG h.ok).2.2
 rw [P.Md] at this
 exact this
theorem eU.e51 {ps:List aF} {rs:List P.Road} (h:eU ps rs):Ok 51 [P.bD ps rs] (Is (P.net (P.nN ps) (P.bJ ps rs))):=by
 have:=P.aaN ps rs (by have:=h.pl;omega) (by have:=h.rl;omega) (P.eG h.ok).2.2
 rw [P.Md] at this
 exact this
theorem aW {h:List Blk} {g:Nat→Option Nat} {ps:List aF} {rs:List P.Road}:aK h g (.agg [P.sps ps,P.rds rs])∧wk (P.bD ps rs) (bQ h g (.agg [P.sps ps,P.rds rs])):=⟨⟨trivial,trivial,trivial⟩,⟨⟨rfl,rfl⟩,⟨rfl,rfl⟩,trivial⟩⟩
theorem akE (ps:List aF) (rs:List P.Road) (cut:List Int) (hF:eU ps rs) (hcl:cut.length≤1000000):Ok 18 [P.bD ps rs,P.li cut] (Is (.tup (if nC (P.nN ps) cut then [.i (bnd (P.bJ ps rs) cut),.i 0] else [.i 0,.i 110]))):=by
 refine ok_of lw18 (by simp) ?_
 unfold c18 P.bD
 simp -implicitDefEqProofs only [rX,↓rY,aA,cells?,↓reduceIte,Nat.reduceEqDiff,Nat.reduceAdd,aC,aL]
 refine aE hF.e51 ⟨⟨aW.1,trivial⟩,aW.2,trivial⟩ rfl trivial ?_
 have hV:=hF.net
 unfold P.net
 simp -implicitDefEqProofs only [rX,↓rY,aA,cells?,splice,↓reduceIte,Nat.reduceEqDiff,Nat.reduceAdd,reduceCtorEq,aC,isC,aZ]
 refine aE (aaM (P.nN ps) cut hcl) (by simp [aG,aK,aX,bQ,wkL,wk,wkR,wkB,P.li]) rfl trivial ?_
 cases hc:nC (P.nN ps) cut with
 | false=>simp -implicitDefEqProofs only [rX,↓rY,aA,↓reduceIte,Nat.reduceEqDiff,Nat.reduceAdd,aQ,aU,wfV,wfL]
 | true =>
  have hcP:s6 (P.nN ps) cut:=of_decide_eq_true hc
  simp -implicitDefEqProofs only [rX,↓rY,↓reduceIte,Nat.reduceEqDiff,Nat.reduceAdd,reduceCtorEq]
  refine aE (aeB (P.nN ps) (P.bJ ps rs) cut hV hcl (fun x hx=>⟨(hcP.1 x hx).1,(hcP.1 x hx).2.1⟩)) (by simp [aG,aK,aX,bQ,wkL,wk,wkR,wkB,P.net,P.li]) rfl trivial ?_
  simp -implicitDefEqProofs only [rX,aA,↓reduceIte,Nat.reduceEqDiff,aQ,aU,wfV,wfL]
set_option maxRecDepth 20000
open Go.Fx.P (Arc aF)
def j1 (ps:List aF) (rs:List P.Road) (r:Rf):Bool:=nC (P.nN ps) r.cut&&(bnd (P.bJ ps rs) r.cut==r.sent)&&decide (r.sent<P.dem ps)&&hasB r.cut (2+2*r.place)
theorem eU.e55 {ps:List aF} {rs:List P.Road} (h:eU ps rs):Ok 55 [P.bD ps rs] (Is (.i (P.dem ps))):=P.aaL ps rs (by have:=h.pl;omega) (P.eG h.ok).2.1
theorem eU.e28 {ps:List aF} {rs:List P.Road} (h:eU ps rs):Ok 28 [P.bD ps rs] (Is (.i (P.dem ps))):=P.akA ps rs (by have:=h.pl;omega) (P.eG h.ok).2.1
theorem Bl {r:Rf}:r.enc.all isC=true:=by unfold Rf.enc P.li;simp [isC,isD,Ng]
set_option maxHeartbeats 1000000 in
theorem ajU (ps:List aF) (rs:List P.Road) (r:Rf) (hF:eU ps rs) (hcl:r.cut.length≤1000000) (hp:0≤r.place∧r.place≤1000) :
  OkN Tryz.prog 52 [.ptr 0 0 0,.ptr 1 0 0,.ptr 2 0 0] [.var [.i (P.nN ps),.ro 4 ((P.bJ ps rs).map Arc.enc)],.var r.enc,.var [P.sps ps,P.rds rs]] [] (IsA (.b (j1 ps rs r)) [.var [.i (P.nN ps),.ro 4 ((P.bJ ps rs).map Arc.enc)],.var r.enc,.var [P.sps ps,P.rds rs]]):=by
 refine eS pol [0,1,2] lw52 (by simp) ⟨trivial,trivial,trivial,trivial⟩ (by intro k hk _;simp at hk ⊢;omega) ?_
 have hV:=hF.net
 unfold c52 Rf.enc j1 P.li P.sps P.rds
 have ul:∀ l:Bs,bA (us l) (us l)=True:=fun l=>eq_true acS
 simp -implicitDefEqProofs only [rX,↓rY,rdK,aA,↓reduceIte,Nat.reduceEqDiff,Nat.reduceAdd,reduceCtorEq,aJ,aL]
 refine aE (aaM (P.nN ps) r.cut hcl) (by simp [aG,aK,aX,bQ,wkL,wk,wkR,wkB,P.li]) rfl ⟨trivial,trivial,trivial,trivial⟩ ?_
 cases hc:nC (P.nN ps) r.cut with
 | false =>
  simp -implicitDefEqProofs only [rX,↓rY,rdK,aA,↓reduceIte,Nat.reduceEqDiff,Nat.reduceAdd,reduceCtorEq,aQ,aU,leH,leB,leV,bA,aD,aB,wfB,wfV,wfL,yaU,cQ,ul,hU]
 | true =>
  have hcP:s6 (P.nN ps) r.cut:=of_decide_eq_true hc
  simp -implicitDefEqProofs only [rX,↓rY,rdK,↓reduceIte,Nat.reduceEqDiff,Nat.reduceAdd,reduceCtorEq,aJ]
  refine aE (aeB (P.nN ps) (P.bJ ps rs) r.cut hV hcl (fun x hx=>⟨(hcP.1 x hx).1,(hcP.1 x hx).2.1⟩)) (by simp [aG,aK,aX,bQ,wkL,wk,wkR,wkB,P.net,P.li]) rfl ⟨trivial,trivial,trivial,trivial⟩ ?_
  cases hb:(bnd (P.bJ ps rs) r.cut==r.sent) with
  | false =>
   simp -implicitDefEqProofs only [rX,↓rY,rdK,aA,↓reduceIte,Nat.reduceEqDiff,Nat.reduceAdd,reduceCtorEq,aQ,aU,leH,leB,leV,bA,aD,aB,wfB,wfV,wfL,yaU,yaV,cQ,hb,ul,hU]
  | true =>
   simp -implicitDefEqProofs only [rX,↓rY,rdK,↓reduceIte,Nat.reduceEqDiff,Nat.reduceAdd,reduceCtorEq,aJ,hb]
   refine aE hF.e55 ⟨⟨aW.1,trivial⟩,aW.2,trivial⟩ rfl ⟨trivial,trivial,trivial,trivial⟩ ?_
   cases hd:decide (r.sent<P.dem ps) with
   | false =>
    simp -implicitDefEqProofs only [rX,↓rY,rdK,aA,↓reduceIte,Nat.reduceEqDiff,Nat.reduceAdd,aQ,aU,leH,leB,leV,bA,aD,aB,wfB,wfV,wfL,yaU,yaV,cQ,hd,ul,hU]
   | true =>
    simp -implicitDefEqProofs only [rX,↓rY,rdK,aA,↓reduceIte,Nat.reduceEqDiff,reduceCtorEq,aJ,hd]
    refine ⟨⟨by simp only [lo];omega,by simp only [Fx.hi];omega⟩,⟨by simp only [lo];omega,by simp only [Fx.hi];omega⟩,?_⟩
    refine aE (ajT r.cut (2+2*r.place)) (by simp [aG,aK,aX,bQ,wkL,wk,wkR,wkB,P.li]) rfl ⟨trivial,trivial,trivial,trivial⟩ ?_
    simp -implicitDefEqProofs only [rX,↓rY,↓reduceIte,Nat.reduceEqDiff,Nat.reduceAdd,aQ,aU,leH,leB,leV,bA,aD,aB,wfB,wfV,wfL,yaV,cQ,ul,hU]
def uH (ps:List aF) (rs:List P.Road) (r:Rf):Int :=
 match fK ps r.place with
 | none=>5
 | some x=>if r.n<0∨x.cap≤r.n∨pE r.win=false then 1 else if j1 ps rs r then 0 else 110
set_option maxHeartbeats 1000000 in
theorem aaP (ps:List aF) (rs:List P.Road) (r:Rf) (hF:eU ps rs) (hcl:r.cut.length≤1000000):Ok 14 [P.bD ps rs,.agg r.enc] (Is (.i (uH ps rs r))):=by
 refine ok_of lw14 (by simp) ?_
 have o34:=aaO ps rs r.place (by have:=hF.pl;omega)
 unfold c14 P.bD Rf.enc
 simp -implicitDefEqProofs only [rX,↓rY,aA,cells?,↓reduceIte,Nat.reduceEqDiff,Nat.reduceAdd,reduceCtorEq,aC,aL]
 unfold uH
 cases hs:fK ps r.place with
 | none =>
  rw [hs] at o34
  refine aE o34 ⟨⟨aW.1,trivial,trivial⟩,aW.2,rfl,trivial⟩ rfl trivial ?_
  simp -implicitDefEqProofs only [rX,↓rY,aA,cells?,splice,↓reduceIte,Nat.reduceEqDiff,Nat.reduceAdd,aC,aQ,aU,wfV,isC,aZ,P.aF.enc,zSp,yar]
 | some x =>
  rw [hs] at o34
  obtain ⟨k,hk,hpk,hx,hkind⟩:=tK hs
  refine aE o34 ⟨⟨aW.1,trivial,trivial⟩,aW.2,rfl,trivial⟩ rfl trivial ?_
  simp -implicitDefEqProofs only [rX,↓rY,aA,cells?,splice,↓reduceIte,Nat.reduceEqDiff,Nat.reduceAdd,aC,aQ,aU,wfV,isC,aZ,P.aF.enc,yaz]
  cases d1:decide (r.n<0) with
  | true =>
   have d1':=of_decide_eq_true d1
   simp -implicitDefEqProofs only [↓rY]
   rw [if_pos (.inl d1')]
  | false =>
   have d1':=of_decide_eq_false d1
   simp -implicitDefEqProofs only [↓rY]
   cases d2:decide (x.cap≤r.n) with
   | true =>
    have d2':=of_decide_eq_true d2
    simp -implicitDefEqProofs only [↓rY]
    rw [if_pos (.inr (.inl d2'))]
   | false =>
    have d2':=of_decide_eq_false d2
    simp -implicitDefEqProofs only [↓rY]
    refine aE (aeF r.win) ⟨⟨trivial,trivial⟩,rfl,trivial⟩ rfl trivial ?_
    cases d3:pE r.win with
    | false =>
     simp -implicitDefEqProofs only [rX,↓rY,aA,↓reduceIte,Nat.reduceEqDiff,Nat.reduceAdd,aQ,aU,wfV]
     rw [if_pos (.inr (.inr trivial))]
    | true =>
     rw [if_neg (by simp;omega)]
     simp -implicitDefEqProofs only [rX,↓rY,↓reduceIte,Nat.reduceEqDiff,Nat.reduceAdd]
     refine aE hF.e51 ⟨⟨aW.1,trivial⟩,aW.2,trivial⟩ rfl trivial ?_
     unfold P.net
     simp -implicitDefEqProofs only [rX,↓rY,aA,cells?,splice,↓reduceIte,Nat.reduceEqDiff,Nat.reduceAdd,aC,isC,aZ]
     refine dC [3,1,0] [.ptr 0 0 0,.ptr 1 0 0,.ptr 2 0 0] (.b (j1 ps rs r)) (.b (j1 ps rs r)) [.var [.i (P.nN ps),.ro 4 ((P.bJ ps rs).map Arc.enc)],.var r.enc,.var [P.sps ps,P.rds rs]] [.var [.i (P.nN ps),.ro 4 ((P.bJ ps rs).map Arc.enc)],.var r.enc,.var [P.sps ps,P.rds rs]] [.var [P.sps ps,P.rds rs],.var r.enc,.var [.i x.kind,.i x.num,.i x.cap],.var [.i (P.nN ps),.ro 4 ((P.bJ ps rs).map Arc.enc)]]
      (ajU ps rs r hF hcl (by have:=hF.pl;omega)) (by simp [aZ]) (by simp [blk,cB,cK,ren,mM,P.li,P.sps,P.rds,Rf.enc]) (by simp [aG,aK,aX,bQ,wkL,wk,wkR,pos]) (by simp) (by simp [bH,cB,cK,ren,mM,P.li,P.sps,P.rds,Rf.enc]) rfl trivial ?_
     cases hq:j1 ps rs r with
     | false=>simp -implicitDefEqProofs only [rX,↓rY,aA,↓reduceIte,Nat.reduceAdd,aQ,aU,wfV]
     | true=>simp -implicitDefEqProofs only [rX,↓rY,aA,↓reduceIte,Nat.reduceAdd,aQ,aU,wfV]
set_option maxRecDepth 20000
open Go.Fx.P (Arc aF)
theorem Lo {k:Ky} {r:Rf} (hk:k.sec.length≤1000) (hr:r.Ok):acJ k (partsOf r):=by
 have h1:=Sc hr.n7 (by simp)
 have h2:=Sc hr.cut (by have:=hr.len;omega)
 have h3:=hr.len
 simp only [yaD,List.length_nil] at h1
 have t1:=It (t:=k.sec) (by omega)
 have t2:=It (t:=lB [r.place,r.n,r.win,r.sent,r.lo,r.hi,r.serial]) (by omega)
 have t3:=It (t:=lB r.cut) (by omega)
 refine ⟨?_,by simp [partsOf]⟩
 unfold inB partsOf
 simp only [yaD,yaq,List.map_cons,List.map_nil,List.cons_append,List.nil_append,List.flatten_cons,List.flatten_nil,List.length_nil]
 omega
def Ox (ring:List Ky) (ps:List aF) (r:Rf):Int :=
 match fK ps r.place with
 | none=>5
 | some x=>Kd ring (1000+x.num) r.serial 410 (partsOf r) r.sg r.lo r.hi
theorem Ow {ps:List aF} {rs:List P.Road} (h:P.fQ ps rs=0):∀ i (hi:i<ps.length),P.j7 ps[i]:=by
 unfold P.fQ at h
 by_cases h1:100<ps.length∨1500<rs.length
 ·rw [if_pos h1] at h;cases h
 rw [if_neg h1] at h
 by_cases h2:P.iK (P.eAt ps) ps.length 0≠0
 ·rw [if_pos h2] at h;exact absurd h h2
 simp only [ne_eq,Classical.not_not] at h2
 have key:∀ n i,i≤n→i<ps.length→P.eAt ps i=0:=by
  intro n
  induction n with
  | zero =>
   intro i hi hil
   by_cases h4:P.eAt ps i=0
   ·exact h4
   ·exact absurd (P.iX (n:=ps.length) (k:=0) (by omega) (by omega) (fun j _ hj=>by omega) h4) (by rw [h2];exact fun h5=>h4 h5.symm)
  | succ n ih =>
   intro i hi hil
   by_cases h4:P.eAt ps i=0
   ·exact h4
   ·exact absurd (P.iX (n:=ps.length) (k:=0) (by omega) (by omega) (fun j _ hj=>ih j (by omega) (by omega)) h4) (by rw [h2];exact fun h5=>h4 h5.symm)
 intro i hi
 have:=key i i (yan _) hi
 rw [P.Fd hi] at this
 by_cases h4:P.f7 ps[i]=false
 ·rw [if_pos h4] at this;cases this
 ·simpa [P.f7] using h4
theorem xR {ps:List aF} {rs:List P.Road} (hF:eU ps rs) {p:Int} {x:aF} (h:fK ps p=some x):0≤x.num∧x.num<64:=by
 obtain ⟨k,hk,_,rfl,hkind⟩:=tK h
 have h1:=Ow hF.ok k hk
 unfold P.j7 at h1
 omega
theorem eY {h:List Blk} {g:Nat→Option Nat} {r:Rf} {s:List V} (hs:s=r.enc):aK h g (.agg s)∧wk (.agg r.enc) (bQ h g (.agg s)):=by
 subst hs
 exact ⟨⟨trivial,trivial,trivial,trivial,trivial,trivial,trivial,trivial,(dR _ oW).1⟩,⟨rfl,rfl,rfl,rfl,⟨rfl,rfl⟩,rfl,rfl,rfl,(dR _ oW).2⟩⟩
theorem Vr {r:Rf} (h:r.sg.length=16):yaj 24 (.i r.place::.i r.n::.i r.win::.i r.sent::P.li r.cut::.i r.lo::.i r.hi::.i r.serial::us r.sg)=r.enc:=yao (by simp [pD,h])
set_option maxHeartbeats 1000000 in
theorem aeJ (ring:List Ky) (ps:List aF) (rs:List P.Road) (r:Rf) (hF:eU ps rs) (hr:r.Ok) (hR:Bb ring) (hl:ring.length≤1000000) (hsg:r.sg.length=16):Ok 16 [bK ring,P.bD ps rs,.agg r.enc] (Is (.i (Ox ring ps r))):=by
 refine ok_of lw16 (by simp) ?_
 have o34:=aaO ps rs r.place (by have:=hF.pl;omega)
 have hser:=hr.n7 r.serial (by simp)
 obtain ⟨u1,u2,u3⟩:=Pt hsg
 unfold c16 P.bD Rf.enc
 simp -implicitDefEqProofs only [rX,↓rY,aA,cells?,↓reduceIte,Nat.reduceEqDiff,Nat.reduceAdd,reduceCtorEq,aC,aL]
 unfold Ox
 cases hs:fK ps r.place with
 | none =>
  rw [hs] at o34
  refine aE o34 ⟨⟨aW.1,trivial,trivial⟩,aW.2,rfl,trivial⟩ rfl trivial ?_
  simp -implicitDefEqProofs only [rX,↓rY,aA,cells?,splice,↓reduceIte,Nat.reduceEqDiff,Nat.reduceAdd,aC,aQ,aU,wfV,isC,aZ,P.aF.enc,zSp,yar]
 | some x =>
  rw [hs] at o34
  have hnum:=xR hF hs
  have o58:=ajS ring (1000+x.num) r.serial 410 (partsOf r) r.sg r.lo r.hi hR hl ⟨by omega,hser⟩ hsg (fun k hk=>Lo (by have:=(hR.ok k hk).2.2.1;omega) hr)
  refine aE o34 ⟨⟨aW.1,trivial,trivial⟩,aW.2,rfl,trivial⟩ rfl trivial ?_
  simp -implicitDefEqProofs only [rX,↓rY,rdK,aA,cells?,splice,↓reduceIte,Nat.reduceEqDiff,Nat.reduceAdd,reduceCtorEq,aC,isC,Nat.reduceLeDiff,aZ,aJ,P.aF.enc,yaz,pD,u2,hsg,Vr hsg]
  refine ⟨⟨by simp only [lo];omega,by simp only [Fx.hi];omega⟩,?_⟩
  refine aE (aeC r hr) ⟨⟨(eY rfl).1,trivial⟩,(eY rfl).2,trivial⟩ rfl trivial ?_
  simp -implicitDefEqProofs only [rX,aA,↓reduceIte,Nat.reduceEqDiff,aJ]
  refine aE o58 ⟨⟨trivial,trivial,trivial,trivial,trivial,(dR _ oW).1,⟨trivial,trivial,trivial⟩,trivial⟩,⟨rfl,rfl⟩,rfl,rfl,rfl,⟨rfl,rfl⟩,(dR _ oW).2,⟨rfl,rfl,trivial⟩,trivial⟩ rfl trivial ?_
  simp -implicitDefEqProofs only [rX,↓reduceIte,aQ,aU,wfV]
set_option maxRecDepth 20000
open Go.Fx.P (Arc aF)
theorem ajV (l:List Int) (hl:l.length≤1000000):Ok 39 [P.li l] (Is (P.li l)):=by
 refine tX (ok_of lw39 (by simp) ?_)
 unfold c39 P.li
 simp -implicitDefEqProofs only [rX,↓rY,aA,↓reduceIte,Nat.reduceEqDiff,reduceCtorEq,aC,cG,bN,bE,kill,St.kill,aZ,aJ,aL]
 refine ⟨fun _=>⟨.inr trivial,by omega,Jk rfl rfl (by simp)⟩,fun he=>⟨?_,.inr trivial,by omega,Jk rfl rfl (by simp)⟩⟩
 rw [he]
 exact Vu rfl
theorem u16:us z16=[.v (.int .u8 0),.v (.int .u8 0),.v (.int .u8 0),.v (.int .u8 0),.v (.int .u8 0),.v (.int .u8 0),.v (.int .u8 0),.v (.int .u8 0),.v (.int .u8 0),.v (.int .u8 0),.v (.int .u8 0),.v (.int .u8 0),.v (.int .u8 0),.v (.int .u8 0),.v (.int .u8 0),.v (.int .u8 0)]:=by
 unfold us z16;rfl
theorem ahZ {x0 x1 x2 x3 x4 x5 x6 x7 x8 x9 x10 x11 x12 x13 x14 x15 x16 x17 x18 x19 x20 x21 x22 x23:V}:yaj 24 [x0,x1,x2,x3,x4,x5,x6,x7,x8,x9,x10,x11,x12,x13,x14,x15,x16,x17,x18,x19,x20,x21,x22,x23]=[x0,x1,x2,x3,x4,x5,x6,x7,x8,x9,x10,x11,x12,x13,x14,x15,x16,x17,x18,x19,x20,x21,x22,x23]:=rfl
theorem vR {x0 x1 x2 x3 x4 x5 x6 x7 x8 x9 x10 x11 x12 x13 x14 x15 x16 x17 x18 x19 x20 x21 x22 x23:V} {r:List V}:List.drop 24 (x0::x1::x2::x3::x4::x5::x6::x7::x8::x9::x10::x11::x12::x13::x14::x15::x16::x17::x18::x19::x20::x21::x22::x23::r)=r:=rfl
theorem Lg {M:Nat→Bool} {h:List Blk}:∀ {l:List V},(∀ x∈l,∃ u,x=.v u)→wkL l (gvL M h l)
 | [],_=>trivial
 | x::r,q=>by
  obtain ⟨u,rfl⟩:=q x List.mem_cons_self
  exact ⟨rfl,Lg fun y hy=>q y (List.mem_cons_of_mem _ hy)⟩
def zRf:Rf:=⟨0,0,0,0,[],0,0,0,z16⟩
def rf0 (k:Ky) (fr:P.Fr) (place n w a b:Int):Rf:=⟨place,n,w,fr.sent,fr.cut,a,b,k.serial,z16⟩
def rf1 (k:Ky) (fr:P.Fr) (place n w a b:Int):Rf:={ rf0 k fr place n w a b with sg:=mS k 410 (partsOf (rf0 k fr place n w a b)) }
theorem g0 {h:List Blk} {g:Nat→Option Nat} {fr:P.Fr}:aK h g (.agg [.i fr.sent,.i fr.cost,P.li fr.flow,P.li fr.price,P.li fr.cut])∧wk fr.enc (bQ h g (.agg [.i fr.sent,.i fr.cost,P.li fr.flow,P.li fr.price,P.li fr.cut])):=⟨⟨trivial,trivial,trivial,trivial,trivial,trivial⟩,⟨rfl,rfl,⟨rfl,rfl⟩,⟨rfl,rfl⟩,⟨rfl,rfl⟩,trivial⟩⟩
theorem Xi {ps:List aF} {rs:List P.Road} {fr:P.Fr} (hF:eU ps rs) (h:P.sZ ps rs fr=0):P.K.OkAc (P.nN ps) (P.bJ ps rs) 0 1 (P.dem ps) fr∧ps.length≤fr.flow.length:=by
 have hc:=hF.ok
 unfold P.sZ P.K.accI at h
 rw [if_neg (by simp [hc])] at h
 by_cases hA:P.K.OkAc (P.nN ps) (P.bJ ps rs) 0 1 (P.dem ps) fr
 ·refine ⟨hA,?_⟩
  rw [hA.fl.hl]
  unfold P.bJ P.nA4 P.nA3
  simp only [yaq,P.w5]
  omega
 ·rw [if_neg hA] at h;cases h
def uR (k:Ky) (ps:List aF) (place n w a b:Int):Prop:=∃ x,fK ps place=some x∧KyP k∧k.party=1000+x.num∧PeP a b∧pE w=true∧0≤n∧n<x.cap
open Classical in
noncomputable def mkE (k:Ky) (ps:List aF) (rs:List P.Road) (fr:P.Fr) (place n w a b:Int):Int :=
 if uR k ps place n w a b then if P.sZ ps rs fr=0 then if n<fr.flow.getD place.toNat 0 then 4 else 0 else 110 else 1
open Classical in
noncomputable def mkR (k:Ky) (ps:List aF) (rs:List P.Road) (fr:P.Fr) (place n w a b:Int):Rf:=if mkE k ps rs fr place n w a b=0 then rf1 k fr place n w a b else zRf
theorem Wa {k:Ky} {ps:List aF} {rs:List P.Road} {fr:P.Fr} {place n w a b:Int} (h:¬uR k ps place n w a b):mkE k ps rs fr place n w a b=1∧mkR k ps rs fr place n w a b=zRf:=by
 have e:mkE k ps rs fr place n w a b=1:=by unfold mkE;rw [if_neg h]
 exact ⟨e,by unfold mkR;rw [e,if_neg (by decide)]⟩
theorem Rt {k:Ky} {ps:List aF} {rs:List P.Road} {fr:P.Fr} {place n w a b:Int} (h:uR k ps place n w a b) (h2:P.sZ ps rs fr≠0):mkE k ps rs fr place n w a b=110∧mkR k ps rs fr place n w a b=zRf:=by
 have e:mkE k ps rs fr place n w a b=110:=by unfold mkE;rw [if_pos h,if_neg h2]
 exact ⟨e,by unfold mkR;rw [e,if_neg (by decide)]⟩
theorem aaV {k:Ky} {ps:List aF} {rs:List P.Road} {fr:P.Fr} {place n w a b:Int} (h:uR k ps place n w a b) (h2:P.sZ ps rs fr=0) (h3:n<fr.flow.getD place.toNat 0):mkE k ps rs fr place n w a b=4∧mkR k ps rs fr place n w a b=zRf:=by
 have e:mkE k ps rs fr place n w a b=4:=by unfold mkE;rw [if_pos h,if_pos h2,if_pos h3]
 exact ⟨e,by unfold mkR;rw [e,if_neg (by decide)]⟩
theorem Wb {k:Ky} {ps:List aF} {rs:List P.Road} {fr:P.Fr} {place n w a b:Int} (h:uR k ps place n w a b) (h2:P.sZ ps rs fr=0) (h3:¬n<fr.flow.getD place.toNat 0):mkE k ps rs fr place n w a b=0∧mkR k ps rs fr place n w a b=rf1 k fr place n w a b:=by
 have e:mkE k ps rs fr place n w a b=0:=by unfold mkE;rw [if_pos h,if_pos h2,if_neg h3]
 exact ⟨e,by unfold mkR;rw [e,if_pos rfl]⟩
set_option maxHeartbeats 4000000 in
theorem Vz (k:Ky) (ps:List aF) (rs:List P.Road) (fr:P.Fr) (place n w a b:Int) (hF:eU ps rs) (hr:(rf0 k fr place n w a b).Ok) (hsec:k.sec.length≤1000) :
  Ok 10 [.agg k.enc,P.bD ps rs,fr.enc,.i place,.i n,.i w,.agg [.i a,.i b]] (Is (.tup [.agg (mkR k ps rs fr place n w a b).enc,.i (mkE k ps rs fr place n w a b)])):=by
 refine tX (ok_of lw10 (by simp) ?_)
 have o34:=aaO ps rs place (by have:=hF.pl;omega)
 unfold c10 P.bD Ky.enc P.Fr.enc
 simp -implicitDefEqProofs only [rX,↓rY,aA,cells?,↓reduceIte,Nat.reduceEqDiff,Nat.reduceAdd,reduceCtorEq,aC,aL]
 have zret:∀ (e:Env) (h:List Blk) (b:Nat) (E:Int),get e 14=.ptr 4 0 0→h[4]?=some (.var [.i 0,.i 0,.i 0,.i 0,.v (.slice none 0 0),.i 0,.i 0,.i 0,.v (.int .u8 0),.v (.int .u8 0),.v (.int .u8 0),.v (.int .u8 0),.v (.int .u8 0),.v (.int .u8 0),.v (.int .u8 0),.v (.int .u8 0),.v (.int .u8 0),.v (.int .u8 0),.v (.int .u8 0),.v (.int .u8 0),.v (.int .u8 0),.v (.int .u8 0),.v (.int .u8 0),.v (.int .u8 0)])→get e 15=.i E →
   eZ [] 0 [.cell 14 (some 24),.tmp 15] (Gv (.tup [.agg zRf.enc,.i E])) ⟨e,h,b⟩:=by
  intro e h b E h1 h2 h3
  refine r8 ?_
  simp -implicitDefEqProofs only [rX,↓rY,Nat.reduceAdd,aQ,aU,wfV,wfL,h1,h2,h3,zRf,Rf.enc,P.li,u16]
  exact ⟨by simp [wfL,wfV],by simp [Gv,gvV,gvL,wk,wkL,wkR]⟩
 cases hs:fK ps place with
 | none =>
  rw [hs] at o34
  have hno:¬uR k ps place n w a b:=by rintro ⟨x,hx,_⟩;rw [hs] at hx;cases hx
  rw [(Wa hno).1,(Wa hno).2]
  refine aE o34 ⟨⟨aW.1,trivial,trivial⟩,aW.2,rfl,trivial⟩ rfl trivial ?_
  simp -implicitDefEqProofs only [rX,↓rY,aA,cells?,splice,↓reduceIte,Nat.reduceEqDiff,Nat.reduceAdd,aC,bU,isC,aZ,P.aF.enc,zSp,yar]
  exact zret _ _ _ 1 rfl rfl rfl
 | some x =>
  rw [hs] at o34
  refine aE o34 ⟨⟨aW.1,trivial,trivial⟩,aW.2,rfl,trivial⟩ rfl trivial ?_
  simp -implicitDefEqProofs only [rX,↓rY,aA,cells?,splice,↓reduceIte,Nat.reduceEqDiff,Nat.reduceAdd,aC,isC,aZ,P.aF.enc,yaz]
  have bad:∀ (e:Env) (h:List Blk) (b':Nat),¬uR k ps place n w a b→get e 14=.ptr 4 0 0→h[4]?=some (.var [.i 0,.i 0,.i 0,.i 0,.v (.slice none 0 0),.i 0,.i 0,.i 0,.v (.int .u8 0),.v (.int .u8 0),.v (.int .u8 0),.v (.int .u8 0),.v (.int .u8 0),.v (.int .u8 0),.v (.int .u8 0),.v (.int .u8 0),.v (.int .u8 0),.v (.int .u8 0),.v (.int .u8 0),.v (.int .u8 0),.v (.int .u8 0),.v (.int .u8 0),.v (.int .u8 0),.v (.int .u8 0)])→get e 15=.i 1 →
    eZ [] 0 [.cell 14 (some 24),.tmp 15] (Gv (.tup [.agg (mkR k ps rs fr place n w a b).enc,.i (mkE k ps rs fr place n w a b)])) ⟨e,h,b'⟩:=by
   intro e h b' hno h1 h2 h3
   rw [(Wa hno).1,(Wa hno).2]
   exact zret e h b' 1 h1 h2 h3
  have hA:∀ {q:Prop},(uR k ps place n w a b→q)→¬q→¬uR k ps place n w a b:=fun f g h=>g (f h)
  have arg:uR k ps place n w a b→KyP k∧k.party=1000+x.num∧PeP a b∧pE w=true∧0≤n∧n<x.cap:=by
   rintro ⟨y,hy,q⟩
   rw [hs] at hy;cases hy;exact q
  have hnum:=xR hF hs
  obtain ⟨pk,hpk,rfl,hpx,hkind⟩:=tK hs
  refine aE (ajX k) ⟨⟨gZ.1,trivial⟩,gZ.2,trivial⟩ rfl trivial ?_
  cases d1:kyB k with
  | false =>
   have d1':=of_decide_eq_false d1
   simp -implicitDefEqProofs only [rX,↓rY,aA,cells?,splice,↓reduceIte,Nat.reduceEqDiff,Nat.reduceAdd,bU,isC,aZ]
   exact bad _ _ _ (hA arg fun q=>d1' q.1) rfl rfl rfl
  | true =>
  have d1':KyP k:=of_decide_eq_true d1
  simp -implicitDefEqProofs only [rX,↓rY,aA,cells?,splice,↓reduceIte,Nat.reduceEqDiff,Nat.reduceAdd,bU,isC,aZ]
  refine ⟨⟨by simp only [lo];omega,by simp only [Fx.hi];omega⟩,?_⟩
  cases d2:(k.party != 1000+x.num) with
  | true =>
   have d2':=bne_iff_ne.1 d2
   simp -implicitDefEqProofs only [↓rY]
   exact bad _ _ _ (hA arg fun q=>d2' q.2.1) rfl rfl rfl
  | false =>
  have d2':k.party=1000+x.num:=by simpa using d2
  simp -implicitDefEqProofs only [↓rY]
  refine aE (ajW a b) ⟨⟨⟨trivial,trivial,trivial⟩,trivial⟩,⟨rfl,rfl,trivial⟩,trivial⟩ rfl trivial ?_
  cases d3:peB a b with
  | false =>
   have d3':=of_decide_eq_false d3
   simp -implicitDefEqProofs only [rX,↓rY,aA,cells?,splice,↓reduceIte,Nat.reduceEqDiff,Nat.reduceAdd,bU,isC,aZ]
   exact bad _ _ _ (hA arg fun q=>d3' q.2.2.1) rfl rfl rfl
  | true =>
  have d3':PeP a b:=of_decide_eq_true d3
  simp -implicitDefEqProofs only [rX,↓rY,↓reduceIte,Nat.reduceEqDiff,reduceCtorEq]
  refine aE (aeF w) ⟨⟨trivial,trivial⟩,rfl,trivial⟩ rfl trivial ?_
  cases d4:pE w with
  | false =>
   simp -implicitDefEqProofs only [rX,↓rY,aA,cells?,splice,↓reduceIte,Nat.reduceEqDiff,Nat.reduceAdd,bU,isC,aZ]
   exact bad _ _ _ (hA arg fun q=>by rw [d4] at q;exact absurd q.2.2.2.1 (by simp)) rfl rfl rfl
  | true =>
  simp -implicitDefEqProofs only [rX,↓rY,aA,cells?,splice,↓reduceIte,Nat.reduceEqDiff,Nat.reduceAdd,reduceCtorEq,bU,isC,aZ]
  cases d5:decide (n<0) with
  | true =>
   have d5':=of_decide_eq_true d5
   simp -implicitDefEqProofs only [↓rY]
   exact bad _ _ _ (hA arg fun q=>by omega) rfl rfl rfl
  | false =>
  have d5':=of_decide_eq_false d5
  simp -implicitDefEqProofs only [↓rY]
  cases d6:decide (x.cap≤n) with
  | true =>
   have d6':=of_decide_eq_true d6
   simp -implicitDefEqProofs only [↓rY]
   exact bad _ _ _ (hA arg fun q=>by omega) rfl rfl rfl
  | false =>
  have d6':=of_decide_eq_false d6
  have hArg:uR k ps (pk:Int) n w a b:=⟨x,hs,d1',d2',d3',d4,by omega,by omega⟩
  simp -implicitDefEqProofs only [↓rY]
  by_cases h2:P.sZ ps rs fr=0
  ·have hfl:=(Xi hF h2).2
   refine aE (P.aeE ps rs fr) ⟨⟨aW.1,g0.1,trivial⟩,aW.2,g0.2,trivial⟩ rfl trivial ?_
   simp -implicitDefEqProofs only [rX,↓rY,aA,cells?,splice,↓reduceIte,Nat.reduceEqDiff,Nat.reduceAdd,reduceCtorEq,bU,isC,aZ,h2,bne_self_eq_false]
   refine aE (P.aeG ps rs fr pk hpk hfl) ⟨⟨aW.1,g0.1,trivial,trivial⟩,aW.2,g0.2,rfl,trivial⟩ rfl trivial ?_
   cases d7:decide (n<fr.flow.getD pk 0) with
   | true =>
    have d7':=of_decide_eq_true d7
    obtain ⟨e1,e2⟩:=aaV hArg h2 (by rw [yaa];exact d7')
    rw [e1,e2]
    rw [yaf] at d7
    simp -implicitDefEqProofs only [rX,↓rY,aA,cells?,splice,↓reduceIte,Nat.reduceEqDiff,Nat.reduceAdd,bU,isC,aZ,d7]
    exact zret _ _ _ 4 rfl rfl rfl
   | false =>
    have d7':=of_decide_eq_false d7
    obtain ⟨e1,e2⟩:=Wb hArg h2 (by rw [yaa];exact d7')
    rw [e1,e2]
    rw [yaf] at d7
    simp -implicitDefEqProofs only [rX,↓rY,rdK,aA,cells?,↓reduceIte,Nat.reduceEqDiff,Nat.reduceAdd,reduceCtorEq,aC,aJ,d7]
    have hz:[.i (pk:Int),.i n,.i w,.i fr.sent,P.li fr.cut,.i a,.i b,.i k.serial,.v (.int .u8 0),.v (.int .u8 0),.v (.int .u8 0),.v (.int .u8 0),.v (.int .u8 0),.v (.int .u8 0),.v (.int .u8 0),.v (.int .u8 0),.v (.int .u8 0),.v (.int .u8 0),.v (.int .u8 0),.v (.int .u8 0),.v (.int .u8 0),.v (.int .u8 0),.v (.int .u8 0),.v (.int .u8 0)]=(rf0 k fr (pk:Int) n w a b).enc:=by unfold Rf.enc rf0;simp only [u16]
    have o41:=aeC (rf0 k fr (pk:Int) n w a b) hr
    have o39:=ajV fr.cut hr.len
    have o40:=aeD k 410 (partsOf (rf0 k fr (pk:Int) n w a b)) (Lo hsec hr)
    obtain ⟨v1,v2,v3⟩:=Pt (cW (k:=k) (tag:=410) (l:=partsOf (rf0 k fr (pk:Int) n w a b)))
    have hv:∀ {c0 c1 c2 c3 c4 c5 c6 c7:V},yaj 24 (c0::c1::c2::c3::c4::c5::c6::c7::us (mS k 410 (partsOf (rf0 k fr (pk:Int) n w a b))))=c0::c1::c2::c3::c4::c5::c6::c7::us (mS k 410 (partsOf (rf0 k fr (pk:Int) n w a b))):=yao (by simp [v1])
    simp only [P.li] at hz o39 ⊢
    refine ⟨?_,?_⟩
    all_goals
     refine aE o39 ⟨⟨trivial,trivial⟩,⟨rfl,rfl⟩,trivial⟩ rfl trivial ?_
     simp -implicitDefEqProofs only [rX,↓rY,rdK,aA,cells?,splice,↓reduceIte,Nat.reduceEqDiff,Nat.reduceAdd,aC,bU,isC,Nat.reduceLeDiff,aJ,ahZ,vR]
     refine aE o41 ⟨⟨(eY hz).1,trivial⟩,(eY hz).2,trivial⟩ rfl trivial ?_
     simp -implicitDefEqProofs only [rX,aA,↓reduceIte,Nat.reduceEqDiff,aJ]
     refine aE o40 ⟨⟨gZ.1,trivial,trivial,trivial⟩,gZ.2,rfl,⟨rfl,rfl⟩,trivial⟩ (by simp [ren,mM]) trivial ?_
     simp -implicitDefEqProofs only [rX,↓rY,aA,cells?,splice,↓reduceIte,Nat.reduceEqDiff,Nat.reduceAdd,isC,Nat.reduceLeDiff,aZ,aJ,vR,v1,Ng,hv]
     refine r8 ?_
     simp -implicitDefEqProofs only [rX,↓rY,↓reduceIte,Nat.reduceEqDiff,Nat.reduceAdd,aQ,aU,wfV,wfL,v1,hv,hU]
     exact ⟨⟨rfl,rfl,rfl,rfl,⟨rfl,rfl⟩,rfl,rfl,rfl,Lg oW⟩,rfl,trivial⟩
  ·have h2':(P.sZ ps rs fr != 0)=true:=bne_iff_ne.2 h2
   refine aE (P.aeE ps rs fr) ⟨⟨aW.1,g0.1,trivial⟩,aW.2,g0.2,trivial⟩ rfl trivial ?_
   simp -implicitDefEqProofs only [rX,↓rY,aA,cells?,splice,↓reduceIte,Nat.reduceEqDiff,Nat.reduceAdd,reduceCtorEq,bU,isC,aZ,h2']
   rw [(Rt hArg h2).1,(Rt hArg h2).2]
   exact zret _ _ _ 110 rfl rfl rfl
set_option maxRecDepth 20000
open Go.Fx.P (Arc aF)
end Go.Fx.E
namespace Go.Proofs
open Go.Shelf
def Tryz.lays189_ren:Go.Shelf.Ren:=⟨fun|189=>63|125=>85|257=>84|128=>119|129=>120|294=>110|295=>111|296=>112|297=>113|298=>114|299=>115|216=>116|300=>117|301=>118|328=>138|329=>139|330=>140|331=>141|332=>142|215=>143|343=>153|n=>n,fun|28=>28|3=>3|46=>135|0=>0|51=>149|53=>152|4=>4|183=>170|182=>169|131=>166|5=>5|9=>9|218=>198|222=>202|228=>215|229=>107|n=>n,fun|n=>n⟩
theorem Tryz.lays189:Go.Proofs.Lays.n189 Tryz.prog Tryz.lays189_ren:={
 mixed:=by kernel_rfl
 f125:=Tryz.func85.trans (congrArg some (by kernel_rfl))
 f128:=Tryz.func119.trans (congrArg some (by kernel_rfl))
 f129:=Tryz.func120.trans (congrArg some (by kernel_rfl))
 f189:=Tryz.func63.trans (congrArg some (by kernel_rfl))
 f215:=Tryz.func143.trans (congrArg some (by kernel_rfl))
 f216:=Tryz.func116.trans (congrArg some (by kernel_rfl))
 f257:=Tryz.func84.trans (congrArg some (by kernel_rfl))
 f294:=Tryz.func110.trans (congrArg some (by kernel_rfl))
 f295:=Tryz.func111.trans (congrArg some (by kernel_rfl))
 f296:=Tryz.func112.trans (congrArg some (by kernel_rfl))
 f297:=Tryz.func113.trans (congrArg some (by kernel_rfl))
 f298:=Tryz.func114.trans (congrArg some (by kernel_rfl))
 f299:=Tryz.func115.trans (congrArg some (by kernel_rfl))
 f300:=Tryz.func117.trans (congrArg some (by kernel_rfl))
 f301:=Tryz.func118.trans (congrArg some (by kernel_rfl))
 f328:=Tryz.func138.trans (congrArg some (by kernel_rfl))
 f329:=Tryz.func139.trans (congrArg some (by kernel_rfl))
 f330:=Tryz.func140.trans (congrArg some (by kernel_rfl))
 f331:=Tryz.func141.trans (congrArg some (by kernel_rfl))
 f332:=Tryz.func142.trans (congrArg some (by kernel_rfl))
 f343:=Tryz.func153.trans (congrArg some (by kernel_rfl))
 t0:=Tryz.underlying0
 a0:=Tryz.isAgg0
 z0:=Tryz.sizeOf0
 v0:=Tryz.zeroValue0
 t3:=Tryz.underlying3
 a3:=Tryz.isAgg3
 z3:=Tryz.sizeOf3
 v3:=Tryz.zeroValue3
 t4:=Tryz.underlying4
 a4:=Tryz.isAgg4
 z4:=Tryz.sizeOf4
 v4:=Tryz.zeroValue4
 t5:=Tryz.underlying5
 a5:=Tryz.isAgg5
 z5:=Tryz.sizeOf5
 v5:=Tryz.zeroValue5
 t9:=Tryz.underlying9
 a9:=Tryz.isAgg9
 z9:=Tryz.sizeOf9
 v9:=Tryz.zeroValue9
 t28:=Tryz.underlying28
 a28:=Tryz.isAgg28
 z28:=Tryz.sizeOf28
 v28:=Tryz.zeroValue28
 t46:=Tryz.underlying135
 a46:=Tryz.isAgg135
 z46:=Tryz.sizeOf135
 v46:=Tryz.zeroValue135
 t51:=Tryz.underlying149
 a51:=Tryz.isAgg149
 z51:=Tryz.sizeOf149
 v51:=Tryz.zeroValue149
 t53:=Tryz.underlying152
 a53:=Tryz.isAgg152
 z53:=Tryz.sizeOf152
 v53:=Tryz.zeroValue152
 t131:=Tryz.underlying166
 a131:=Tryz.isAgg166
 z131:=Tryz.sizeOf166
 v131:=Tryz.zeroValue166
 t182:=Tryz.underlying169
 a182:=Tryz.isAgg169
 z182:=Tryz.sizeOf169
 v182:=Tryz.zeroValue169
 t183:=Tryz.underlying170
 a183:=Tryz.isAgg170
 z183:=Tryz.sizeOf170
 v183:=Tryz.zeroValue170
 t218:=Tryz.underlying198
 a218:=Tryz.isAgg198
 z218:=Tryz.sizeOf198
 v218:=Tryz.zeroValue198
 t222:=Tryz.underlying202
 a222:=Tryz.isAgg202
 z222:=Tryz.sizeOf202
 v222:=Tryz.zeroValue202
 t228:=Tryz.underlying215
 a228:=Tryz.isAgg215
 z228:=Tryz.sizeOf215
 v228:=Tryz.zeroValue215
 t229:=Tryz.underlying107
 a229:=Tryz.isAgg107
 z229:=Tryz.sizeOf107
 v229:=Tryz.zeroValue107 }
open Go.Sort Go.RowKit in
theorem Tryz.slices_Sort_int (blk off cap:Nat) (zs:List Int) (w:World) (hH:Holds (Value.int .i64) w blk off zs.toArray) (hblk:blk<w.heap.size) (hsz:zs.length<4611686018427387904) :
  Calls Tryz.prog 63 #[.slice (some ⟨blk,off,none⟩) zs.length cap] w fun e w' =>
   e=.returned (.tuple #[])∧∃ n os,w'=grow (putRow (Value.int .i64) (Sort.ahead w n) blk off (zs.mergeSort fun x y=>decide (x≤y)).toArray) os:=Any.slices_Sort_int Tryz.lays189 blk off cap zs w hH hblk hsz
open Go.RowKit Go.Sort in
theorem Tryz.slices_Sort_int_none (p:Option Addr) (cap:Nat) (w:World) :
  Calls Tryz.prog 63 #[.slice p 0 cap] w fun e w'=>e=.returned (.tuple #[])∧w'=w:=Any.slices_Sort_int_none Tryz.lays189 p cap w
end Go.Proofs
namespace Go.Fx.E
open Go Go.Fx Go.Proofs Go.RowKit
set_option maxRecDepth 20000
def srt (l:List Int):List Int:=l.mergeSort fun x y=>decide (x≤y)
theorem Lm {l:List Int}:(srt l).length=l.length:=List.length_mergeSort ..
theorem Zw {l:List Int}:(srt l).Pairwise (·≤·):=by
 have:=List.pairwise_mergeSort (le:=fun x y:Int=>decide (x≤y)) (fun a b c h1 h2=>by simp at *;omega) (fun a b=>by simp;omega) l
 exact this.imp fun h=>by simpa using h
theorem Wc {l:List Int} {x:Int}:x∈srt l↔x∈l:=List.mem_mergeSort
theorem yH {S:Nat→Prop} {w:World} {b:Nat}:∀ {l:List Int} {off:Nat},dE S w 1 b off (l.map P.encI)→∀ j (h:j<l.length),w.cell? ⟨b,off+j,none⟩=some (.int .i64 l[j])
 | [],_,_,j,h=>by simp at h
 | x::r,off,hr,j,h=>by
  obtain ⟨⟨_,⟨val,h1,h2⟩,_⟩,h3⟩:=hr
  cases j with
  | zero =>
   have:val=.int .i64 x:=h2.1
   subst this;exact h1
  | succ j =>
   have:=yH h3 j (by simpa using h)
   rw [show off+(j+1)=off+1+j by omega]
   exact this
theorem Co {S:Nat→Prop} {w:World} {b:Nat}:∀ {l:List Int} {off:Nat},(∀ j (h:j<l.length),w.cell? ⟨b,off+j,none⟩=some (.int .i64 l[j]))→dE S w 1 b off (l.map P.encI)
 | [],_,_=>trivial
 | x::r,off,h=>⟨⟨rfl,⟨_,h 0 (by simp),rfl,rfl⟩,trivial⟩,Co fun j hj=>by
   have:=h (j+1) (by simpa using hj)
   rw [show off+1+j=off+(j+1) by omega]
   exact this⟩
theorem ajQ (l:List Int) (hl:l.length<4611686018427387904):OkN Tryz.prog 63 [.sl 0 0 l.length] [.arr 1 (l.map P.encI)] [] (IsA (.tup []) [.arr 1 ((srt l).map P.encI)]):=by
 refine ⟨cal Tryz.func63 (by kernel_rfl) (by kernel_rfl),?_⟩
 intro ρ X w vals hr ha
 match vals,ha with
 | [val],⟨hv,_⟩ =>
 obtain ⟨cap,h1,h2,h3⟩:=hv
 rcases h3 with ⟨h4,a,rfl⟩|⟨hre,rfl,hroom⟩
 ·have hl0:l=[]:=yaX.1 (by omega)
  subst hl0
  refine (Tryz.slices_Sort_int_none a 0 w).mono ?_
  rintro e w' ⟨rfl,rfl⟩
  exact ⟨_,.tup [],[.arr 1 []],ρ,rfl,⟨⟨rfl,by simp [srt]⟩,yan _⟩,Fr.refl _ _,hr,⟨#[],rfl,trivial⟩,fun _ _ _=>rfl⟩
 ·have hb:=hr.blk 0 _ rfl
  obtain ⟨⟨hsz,_⟩,hb|⟨_,c,T,hc,hcs,hlen,hels⟩⟩:=hb
  ·rw [hb.1] at hre;cases hre
  have hoff:(ρ 0).off+0*(ρ 0).sz=(ρ 0).off:=by omega
  rw [hoff]
  rw [yau] at hlen
  have hg:=fun j hj=>yH hels j hj
  have hH:Sort.Holds (Value.int .i64) w (ρ 0).blk (ρ 0).off l.toArray:=by
   intro j hj
   have hj':j<l.length:=by simpa using hj
   refine ⟨?_,by simp [World.frozen?,hc]⟩
   rw [hg j hj']
   simp [hj']
  refine (Tryz.slices_Sort_int (ρ 0).blk (ρ 0).off cap l w hH (hr.lt 0 hre) hl).mono ?_
  rintro e w' ⟨rfl,n,os,rfl⟩
  have hbl:=hr.lt 0 hre
  have hsl:(srt l).length=l.length:=Lm
  have hw1:(Sort.grow (Sort.putRow (Value.int .i64) (Sort.ahead w n) (ρ 0).blk (ρ 0).off (srt l).toArray) os).heap[(ρ 0).blk]?=some (.cells (Sort.putCells (Value.int .i64) (ρ 0).off (srt l).toArray c) T (0,0)):=by
   simp only [Sort.grow,Sort.putRow,Sort.mapBlock,Sort.ahead]
   rw [yba (by simpa using hbl),ybb,if_pos rfl,hc]
   rfl
  have hw2:∀ b,b<w.heap.size→b≠(ρ 0).blk→(Sort.grow (Sort.putRow (Value.int .i64) (Sort.ahead w n) (ρ 0).blk (ρ 0).off (srt l).toArray) os).heap[b]?=w.heap[b]?:=by
   intro b hb hne
   simp only [Sort.grow,Sort.putRow,Sort.mapBlock,Sort.ahead]
   rw [yba (by simpa using hb),ybb,if_neg (fun h=>hne h.symm)]
  have hsize:w.heap.size≤(Sort.grow (Sort.putRow (Value.int .i64) (Sort.ahead w n) (ρ 0).blk (ρ 0).off (srt l).toArray) os).heap.size:=by
   simp [Sort.grow,Sort.putRow,Sort.mapBlock,Sort.ahead]
  have hfr:Fr ρ w ρ (Sort.grow (Sort.putRow (Value.int .i64) (Sort.ahead w n) (ρ 0).blk (ρ 0).off (srt l).toArray) os):=⟨rfl,rfl,rfl,hsize,fun b hb ho=>⟨hw2 b hb fun h=>ho ⟨0,hre,h.symm⟩,ho⟩⟩
  have hcell:∀ j (hj:j<l.length),(Sort.grow (Sort.putRow (Value.int .i64) (Sort.ahead w n) (ρ 0).blk (ρ 0).off (srt l).toArray) os).cell? ⟨(ρ 0).blk,(ρ 0).off+j,none⟩=some (.int .i64 ((srt l)[j]'(by rw [hsl];exact hj))):=by
   intro j hj
   have hjc:(ρ 0).off+j<c.size:=by rw [hcs];rw [hsz] at hroom;omega
   simp only [World.cell?,hw1]
   simp [Sort.putCells,hjc,hsl,hj]
  refine ⟨_,.tup [],[.arr 1 ((srt l).map P.encI)],ρ,rfl,⟨⟨rfl,rfl⟩,yan _⟩,hfr,⟨hr.inj,hr.out,fun k b hk=>?_,hr.disj,fun k hk=>Nat.lt_of_lt_of_le (hr.lt k hk) hsize,hr.xfr hfr⟩,⟨#[],rfl,trivial⟩,fun _ _ _=>rfl⟩
  cases k with
  | succ k=>simp at hk
  | zero =>
   simp only [List.getElem?_cons_zero,Option.some.injEq] at hk
   subst hk
   refine ⟨⟨hsz,by omega⟩,.inr ⟨hre,_,T,hw1,by simp [Sort.putCells,hcs],by rw [yau,hsl];exact hlen,Co fun j hj=>?_⟩⟩
   rw [hsl] at hj
   exact hcell j hj
theorem ajP (l:List Int) (hl:l.length≤1000000) (ho:l.Pairwise (·<·)):OkN Tryz.prog 64 [.sl 0 0 l.length] [.arr 1 (l.map P.encI)] [] (IsA (.sl 0 0 l.length) [.arr 1 (l.map P.encI)]):=by
 refine eS pol [0] lw64 (by simp) ⟨trivial,trivial⟩ (by simp) ?_
 unfold c64
 simp -implicitDefEqProofs only [rX,↓rY,aA,↓reduceIte,reduceCtorEq,aJ,aL]
 cases h0:decide ((l.length:Int)<2) with
 | true =>
  have h0':=of_decide_eq_true h0
  simp -implicitDefEqProofs only [rX,↓rY,↓reduceIte,aQ,aU,leH,leB,aD,aB,wfB,wfV,cQ]
  exact fun _=>trivial
 | false =>
  have h0':=of_decide_eq_false h0
  simp -implicitDefEqProofs only [↓rY]
  intro _
  refine dB (fun k:Nat=>(⟨[(3,.i ((k:Int)+1)),(0,.sl 0 0 l.length)],[.arr 1 (l.map P.encI)],0⟩:St)) (fun k=>k+1≤l.length) (fun k=>l.length-k) 0 (by omega) ?_ ?_
  ·exact ⟨by simp -implicitDefEqProofs only [rX,↓reduceIte,reduceCtorEq,leE];simp,⟨bB _,trivial⟩,⟨trivial,trivial⟩,by simp -implicitDefEqProofs only [rX,aB,wfE,wfV],by simp -implicitDefEqProofs only [wfB]⟩
  intro k hk N hN
  simp only [c64l0]
  simp -implicitDefEqProofs only [rX,↓rY,aA,↓reduceIte,Nat.reduceEqDiff,cU,reduceCtorEq,dU,yac,yaa,aJ]
  cases h1:decide ((k:Int)+1<(l.length:Int)) with
  | true =>
   have h1':=of_decide_eq_true h1
   have hk1:k+1<l.length:=by omega
   have hlt:=yav.1 ho k (k+1) (by omega) hk1 (by omega)
   have e1:((k:Int)+1).toNat=k+1:=by omega
   have e2:(k:Int)+1-1=(k:Int):=by omega
   have hne:(l[k+1]==l[k])=false:=by simp;omega
   simp -implicitDefEqProofs only [rX,↓rY,yaa,e1,e2,P.cR,hne]
   refine fun _=>⟨⟨by omega,by omega⟩,hk1,⟨by simp only [lo];omega,by simp only [Fx.hi];omega⟩,⟨by omega,by omega⟩,by omega,⟨by simp only [lo];omega,by simp only [Fx.hi];omega⟩,hN _ (k+1) (by omega) (by omega) ?_⟩
   exact ⟨by simp -implicitDefEqProofs only [rX,↓reduceIte,reduceCtorEq,leE];rfl,⟨bB _,trivial⟩,⟨trivial,trivial⟩,by simp -implicitDefEqProofs only [rX,aB,wfE,wfV],by simp -implicitDefEqProofs only [wfB]⟩
  | false =>
   have h1':=of_decide_eq_false h1
   simp -implicitDefEqProofs only [rX,↓rY,↓reduceIte,aQ,aU,leH,leB,aD,aB,wfB,wfV,cQ]
   exact fun _=>trivial
def pY (ps:List P.aF) (rs:List P.Road):List (Int × Int):=(List.range ps.length).map (fun i:Nat=>((i:Int),(0:Int)))++(P.ofN ps 1 ps.length).map (fun i:Nat=>((i:Int),(0:Int)))++(P.ofN ps 3 ps.length).map (fun i:Nat=>((i:Int),(0:Int)))++(List.range rs.length).map (fun j:Nat=>((-1:Int),(j:Int)))
def gone (ps:List P.aF) (q j:Nat):List Nat:=if q=0 then P.ofN ps 1 j else if q=1 then P.ofN ps 1 ps.length++P.ofN ps 3 j else P.ofN ps 1 ps.length++P.ofN ps 3 ps.length
theorem Oc {ps:List P.aF} {rs:List P.Road} {k:Nat} (h:k<ps.length):(pY ps rs)[k]?=some ((k:Int),0):=by
 unfold pY
 rw [yah,yah,yaS (by simpa using h)]
 simp [h]
theorem Rg {ps:List P.aF} {rs:List P.Road} {a:Nat} (h:a<rs.length):(pY ps rs)[ps.length+(gone ps 2 0).length+a]?=some (-1,(a:Int)):=by
 unfold pY gone
 rw [yaA (by simp<;>omega)]
 simp only [yaq,yau,List.length_range]
 rw [show (if 2=0 then P.ofN ps 1 0 else if 2=1 then P.ofN ps 1 ps.length++P.ofN ps 3 0 else P.ofN ps 1 ps.length++P.ofN ps 3 ps.length)=P.ofN ps 1 ps.length++P.ofN ps 3 ps.length from rfl,yaq]
 rw [show ps.length+((P.ofN ps 1 ps.length).length+(P.ofN ps 3 ps.length).length)+a-(ps.length+(P.ofN ps 1 ps.length).length+(P.ofN ps 3 ps.length).length)=a by omega]
 simp [h]
theorem Rh {ps:List P.aF} {rs:List P.Road} {k a:Nat} (h:(gone ps 2 0)[k]?=some a):(pY ps rs)[ps.length+k]?=some ((a:Int),0):=by
 unfold gone at h
 have h2:(P.ofN ps 1 ps.length++P.ofN ps 3 ps.length)[k]?=some a:=h
 have hk:k<(P.ofN ps 1 ps.length++P.ofN ps 3 ps.length).length:=by
  rcases yam k (P.ofN ps 1 ps.length++P.ofN ps 3 ps.length).length with c|c
  ·exact c
  ·rw [yat c] at h2;cases h2
 unfold pY
 rw [yah,yah,yaA (by simp),←yah]
 simp only [yau,List.length_range]
 rw [show ps.length+k-ps.length=k by omega,←yaK,yaS (by rw [yau];exact hk),List.getElem?_map,h2]
 rfl
theorem abE {ps:List P.aF} {q j:Nat} (hq:q<2) (hj:j<ps.length):gone ps q (j+1)=gone ps q j++(if ps[j].kind=(if q=0 then 1 else 3) then [j] else []):=by
 have hk:∀ kind:Int,P.ofN ps kind (j+1)=P.ofN ps kind j++(if ps[j].kind=kind then [j] else []):=by
  intro kind
  rw [P.j3]
  congr 1
  have:P.isK ps kind j=(ps[j].kind==kind):=by rw [P.isK,yag hj]
  rw [this]
  simp
 unfold gone
 rcases (by omega:q=0∨q=1) with rfl|rfl
 ·simp only [if_pos];exact hk 1
 ·simp only [Nat.one_ne_zero,if_false,if_pos]
  rw [hk 3,yah]
theorem abF {ps:List P.aF} {q:Nat} (hq:q<2):gone ps q ps.length=gone ps (q+1) 0:=by
 unfold gone
 rcases (by omega:q=0∨q=1) with rfl|rfl
 ·simp [P.ofN]
 ·simp
theorem Wk {ps:List P.aF} {q j:Nat} (hq:q<2) (hj:j≤ps.length):∃ r,gone ps 2 0=gone ps q j++r:=by
 have key:∀ kind:Int,∀ d j,j+d=ps.length→∃ r,P.ofN ps kind ps.length=P.ofN ps kind j++r:=by
  intro kind d
  induction d with
  | zero=>intro j h;exact ⟨[],by rw [show j=ps.length by omega];simp⟩
  | succ d ih =>
   intro j h
   obtain ⟨r,hr⟩:=ih (j+1) (by omega)
   rw [hr,P.j3,yah]
   exact ⟨_,rfl⟩
 rcases (by omega:q=0∨q=1) with rfl|rfl
 ·obtain ⟨r,hr⟩:=key 1 (ps.length-j) j (by omega)
  refine ⟨r++P.ofN ps 3 ps.length,?_⟩
  show P.ofN ps 1 ps.length++P.ofN ps 3 ps.length=P.ofN ps 1 j++_
  rw [hr,yah]
 ·obtain ⟨r,hr⟩:=key 3 (ps.length-j) j (by omega)
  refine ⟨r,?_⟩
  show P.ofN ps 1 ps.length++P.ofN ps 3 ps.length=(P.ofN ps 1 ps.length++P.ofN ps 3 j)++_
  rw [hr,yah]
end Go.Fx.E
