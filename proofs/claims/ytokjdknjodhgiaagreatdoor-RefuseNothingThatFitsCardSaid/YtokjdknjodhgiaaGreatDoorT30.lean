import Derived.Test.YtokjdknjodhgiaaGreatDoorPTC25
import Derived.Test.YtokjdknjodhgiaaGreatDoorFxRX
import Derived.Shelf.Sort.Plain
import Derived.Ground.Names2Prog
import Derived.Shelf.Slices.In.SortNone
import Derived.Test.YtokjdknjodhgiaaGreatDoorProg
set_option linter.unusedVariables false
set_option linter.unusedSimpArgs false
set_option linter.unusedSectionVars false
open Int renaming toNat_natCast → yaa, le_refl → yae, natCast_zero → yal, toNat_of_nonneg → yap, min_le_right → yax, le_trans → yaC, natCast_add → yaE, add_mul → yaF, mul_le_mul_of_nonneg_right → yaG, lt_irrefl → yaH, min_eq_left → yaI, min_le_left → yaN
open List renaming replicate → yab, getElem_map → yac, getElem_mem → yad, getD_eq_getElem?_getD → yaf, getElem?_eq_getElem → yag, append_assoc → yah, getElem_of_mem → yai, take → yaj, take_of_length_le → yao, length_append → yaq, mem_singleton → yas, getElem?_eq_none → yat, length_map → yau, pairwise_iff_getElem → yav, length_set → yaw, getElem?_append_right → yaA, append_nil → yaB, length_cons → yaD, mem_append → yaJ, map_append → yaK, mem_cons → yaL, getElem?_replicate → yaM, count_cons → yaO, length_singleton → yaP, getElem_append_left → yaQ, getElem?_append_left → yaS, take_append_getElem → yaT, set_append_right → yaW, length_eq_zero_iff → yaX, drop_eq_getElem_cons → yaY, take_succ_cons → yaZ
open Nat renaming zero_le → yak, lt_or_ge → yam, le_refl → yan
open Option renaming isSome_none → yar, isSome_some → yaz
open Bool renaming false_eq_true → yay, eq_iff_iff → yaR, false_and → yaU, true_and → yaV
open Array renaming getElem?_append_left → yba, getElem?_modify → ybb
namespace Go.Fx.P.K
open Go Go.Fx Go.Fx.E Go.Proofs
set_option maxRecDepth 20000
theorem Zy (i:Nat):(Gn i)[0]?=some (.i i):=rfl
def cN (arcs:List Arc) (x:List Int) (v k:Nat):Int:=if (gA arcs k).from_=v then (gA arcs k).cap-x.getD k 0 else x.getD k 0
def j1 (arcs:List Arc) (x:List Int) (v k:Nat):V :=
 if (gA arcs k).from_=v then .agg [.i k,.i (gA arcs k).to,.i ((gA arcs k).cap-x.getD k 0),.i (gA arcs k).cost,.b false]
 else .agg [.i k,.i (gA arcs k).from_,.i (x.getD k 0),.i (-(gA arcs k).cost),.b true]
def u0 (arcs:List Arc) (x:List Int) (v k:Nat):List V :=
 if (gA arcs k).from_=v then [.i k,.i (gA arcs k).to,.i ((gA arcs k).cap-x.getD k 0),.i (gA arcs k).cost,.b false]
 else [.i k,.i (gA arcs k).from_,.i (x.getD k 0),.i (-(gA arcs k).cost),.b true]
theorem Zx {a:Arc} {q:List Blk}:wfL q a.enc:=by simp [Arc.enc,wfL,wfV]
structure EI (arcs:List Arc) (v k a b i:Nat) (e:Env):Prop where
 e0:get e 0=.itr k
 e1:get e 1=.ptr a 0 0
 e2:get e 2=.ptr b 0 0
 e14:get e 14=.ro 1 (encR (bO arcs v arcs.length))
 e15:get e 15=.i (bO arcs v arcs.length).length
 e16:get e 16=.i i
 e65:get e 65=.b true
structure ItH {G:Type} (hp:G→List Blk) (fl:G→List Int) (L N v:Nat) (arcs:List Arc) (k a b w fb ob pb:Nat) (fx:List Nat):Prop where
 hV:Val N arcs
 hv:v<N
 len:∀ g,(hp g).length=L
 ha:∀ g tl,(hp g++tl)[a]?=some (.var [.ptr w 0 0])
 hb:∀ g tl,(hp g++tl)[b]?=some (.var [.i v])
 hw:∀ g tl,(hp g++tl)[w]?=some (wB N arcs.length arcs fb ob pb)
 hf:∀ g tl,(hp g++tl)[fb]?=some (.arr 1 ((fl g).map encI))
 ho:∀ g tl,(hp g++tl)[ob]?=some (.arv 1 (iD arcs N))
 kp:∀ g,aD fx (hp g)
 wf:∀ g,wfB (hp g) (hp g)
 lk:∀ g,∃ t e,(hp g)[k]?=some (.rcd t e)
 fk:∀ g,(fl g).length=arcs.length∧∀ j,0≤(fl g).getD j 0∧(fl g).getD j 0≤1073741824
theorem leH_app:∀ (h l:List Blk),leH (h++l) h
 | [],_=>by unfold leH;trivial
 | b::h,l=>⟨bA b,leH_app h l⟩
abbrev mW {G:Type} (hp:G→List Blk) (arcs:List Arc) (v k a b:Nat) (g:Nat × G):St :=
 ⟨[(16,.i g.1),(15,.i (bO arcs v arcs.length).length),(14,.ro 1 (encR (bO arcs v arcs.length))),(2,.ptr b 0 0),(1,.ptr a 0 0),(0,.itr k)],hp g.2,0⟩
section
variable {G:Type} {hp:G→List Blk} {fl:G→List Int} {L N v:Nat} {arcs:List Arc} {k a b w fb ob pb:Nat} {fx:List Nat} {Y:Yt} {K:List Blk→Prop} {Inv:Nat→G→Prop}
theorem vJ {i:Nat} (h:i<(bO arcs v arcs.length).length):(bO arcs v arcs.length)[i]<arcs.length∧((gA arcs (bO arcs v arcs.length)[i]).from_=v∨(gA arcs (bO arcs v arcs.length)[i]).to=v):=by
 have:=yad h
 unfold bO at this
 rw [List.mem_filter,List.mem_range,decide_eq_true_eq] at this
 exact this
theorem Um (H:ItH hp fl L N v arcs k a b w fb ob pb fx)
  (hskip:∀ i g (hi:i<(bO arcs v arcs.length).length),Inv i g→cN arcs (fl g) v (bO arcs v arcs.length)[i]≤0→Inv (i+1) g)
  (hY:∀ i g (hi:i<(bO arcs v arcs.length).length),Inv i g→0<cN arcs (fl g) v (bO arcs v arcs.length)[i]→∀ (e:Env) (bb:Nat) (Z:V→St→Prop),EI arcs v k a b i e →
   (∀ e' g' tl,EI arcs v k a b i e'→Inv (i+1) g'→Z (.b true) ⟨e',hp g'++tl,bb⟩)→(∀ e' hh,EI arcs v k a b i e'→K hh→Z (.b false) ⟨e',hh,bb⟩)→Y [j1 arcs (fl g) v (bO arcs v arcs.length)[i]] ⟨e,hp g++[.var (gA arcs (bO arcs v arcs.length)[i]).enc,.var (u0 arcs (fl g) v (bO arcs v arcs.length)[i])],bb⟩ Z)
  (hK:∀ g,Inv (bO arcs v arcs.length).length g→K (hp g))
  (g:Nat × G) (hg:g.1≤(bO arcs v arcs.length).length∧Inv g.1 g.2) :
  aw ⟨C0 Tryz.prog,fx,[],I0 Tryz.prog,fun k' xs s Z=>k'=k∧Y xs s Z,none⟩ c146l0 (fun s'=>∃ g':Nat × G,((g'.1≤(bO arcs v arcs.length).length∧Inv g'.1 g'.2)∧(bO arcs v arcs.length).length-g'.1<(bO arcs v arcs.length).length-g.1)∧leS fx s' (mW hp arcs v k a b g'))
   (fun j s'=>if j=0 then K s'.h else False) (fun s=>K s.h) (mW hp arcs v k a b g):=by
 obtain ⟨i,g⟩:=g
 obtain ⟨hi,hI⟩:=hg
 simp only at hi hI
 have hL:=H.hV.hl
 have ha:=H.ha g
 have hb:=H.hb g
 have hw:=H.hw g
 have hf:=H.hf g
 have ho:=H.ho g
 have hlen:=H.len g
 have hk0:=hK g
 have go:∀ j tl,(hp g++tl)[L+j]?=tl[j]?:=fun j tl=>by
  rw [yaA (by omega),hlen];congr 1;omega
 have go0:∀ tl,(hp g++tl)[L]?=tl[0]?:=go 0
 have gs:∀ j tl B,(hp g++tl).set (L+j) B=hp g++tl.set j B:=fun j tl B=>by
  rw [yaW _ _ (by omega),hlen];congr 2;omega
 have gs0:∀ tl B,(hp g++tl).set L B=hp g++tl.set 0 B:=gs 0
 have a0:=ha []
 have b0:=hb []
 have w0:=hw []
 have f0:=hf []
 have o0:=ho []
 rw [yaB] at a0 b0 w0 f0 o0
 generalize hrow:bO arcs v arcs.length=row at *
 unfold c146l0 mW
 rcases yam i row.length with hi1|hi1
 ·have hd:decide ((i:Int)<(row.length:Int))=true:=decide_eq_true (by omega)
  have hin:row[i]<arcs.length∧((gA arcs row[i]).from_=v∨(gA arcs row[i]).to=v):=by have:=vJ (v:=v) (arcs:=arcs) (i:=i) (by rw [hrow];exact hi1);simp only [hrow] at this;exact this
  have hga:gA arcs row[i]=arcs[row[i]]'hin.1:=gA_at hin.1
  simp -implicitDefEqProofs only [rX,↓rY,rZ,↓rW,rdK,aA,cells?,splice,↓reduceIte,Nat.reduceEqDiff,cR,Nat.reduceAdd,reduceCtorEq,aC,bQ,leE,aB,wfE,wfV,isC,Nat.reduceLeDiff,yac,enc_len,eV,oG,oF,sB,uP,fG,cP,yaa,hrow,hd,encR,Zy,hlen,yah,ha,hb,hw,hf,wB,go,go0,gs,gs0]
  have hrk:((row[i]:Nat):Int)<arcs.length:=by omega
  have hfk:=H.fk g
  have hfx:row[i]<(fl g).length:=by rw [hfk.1];exact hin.1
  have hfb:=hfk.2 row[i]
  have hva:=H.hV.at hin.1
  have hxe:(fl g).getD row[i] 0=(fl g)[row[i]]:=bX hfx
  have hlrow:row.length≤2048:=by rw [←hrow];exact Nat.le_trans xW hL
  rw [hga] at hva
  have hwrap:IntKind.wrap .i64 (-arcs[row[i]].cost)=-arcs[row[i]].cost:=dR .i64 _ (by simp only [lo,Fx.hi];omega)
  rw [hxe] at hfb
  have hroom:cN arcs (fl g) v row[i]=if arcs[row[i]].from_=v then arcs[row[i]].cap-(fl g)[row[i]] else (fl g)[row[i]]:=by unfold cN;rw [hga,hxe]
  have hway:j1 arcs (fl g) v row[i]=if arcs[row[i]].from_=v then .agg [.i row[i],.i arcs[row[i]].to,.i (arcs[row[i]].cap-(fl g)[row[i]]),.i arcs[row[i]].cost,.b false] else .agg [.i row[i],.i arcs[row[i]].from_,.i (fl g)[row[i]],.i (-arcs[row[i]].cost),.b true]:=by unfold j1;rw [hga,hxe]
  have hwc:u0 arcs (fl g) v row[i]=if arcs[row[i]].from_=v then [.i row[i],.i arcs[row[i]].to,.i (arcs[row[i]].cap-(fl g)[row[i]]),.i arcs[row[i]].cost,.b false] else [.i row[i],.i arcs[row[i]].from_,.i (fl g)[row[i]],.i (-arcs[row[i]].cost),.b true]:=by unfold u0;rw [hga,hxe]
  have hsk:=hskip i g hi1 hI
  have hy:=hY i g hi1 hI
  rw [hroom] at hsk hy
  rw [hway,hwc,hga] at hy
  simp only [hwrap]
  refine ⟨⟨by omega,by omega⟩,hi1,⟨by omega,hrk⟩,hin.1,⟨by omega,by omega⟩,hfx,by simp only [lo,Fx.hi];omega,?_⟩
  have hnext:∀ (g':G) (tl:List Blk) (e':Env),EI arcs v k a b i e'→Inv (i+1) g'→leS fx ⟨(16,.i ((i:Int)+1))::(71,.i ((i:Int)+1))::(70,.b false)::(69,.b false)::(65,.b true)::(68,.b true)::e',hp g'++tl,0⟩ (mW hp arcs v k a b (i+1,g')):=by
   intro g' tl e' he' hI'
   have la:=H.ha g' []
   have lb:=H.hb g' []
   obtain ⟨tk,ek,lk⟩:=H.lk g'
   rw [yaB] at la lb
   have e1:=he'.e0;have e2:=he'.e1;have e3:=he'.e2;have e4:=he'.e14;have e5:=he'.e15
   unfold mW
   simp -implicitDefEqProofs only [rX,↓reduceIte,Nat.reduceEqDiff,reduceCtorEq,leE,aB,wfE,wfV,e1,e2,e3,e4,e5,eq_true (leH_app (hp g') tl),eq_true (H.kp g'),eq_true (H.wf g'),la,lb,lk]
   rfl
  by_cases hv:arcs[row[i]].from_=v
  ·have hb1:(arcs[row[i]].from_ != (v:Int))=false:=by simpa using hv
   simp only [if_pos hv] at hsk hy
   simp only [hb1,wd]
   simp only [br,decide_eq_true_eq,decide_eq_false_iff_not]
   refine ⟨fun hr=>?_,fun hr=>?_⟩
   ·refine ⟨rfl,?_⟩
    refine hy hr _ _ _ ⟨rfl,rfl,rfl,by rw [hrow];rfl,by rw [hrow];rfl,rfl,rfl⟩ ?_ ?_
    ·intro e' g' tl he' hI'
     simp -implicitDefEqProofs only [rX,↓rY,rZ,aA,↓reduceIte,Nat.reduceEqDiff,reduceCtorEq,leE,aB,wfE,wfV,he'.e65,he'.e16]
     refine ⟨by simp only [lo,Fx.hi];omega,(i+1,g'),⟨⟨by show i+1≤row.length;omega,hI'⟩,by show row.length-(i+1)<row.length-i;omega⟩,?_⟩
     have:=hnext g' tl e' he' hI'
     unfold mW at this
     simp -implicitDefEqProofs only [rX,↓reduceIte,Nat.reduceEqDiff,reduceCtorEq,leE,aB,wfE,wfV,hrow] at this ⊢
     exact this
    ·intro e' hh he' hK'
     simp -implicitDefEqProofs only [rX,↓rY,rZ,↓reduceIte,Nat.reduceEqDiff,he'.e65]
     exact hK'
   ·refine ⟨by simp only [lo,Fx.hi];omega,(i+1,g),⟨⟨by show i+1≤row.length;omega,hsk (by omega)⟩,by show row.length-(i+1)<row.length-i;omega⟩,?_⟩
    obtain ⟨tk,ek,lk⟩:=H.lk g
    simp only [a0,b0,lk]
    exact ⟨rfl,leH_app _ _,H.kp g,⟨trivial,trivial,trivial⟩,H.wf g⟩
  ·have hb1:(arcs[row[i]].from_ != (v:Int))=true:=by simpa using hv
   simp only [if_neg hv] at hsk hy
   simp only [hb1,wc]
   simp only [br,decide_eq_true_eq,decide_eq_false_iff_not]
   refine ⟨⟨by omega,hrk⟩,hfx,fun hr=>?_,fun hr=>?_⟩
   ·refine ⟨rfl,?_⟩
    refine hy hr _ _ _ ⟨rfl,rfl,rfl,by rw [hrow];rfl,by rw [hrow];rfl,rfl,rfl⟩ ?_ ?_
    ·intro e' g' tl he' hI'
     simp -implicitDefEqProofs only [rX,↓rY,rZ,aA,↓reduceIte,Nat.reduceEqDiff,reduceCtorEq,leE,aB,wfE,wfV,he'.e65,he'.e16]
     refine ⟨by simp only [lo,Fx.hi];omega,(i+1,g'),⟨⟨by show i+1≤row.length;omega,hI'⟩,by show row.length-(i+1)<row.length-i;omega⟩,?_⟩
     have:=hnext g' tl e' he' hI'
     unfold mW at this
     simp -implicitDefEqProofs only [rX,↓reduceIte,Nat.reduceEqDiff,reduceCtorEq,leE,aB,wfE,wfV,hrow] at this ⊢
     exact this
    ·intro e' hh he' hK'
     simp -implicitDefEqProofs only [rX,↓rY,rZ,↓reduceIte,Nat.reduceEqDiff,he'.e65]
     exact hK'
   ·refine ⟨by simp only [lo,Fx.hi];omega,(i+1,g),⟨⟨by show i+1≤row.length;omega,hsk (by omega)⟩,by show row.length-(i+1)<row.length-i;omega⟩,?_⟩
    obtain ⟨tk,ek,lk⟩:=H.lk g
    simp only [a0,b0,lk]
    exact ⟨rfl,leH_app _ _,H.kp g,⟨trivial,trivial,trivial⟩,H.wf g⟩
 ·have hd:decide ((i:Int)<(row.length:Int))=false:=decide_eq_false (by omega)
  have hie:i=row.length:=by omega
  subst hie
  have:=hk0 (by rw [←hrow] at *;exact hI)
  simp -implicitDefEqProofs only [rX,↓rY,↓reduceIte,Nat.reduceEqDiff,hd,hrow]
  first|exact this|simpa using this
theorem Wv (H:ItH hp fl L N v arcs k a b w fb ob pb fx)
  (hskip:∀ i g (hi:i<(bO arcs v arcs.length).length),Inv i g→cN arcs (fl g) v (bO arcs v arcs.length)[i]≤0→Inv (i+1) g)
  (hY:∀ i g (hi:i<(bO arcs v arcs.length).length),Inv i g→0<cN arcs (fl g) v (bO arcs v arcs.length)[i]→∀ (e:Env) (bb:Nat) (Z:V→St→Prop),EI arcs v k a b i e →
   (∀ e' g' tl,EI arcs v k a b i e'→Inv (i+1) g'→Z (.b true) ⟨e',hp g'++tl,bb⟩)→(∀ e' hh,EI arcs v k a b i e'→K hh→Z (.b false) ⟨e',hh,bb⟩)→Y [j1 arcs (fl g) v (bO arcs v arcs.length)[i]] ⟨e,hp g++[.var (gA arcs (bO arcs v arcs.length)[i]).enc,.var (u0 arcs (fl g) v (bO arcs v arcs.length)[i])],bb⟩ Z)
  (hK:∀ g,Inv (bO arcs v arcs.length).length g→K (hp g)) (g:G) (hg:Inv 0 g) :
  I0 Tryz.prog 146 [.itr k,.ptr a 0 0,.ptr b 0 0] fx k Y (hp g) K:=by
 refine Qo pol fx lw146 (by simp) ?_
 have hL:=H.hV.hl
 have hlen:=H.len g
 have a0:=H.ha g []
 have b0:=H.hb g []
 have w0:=H.hw g []
 have o0:=H.ho g []
 rw [yaB] at a0 b0 w0 o0
 obtain ⟨tk,ek,lk⟩:=H.lk g
 have hv:=H.hv
 have hg2:v<(iD arcs N).length:=by rw [Fl];exact hv
 have hlrow:(bO arcs v arcs.length).length≤2048:=Nat.le_trans xW hL
 unfold c146
 simp -implicitDefEqProofs only [rX,↓rY,aA,↓reduceIte,Nat.reduceEqDiff,cR,Nat.reduceAdd,reduceCtorEq,yaa,aK,a0,b0,w0,o0,wB,Fl,Ps]
 refine ⟨by omega,hv,fun _=>?_⟩
 refine aU (mW hp arcs v k a b) (fun g=>g.1≤(bO arcs v arcs.length).length∧Inv g.1 g.2) (fun g=>(bO arcs v arcs.length).length-g.1) (0,g) ⟨yak _,hg⟩ ?_ (Um H hskip hY hK)
 unfold mW
 simp -implicitDefEqProofs only [rX,↓reduceIte,Nat.reduceEqDiff,reduceCtorEq,leE,aB,wfE,wfV,a0,b0,lk,yal,eq_true (H.kp g),eq_true (H.wf g),eq_true (bT (hp g)),encR]
end
end Go.Fx.P.K
namespace Go.Fx.Lb
theorem Fm:∀ (N:Nat) (l:List Nat),l.Nodup→(∀ x∈l,x<N)→l.length≤N
 | 0,l,_,h=>by
  cases l with
  | nil=>simp
  | cons x r=>exact absurd (h x (by simp)) (by omega)
 | N+1,l,hn,h=>by
  have h1:(l.erase N).Nodup:=hn.erase N
  have h2:∀ x∈l.erase N,x<N:=by
   intro x hx
   have h3:=h x (List.mem_of_mem_erase hx)
   have h4:x≠N:=fun e=>by subst e;exact (hn.mem_erase_iff.1 hx).1 rfl
   omega
  have h5:=Fm N _ h1 h2
  have h6:l.length≤(l.erase N).length+1:=by
   rw [List.length_erase];split<;>omega
  omega
def upd {α:Type} (f:Nat→α) (v:Nat) (x:α):Nat→α:=fun u=>if u=v then x else f u
theorem Hm {α:Type} (f:Nat→α) (v:Nat) (x:α):upd f v x v=x:=by simp [upd]
theorem upd_ne {α:Type} (f:Nat→α) {v u:Nat} (x:α) (h:u≠v):upd f v x u=f u:=by simp [upd,h]
structure Gr where
 N:Nat
 s:Nat
 src:Nat→Nat
 dst:Nat→Nat
 c:Nat→Int
 res:Nat→Prop
 π:Nat→Int
 hs:s<N
 hN:∀ i,res i→src i<N∧dst i<N
 hπ:∀ i,res i→0≤c i+π (src i)-π (dst i)
section
variable (G:Gr)
def PR:Nat→List Nat→Prop
 | v,[]=>v=G.s
 | v,i::r=>G.res i∧G.dst i=v∧PR (G.src i) r
def cs:List Nat→Int
 | []=>0
 | i::r=>G.c i+cs r
def vs:Nat→List Nat→List Nat
 | v,[]=>[v]
 | v,i::r=>v::vs (G.src i) r
def Dom (D:Nat→Int):Nat→List Nat→Prop
 | v,[]=>D v≤0
 | v,i::r=>D v≤cs G (i::r)∧Dom D (G.src i) r
variable {G}
theorem Ob:∀ (v:Nat) (r:List Nat),(vs G v r).length=r.length+1
 | _,[]=>rfl
 | v,i::r=>by simp [vs,Ob (G.src i) r]
theorem Wa:∀ (v:Nat) (r:List Nat),PR G v r→∀ u∈vs G v r,u<G.N
 | v,[],h,u,hu=>by
  simp only [vs,yas] at hu
  subst hu
  rw [show u=G.s from h];exact G.hs
 | v,i::r,h,u,hu=>by
  rcases yaL.1 hu with rfl|hu
  ·rw [←h.2.1];exact (G.hN i h.1).2
  ·exact Wa _ r h.2.2 u hu
theorem Dom.head {D:Nat→Int} {v:Nat} {r:List Nat} (h:Dom G D v r):D v≤cs G r:=by
 cases r with
 | nil=>exact h
 | cons i r=>exact h.1
theorem Dom.le {D D':Nat→Int} (hle:∀ u,D' u≤D u):∀ {v:Nat} {r:List Nat},Dom G D v r→Dom G D' v r
 | v,[],h=>yaC (hle v) h
 | v,i::r,h=>⟨yaC (hle v) h.1,Dom.le hle h.2⟩
theorem Rq {D:Nat→Int} {v:Nat}:∀ {u:Nat} {r:List Nat},PR G u r→Dom G D u r→v∈vs G u r→D v+(G.π u-G.π v)≤cs G r
 | u,[],_,hd,hv=>by
  simp only [vs,yas] at hv
  subst hv
  have:D v≤0:=hd
  simp only [cs];omega
 | u,i::r,hp,hd,hv=>by
  rcases yaL.1 hv with rfl|hv
  ·have:=hd.1;omega
  ·have ih:=Rq hp.2.2 hd.2 hv
   have:=G.hπ i hp.1
   have hdst:=hp.2.1
   rw [hdst] at this
   simp only [cs];omega
theorem Km:∀ {u:Nat} {r:List Nat},PR G u r→0≤cs G r+G.π G.s-G.π u
 | u,[],h=>by rw [show u=G.s from h];simp only [cs];omega
 | u,i::r,h=>by
  have ih:=Km h.2.2
  have:=G.hπ i h.1
  rw [h.2.1] at this
  simp only [cs];omega
structure Wp (G:Gr) (D:Nat→Int) (v:Nat) (r:List Nat):Prop where
 pr:PR G v r
 co:cs G r=D v
 nd:(vs G v r).Nodup
 dm:Dom G D v r
theorem Wp.len {D:Nat→Int} {v:Nat} {r:List Nat} (h:Wp G D v r):r.length<G.N:=by
 have:=Fm G.N _ h.nd (Wa v r h.pr)
 rw [Ob] at this
 omega
theorem Gs {B C:Int} (hB:∀ i,G.res i→B≤G.c i∧G.c i≤C):∀ {v:Nat} {r:List Nat},PR G v r→(r.length:Int)*B≤cs G r∧cs G r≤(r.length:Int)*C
 | v,[],_=>by simp [cs]
 | v,i::r,h=>by
  have ih:=Gs hB h.2.2
  have:=hB i h.1
  simp only [cs,yaD]
  have e1:((r.length+1:Nat):Int)*B=(r.length:Int)*B+B:=by rw [yaE,yaF];simp
  have e2:((r.length+1:Nat):Int)*C=(r.length:Int)*C+C:=by rw [yaE,yaF];simp
  rw [e1,e2]
  omega
structure Lab (G:Gr) (F:Int) (D:Nat→Int):Prop where
 h0:D G.s=0
 hw:∀ v,v<G.N→D v=F∨(D v<F∧∃ r,Wp G D v r)
theorem Lab.start {F:Int} (hF:0<F):Lab G F (fun v=>if v=G.s then 0 else F):=by
 refine ⟨by simp,fun v _=>?_⟩
 by_cases h:v=G.s
 ·right
  simp only [h,if_true]
  exact ⟨hF,[],rfl,by simp [cs],by simp [vs],by simp [Dom]⟩
 ·left;simp [h]
theorem Lab.relax {F:Int} {D:Nat→Int} (h:Lab G F D) {i:Nat} (hr:G.res i) (hu:D (G.src i)<F) (hlt:D (G.src i)+G.c i<D (G.dst i)):Lab G F (upd D (G.dst i) (D (G.src i)+G.c i))∧G.dst i≠G.s:=by
 obtain ⟨hsN,hdN⟩:=G.hN i hr
 obtain ⟨ru,hWu⟩:∃ r,Wp G D (G.src i) r:=by
  rcases h.hw _ hsN with he|⟨_,h⟩
  ·omega
  ·exact h
 have hπi:=G.hπ i hr
 have hle:∀ u,upd D (G.dst i) (D (G.src i)+G.c i) u≤D u:=by
  intro u
  unfold upd
  split
  ·rename_i e;rw [e];omega
  ·exact yae _
 have hds:G.dst i≠G.s:=by
  intro e
  have h1:=Km hWu.pr
  rw [hWu.co] at h1
  rw [e] at hπi hlt
  rw [h.h0] at hlt
  omega
 have hnot:G.dst i∉vs G (G.src i) ru:=by
  intro hm
  have:=Rq hWu.pr hWu.dm hm
  rw [hWu.co] at this
  omega
 have hdF:D (G.dst i)≤F:=by
  rcases h.hw _ hdN with he|⟨h1,_⟩<;>omega
 refine ⟨⟨by rw [upd_ne _ _ (Ne.symm hds)];exact h.h0,fun v hv=>?_⟩,hds⟩
 by_cases e:v=G.dst i
 ·subst e
  right
  rw [Hm]
  refine ⟨by omega,i::ru,⟨hr,rfl,hWu.pr⟩,?_,?_,?_⟩
  ·simp only [cs,Hm,hWu.co];omega
  ·exact List.nodup_cons.2 ⟨hnot,hWu.nd⟩
  ·refine ⟨?_,hWu.dm.le hle⟩
   rw [Hm];simp only [cs,hWu.co];omega
 ·rw [upd_ne _ _ e]
  rcases h.hw v hv with he|⟨h1,r,hW⟩
  ·exact .inl he
  ·exact .inr ⟨h1,r,hW.pr,by rw [upd_ne _ _ e];exact hW.co,hW.nd,hW.dm.le hle⟩
def Cl (G:Gr) (F:Int) (D:Nat→Int):Prop:=∀ i,G.res i→D (G.src i)<F→D (G.dst i)≤D (G.src i)+G.c i
theorem Ln {F:Int} {D:Nat→Int} (h0:D G.s=0) (hF:0<F) (hc:Cl G F D) (hfin:∀ i,G.res i→D (G.src i)<F→D (G.dst i)<F):∀ {v:Nat} {r:List Nat},PR G v r→D v≤cs G r∧D v<F
 | v,[],h=>by rw [show v=G.s from h,h0];simp only [cs];omega
 | v,i::r,h=>by
  have ih:=Ln h0 hF hc hfin h.2.2
  have h1:=hc i h.1 ih.2
  have h2:=hfin i h.1 ih.2
  rw [h.2.1] at h1 h2
  simp only [cs];omega
def Tight (G:Gr) (D:Nat→Int):Nat→List Nat→Prop
 | _,[]=>True
 | _,i::r=>D (G.dst i)=D (G.src i)+G.c i∧Tight G D (G.src i) r
theorem Eq {F:Int} {D:Nat→Int} (h0:D G.s=0) (hF:0<F) (hc:Cl G F D) (hfin:∀ i,G.res i→D (G.src i)<F→D (G.dst i)<F):∀ {v:Nat} {r:List Nat},PR G v r→cs G r=D v→Tight G D v r
 | v,[],_,_=>trivial
 | v,i::r,h,he=>by
  have h1:=Ln h0 hF hc hfin h.2.2
  have h2:=hc i h.1 h1.2
  have h3:cs G (i::r)=G.c i+cs G r:=rfl
  have hd:=h.2.1
  rw [h3] at he
  rw [hd] at h2
  refine ⟨by rw [hd];omega,Eq h0 hF hc hfin h.2.2 (by omega)⟩
end
end Go.Fx.Lb
namespace Go.Fx.P.K
open Go Go.Fx Go.Fx.E Go.Proofs
def aeM (arcs:List Arc) (x:List Int) (p:Nat→Int):Prop :=
 ∀ k,k<arcs.length→((gA arcs k).cost+p (gA arcs k).from_.toNat-p (gA arcs k).to.toNat<0→(gA arcs k).cap≤x.getD k 0)∧(0<(gA arcs k).cost+p (gA arcs k).from_.toNat-p (gA arcs k).to.toNat→x.getD k 0≤0)
theorem OkF.at {n:Int} {arcs:List Arc} {f t:Int} {x:List Int} (h:OkF n arcs f t x) {k:Nat} (hk:k<arcs.length):0≤x.getD k 0∧x.getD k 0≤(gA arcs k).cap:=by
 have hl:=h.hl
 have:=h.hp k (by omega) hk
 rw [gA_at hk,bX (by omega)]
 exact this
theorem Az {g:Nat→Int}:∀ n,(∀ v,v<n→0≤g v)→0≤sm g n
 | 0,_=>yae _
 | n+1,hh=>by
  have:=Az n fun v hv=>hh v (by omega)
  have:=hh n (by omega)
  simp only [sm];omega
theorem OkC.cut {N:Nat} {arcs:List Arc} (hV:Val N arcs) {f t:Int} (hf:0≤f∧f<N) (ht:0≤t∧t<N) {x cut:List Int} (h:OkC N arcs f t x cut):∀ k,k<arcs.length→(hasB cut ((gA arcs k).from_.toNat:Int)=true→hasB cut ((gA arcs k).to.toNat:Int)=false→x.getD k 0=(gA arcs k).cap)∧(hasB cut ((gA arcs k).to.toNat:Int)=true→hasB cut ((gA arcs k).from_.toNat:Int)=false→x.getD k 0=0):=by
 intro k hk
 have hv:=hV.at hk
 have:=h.ha.h k hk hk
 rw [yap hv.1.1,yap hv.2.1.1,gA_at hk]
 exact this
end Go.Fx.P.K
namespace Go.Fx.P.K
open Go Go.Fx Go.Fx.E Go.Proofs
def wsrc (arcs:List Arc) (i:Nat):Nat:=if i%2=0 then (gA arcs (i/2)).from_.toNat else (gA arcs (i/2)).to.toNat
def wdst (arcs:List Arc) (i:Nat):Nat:=if i%2=0 then (gA arcs (i/2)).to.toNat else (gA arcs (i/2)).from_.toNat
def eR (arcs:List Arc) (i:Nat):Int:=if i%2=0 then (gA arcs (i/2)).cost else -(gA arcs (i/2)).cost
def wrm (arcs:List Arc) (x:List Int) (i:Nat):Int:=if i%2=0 then (gA arcs (i/2)).cap-x.getD (i/2) 0 else x.getD (i/2) 0
def pZ (arcs:List Arc) (x:List Int) (i:Nat):Prop:=i/2<arcs.length∧0<wrm arcs x i
def dD (arcs:List Arc) (p:Nat→Int) (i:Nat):Int:=eR arcs i+p (wsrc arcs i)-p (wdst arcs i)
def NN (arcs:List Arc) (x:List Int) (p:Nat→Int):Prop:=∀ i,pZ arcs x i→0≤dD arcs p i
theorem vY {N:Nat} {arcs:List Arc} (hV:Val N arcs) {i:Nat} (h:i/2<arcs.length):wsrc arcs i<N∧wdst arcs i<N∧wsrc arcs i≠wdst arcs i:=by
 have:=hV.at h
 unfold wsrc wdst
 split<;>omega
theorem sR {N:Nat} {arcs:List Arc} (hV:Val N arcs) {i:Nat} (h:i/2<arcs.length):-1048576≤eR arcs i∧eR arcs i≤1048576:=by
 have:=hV.at h
 unfold eR
 split<;>omega
theorem Px {arcs:List Arc} {x:List Int} {p:Nat→Int}:NN arcs x p↔aeM arcs x p:=by
 constructor
 ·intro h k hk
  refine ⟨fun h1=>?_,fun h1=>?_⟩
  ·apply Classical.byContradiction
   intro h2
   have:=h (2*k) ⟨by omega,by
    unfold wrm
    rw [if_pos (by omega),show 2*k/2=k by omega];omega⟩
   unfold dD eR wsrc wdst at this
   rw [if_pos (by omega),if_pos (by omega),if_pos (by omega),show 2*k/2=k by omega] at this
   omega
  ·apply Classical.byContradiction
   intro h2
   have:=h (2*k+1) ⟨by omega,by
    unfold wrm
    rw [if_neg (by omega),show (2*k+1)/2=k by omega];omega⟩
   unfold dD eR wsrc wdst at this
   rw [if_neg (by omega),if_neg (by omega),if_neg (by omega),show (2*k+1)/2=k by omega] at this
   omega
 ·intro h i ⟨hi,hr⟩
  have:=h _ hi
  unfold wrm at hr
  unfold dD eR wsrc wdst
  split at hr
  ·rename_i h0
   rw [if_pos h0,if_pos h0,if_pos h0]
   have:=this.1
   apply Classical.byContradiction
   intro h3
   have:=this (by omega)
   omega
  ·rename_i h0
   rw [if_neg h0,if_neg h0,if_neg h0]
   have:=this.2
   apply Classical.byContradiction
   intro h3
   have:=this (by omega)
   omega
def wix (arcs:List Arc) (v k:Nat):Nat:=if (gA arcs k).from_=v then 2*k else 2*k+1
theorem fB {arcs:List Arc} {v k:Nat}:wix arcs v k/2=k:=by unfold wix;split<;>omega
theorem Ck {N:Nat} {arcs:List Arc} (hV:Val N arcs) {v k:Nat} (hk:k<arcs.length) (h:(gA arcs k).from_=v∨(gA arcs k).to=v):wsrc arcs (wix arcs v k)=v:=by
 have:=hV.at hk
 unfold wsrc
 rw [fB]
 unfold wix
 split
 ·rw [if_pos (by omega)];omega
 ·rw [if_neg (by omega)];omega
theorem vX {arcs:List Arc} {x:List Int} {v k:Nat}:wrm arcs x (wix arcs v k)=cN arcs x v k:=by
 unfold wrm cN
 rw [fB]
 unfold wix
 split
 ·rw [if_pos (by omega)]
 ·rw [if_neg (by omega)]
theorem Jt {N:Nat} {arcs:List Arc} (hV:Val N arcs) {i v:Nat} (hi:i/2<arcs.length) (hs:wsrc arcs i=v):i/2∈bO arcs v arcs.length∧wix arcs v (i/2)=i:=by
 have:=hV.at hi
 unfold wsrc at hs
 constructor
 ·unfold bO
  rw [List.mem_filter,List.mem_range,decide_eq_true_eq]
  refine ⟨hi,?_⟩
  split at hs
  ·left;omega
  ·right;omega
 ·unfold wix
  split at hs
  ·rw [if_pos (by omega)];omega
  ·rw [if_neg (by omega)];omega
def grD (N:Nat) (arcs:List Arc) (x:List Int) (p:Nat→Int) (s:Nat) (hV:Val N arcs) (hs:s<N) (hn:NN arcs x p):Lb.Gr :=
 ⟨N,s,wsrc arcs,wdst arcs,dD arcs p,pZ arcs x,fun _=>0,hs,fun i h=>⟨(vY hV h.1).1,(vY hV h.1).2.1⟩,fun i h=>by have:=hn i h;show 0≤dD arcs p i+0-0;omega⟩
def far:Int:=4611686018427387904
def KB:Int:=67711795200
def cn (d:Int):Int:=if d<far then KB+1-d else 0
structure DI (N:Nat) (G:Lb.Gr) (n:Nat) (ks vs D:List Int):Prop where
 lab:Lb.Lab G far (fun u=>D.getD u 0)
 len:D.length=N
 ent:∀ a b,lE n ks vs a b→(0≤b∧b<N)∧(0≤a∧a≤KB)∧D.getD b.toNat 0≤a
 cnt:(n:Int)≤sm (fun u=>cn (D.getD u 0)) N
 h1:n≤ks.length
 h2:n≤vs.length
def clN (G:Lb.Gr) (D:List Int) (u:Nat):Prop:=∀ i,G.res i→G.src i=u→D.getD (G.dst i) 0≤D.getD u 0+G.c i
def uB (N:Nat) (G:Lb.Gr) (n:Nat) (ks vs D:List Int) (Q:Nat→Prop):Prop:=∀ u,u<N→Q u→D.getD u 0<far→lE n ks vs (D.getD u 0) u∨clN G D u
section
variable {N:Nat} {arcs:List Arc} {x:List Int} {p:Nat→Int} {s:Nat} {hV:Val N arcs} {hs:s<N} {hn:NN arcs x p}
theorem yI (hN:N≤64) (hp:∀ j,0≤p j∧p j≤1073741824) {D:Nat→Int} (h:Lb.Lab (grD N arcs x p s hV hs hn) far D) {u:Nat} (hu:u<N):0≤D u∧(D u=far∨D u≤KB):=by
 rcases h.hw u hu with he|⟨_,r,hW⟩
 ·rw [he];exact ⟨by decide,.inl rfl⟩
 ·have h1:=Lb.Gs (G:=grD N arcs x p s hV hs hn) (B:=0) (C:=1074790400) (fun i hr=>by
   refine ⟨hn i hr,?_⟩
   have:=sR hV hr.1
   have h2:=hp (wsrc arcs i)
   have h3:=hp (wdst arcs i)
   show eR arcs i+p (wsrc arcs i)-p (wdst arcs i)≤_
   omega) hW.pr
  have hl:r.length<N:=hW.len
  rw [hW.co] at h1
  have:(r.length:Int)*1074790400≤63*1074790400:=yaG (by omega) (by omega)
  exact ⟨by omega,.inr (by unfold KB;omega)⟩
theorem n_b (hN:N≤64) {D:List Int} (hD:∀ u,u<N→0≤D.getD u 0) {n:Nat} (h:(n:Int)≤sm (fun u=>cn (D.getD u 0)) N):n≤8796093022207:=by
 have h1:sm (fun u=>cn (D.getD u 0)) N≤sm (fun _=>KB+1) N:=Ot N fun u hu=>by
  have:=hD u hu
  unfold cn
  split
  ·omega
  ·unfold KB;omega
 have h2:∀ m:Nat,sm (fun _=>KB+1) m=(m:Int)*(KB+1):=by
  intro m
  induction m with
  | zero=>simp [sm]
  | succ m ih =>
   simp only [sm,ih]
   rw [yaE,yaF];simp
 rw [h2] at h1
 have:(N:Int)*(KB+1)≤64*(KB+1):=yaG (by omega) (by decide)
 have e:(64:Int)*(KB+1)=4333554892864:=by decide
 omega
theorem Ct {g h:Nat→Int} {v:Nat}:∀ n,v<n→(∀ u,u<n→u≠v→g u=h u)→sm g n=sm h n+(g v-h v)
 | 0,hv,_=>by omega
 | n+1,hv,hh=>by
  simp only [sm]
  by_cases e:v=n
  ·subst e
   rw [rE v fun u hu=>hh u (by omega) (by omega)];omega
  ·rw [Ct n (by omega) fun u hu hne=>hh u (by omega) hne,hh n (by omega) (Ne.symm e)];omega
end
end Go.Fx.P.K
namespace Go.Fx.P.K
open Go Go.Fx Go.Fx.E Go.Proofs
theorem fU {l:List Int} {i j:Nat} {x:Int} (h:i<l.length):(l.set i x).getD j 0=if j=i then x else l.getD j 0:=tO h
def meas (N n:Nat) (D:List Int):Nat:=2*(sm (fun u=>D.getD u 0) N).toNat+n
section
variable {N:Nat} {arcs:List Arc} {x:List Int} {p:Nat→Int} {s:Nat} {hV:Val N arcs} {hs:s<N} {hn:NN arcs x p}
theorem DI.nn {n:Nat} {ks vs D:List Int} (hN:N≤64) (hp:∀ j,0≤p j∧p j≤1073741824) (h:DI N (grD N arcs x p s hV hs hn) n ks vs D) {u:Nat} (hu:u<N):0≤D.getD u 0∧(D.getD u 0=far∨D.getD u 0≤KB):=yI hN hp h.lab hu
theorem DI.n_le {n:Nat} {ks vs D:List Int} (hN:N≤64) (hp:∀ j,0≤p j∧p j≤1073741824) (h:DI N (grD N arcs x p s hV hs hn) n ks vs D):n≤8796093022207:=n_b hN (fun u hu=>(h.nn hN hp hu).1) h.cnt
theorem DI.push {n:Nat} {ks vs D ks' vs':List Int} (hN:N≤64) (hp:∀ j,0≤p j∧p j≤1073741824) (h:DI N (grD N arcs x p s hV hs hn) n ks vs D) {i:Nat} (hr:pZ arcs x i) (hu:D.getD (wsrc arcs i) 0<far) (hlt:D.getD (wsrc arcs i) 0+dD arcs p i<D.getD (wdst arcs i) 0)
  (hq:nP n ks vs (D.getD (wsrc arcs i) 0+dD arcs p i) (wdst arcs i:Nat) (ks',vs')) :
  DI N (grD N arcs x p s hV hs hn) (n+1) ks' vs' (D.set (wdst arcs i) (D.getD (wsrc arcs i) 0+dD arcs p i))∧meas N (n+1) (D.set (wdst arcs i) (D.getD (wsrc arcs i) 0+dD arcs p i))<meas N n D:=by
 obtain ⟨w1,w2,w3⟩:=vY hV hr.1
 obtain ⟨hl,hds⟩:=h.lab.relax (i:=i) hr hu hlt
 have hdl:wdst arcs i<D.length:=by rw [h.len];exact w2
 have efn:(fun u=>(D.set (wdst arcs i) (D.getD (wsrc arcs i) 0+dD arcs p i)).getD u 0)=Lb.upd (fun u=>D.getD u 0) (wdst arcs i) (D.getD (wsrc arcs i) 0+dD arcs p i):=by
  funext u
  rw [fU hdl];rfl
 have hl':Lb.Lab (grD N arcs x p s hV hs hn) far (fun u=>(D.set (wdst arcs i) (D.getD (wsrc arcs i) 0+dD arcs p i)).getD u 0):=by rw [efn];exact hl
 have hnew:0≤D.getD (wsrc arcs i) 0+dD arcs p i:=by
  have:=(h.nn hN hp w1).1
  have:=hn i hr
  omega
 have hold:=h.nn hN hp w2
 have hlow:D.getD (wsrc arcs i) 0+dD arcs p i<far:=by
  rcases hold.2 with e|e
  ·omega
  ·have:KB<far:=by decide
   omega
 have hkb:D.getD (wsrc arcs i) 0+dD arcs p i≤KB:=by
  have:=yI hN hp hl' w2
  rw [fU hdl,if_pos rfl] at this
  rcases this.2 with e|e
  ·omega
  ·exact e
 generalize hnv:D.getD (wsrc arcs i) 0+dD arcs p i=nv at *
 have hge:∀ u,(D.set (wdst arcs i) nv).getD u 0=if u=wdst arcs i then nv else D.getD u 0:=fun u=>fU hdl
 refine ⟨⟨hl',by rw [yaw];exact h.len,fun a b hab=>?_,?_,by have:=hq.h1;simp only at this;omega,by have:=hq.h2;simp only at this;omega⟩,?_⟩
 ·rw [hge]
  rcases (hq.he a b).1 hab with h1|⟨rfl,rfl⟩
  ·obtain ⟨q1,q2,q3⟩:=h.ent a b h1
   refine ⟨q1,q2,?_⟩
   split
   ·rename_i e;rw [e] at q3;omega
   ·exact q3
  ·refine ⟨⟨by omega,by omega⟩,⟨hnew,hkb⟩,?_⟩
   rw [if_pos (by omega)];exact yae _
 ·have hc:=h.cnt
  rw [Ct (v:=wdst arcs i) (h:=fun u=>cn (D.getD u 0)) N w2 (fun u _ hne=>by simp only [hge,if_neg hne])]
  simp only [hge,if_true]
  have:cn (D.getD (wdst arcs i) 0)+1≤cn nv:=by
   unfold cn
   rw [if_pos hlow]
   split
   ·omega
   ·omega
  omega
 ·unfold meas
  rw [Ct (v:=wdst arcs i) (h:=fun u=>D.getD u 0) N w2 (fun u _ hne=>by simp only [hge,if_neg hne])]
  simp only [hge,if_true]
  have h1:0≤sm (fun u=>(D.set (wdst arcs i) nv).getD u 0) N:=Az N fun u hu=>(yI hN hp hl' hu).1
  rw [Ct (v:=wdst arcs i) (h:=fun u=>D.getD u 0) N w2 (fun u _ hne=>by simp only [hge,if_neg hne])] at h1
  simp only [hge,if_true] at h1
  omega
theorem uB.push {n:Nat} {ks vs D ks' vs':List Int} {Q:Nat→Prop} {G:Lb.Gr} (h:uB N G n ks vs D Q) {t:Nat} {nv:Int} (ht:t<D.length) (hlt:nv<D.getD t 0) (hq:nP n ks vs nv (t:Nat) (ks',vs')):uB N G (n+1) ks' vs' (D.set t nv) Q:=by
 intro u hu hQ hf
 have hge:∀ u,(D.set t nv).getD u 0=if u=t then nv else D.getD u 0:=fun u=>fU ht
 rw [hge] at hf ⊢
 by_cases e:u=t
 ·subst e
  rw [if_pos rfl]
  exact .inl ((hq.he _ _).2 (.inr ⟨rfl,rfl⟩))
 ·rw [if_neg e] at hf ⊢
  rcases h u hu hQ hf with h1|h1
  ·exact .inl ((hq.he _ _).2 (.inl h1))
  ·right
   intro i hi hsrc
   have:=h1 i hi hsrc
   rw [hge,hge,if_neg e]
   split
   ·rename_i e2;rw [e2] at this;omega
   ·exact this
theorem DI.pop {n:Nat} {ks vs D:List Int} {G:Lb.Gr} (h:DI N G n ks vs D) (hn0:0<n) {g:(Int × Int) × List Int × List Int} (hq:Vs n ks vs g):DI N G (n-1) g.2.1 g.2.2 D∧meas N (n-1) D<meas N n D :=
 ⟨⟨h.lab,h.len,fun a b hab=>h.ent a b ((hq.he a b).2 (.inl hab)),by have:=h.cnt;omega,hq.h1,hq.h2⟩,by unfold meas;omega⟩
theorem uB.pop {n:Nat} {ks vs D:List Int} {G:Lb.Gr} (h:uB N G n ks vs D fun _=>True) {g:(Int × Int) × List Int × List Int} (hq:Vs n ks vs g):uB N G (n-1) g.2.1 g.2.2 D fun u=>¬(g.1.1=D.getD u 0∧g.1.2=u):=by
 intro u hu hQ hf
 rcases h u hu trivial hf with h1|h1
 ·rcases (hq.he _ _).1 h1 with h2|⟨h2,h3⟩
  ·exact .inl h2
  ·exact absurd ⟨h2.symm,h3.symm⟩ hQ
 ·exact .inr h1
theorem uB.done {n:Nat} {ks vs D:List Int} {G:Lb.Gr} {v:Nat} (h:uB N G n ks vs D fun u=>u≠v) (hc:clN G D v):uB N G n ks vs D fun _=>True:=by
 intro u hu _ hf
 by_cases e:u=v
 ·subst e;exact .inr hc
 ·exact h u hu e hf
structure Ai (N:Nat) (G:Lb.Gr) (D:List Int):Prop where
 lab:Lb.Lab G far (fun u=>D.getD u 0)
 len:D.length=N
 cl:Lb.Cl G far (fun u=>D.getD u 0)
theorem DI.fin {ks vs D:List Int} (h:DI N (grD N arcs x p s hV hs hn) 0 ks vs D) (hP:uB N (grD N arcs x p s hV hs hn) 0 ks vs D fun _=>True):Ai N (grD N arcs x p s hV hs hn) D:=by
 refine ⟨h.lab,h.len,fun i hr hf=>?_⟩
 rcases hP (wsrc arcs i) (vY hV hr.1).1 trivial hf with ⟨j,hj,_⟩|h1
 ·omega
 ·exact h1 i hr rfl
theorem DI.start {ks vs:List Int} (hq:nP 0 [] [] 0 (s:Nat) (ks,vs)):DI N (grD N arcs x p s hV hs hn) 1 ks vs ((yab N far).set s 0)∧uB N (grD N arcs x p s hV hs hn) 1 ks vs ((yab N far).set s 0) fun _=>True:=by
 have hsl:s<(yab N far).length:=by simpa using hs
 have hge:∀ u,u<N→((yab N far).set s 0).getD u 0=if u=s then 0 else far:=by
  intro u hu
  rw [fU hsl]
  split
  ·rfl
  ·rw [yaf,yaM,if_pos hu];rfl
 have hlab:=Lb.Lab.start (G:=grD N arcs x p s hV hs hn) (F:=far) (by decide)
 have hent:∀ a b,lE 1 ks vs a b→a=0∧b=s:=by
  intro a b h
  rcases (hq.he a b).1 h with ⟨j,hj,_⟩|h
  ·omega
  ·exact h
 refine ⟨⟨⟨?_,fun v hv=>?_⟩,by simp,fun a b hab=>?_,?_,by have:=hq.h1;simp only at this;omega,by have:=hq.h2;simp only at this;omega⟩,fun u hu _ hf=>?_⟩
 ·show ((yab N far).set s 0).getD s 0=0
  rw [hge s hs,if_pos rfl]
 ·rw [hge v hv]
  rcases hlab.hw v hv with h1|⟨h1,r,hW⟩
  ·exact .inl h1
  ·right
   by_cases e:v=s
   ·subst e
    rw [if_pos rfl]
    refine ⟨by decide,[],rfl,?_,by simp [Lb.vs],?_⟩
    ·show (0:Int)=_
     simp only [hge v hv,if_true]
    ·show ((yab N far).set v 0).getD v 0≤0
     rw [hge v hv,if_pos rfl];exact yae _
   ·simp only [show ((grD N arcs x p s hV hs hn).s)=s from rfl,if_neg e] at h1
    exact absurd h1 (yaH _)
 ·obtain ⟨rfl,rfl⟩:=hent a b hab
  refine ⟨⟨by omega,by omega⟩,⟨yae _,by decide⟩,?_⟩
  rw [yaa,hge s hs,if_pos rfl];exact yae _
 ·have h1:sm (fun u=>if u=s then (1:Int) else 0) N≤sm (fun u=>cn (((yab N far).set s 0).getD u 0)) N:=by
   refine Ot N fun u hu=>?_
   rw [hge u hu]
   split
   ·decide
   ·unfold cn;rw [if_neg (by omega)];exact yae _
  rw [sX,if_pos hs] at h1
  simpa using h1
 ·rw [hge u hu] at hf
  left
  split at hf
  ·rename_i e
   subst e
   rw [hge u hu,if_pos rfl]
   exact (hq.he _ _).2 (.inr ⟨rfl,rfl⟩)
  ·exact absurd hf (yaH _)
end
end Go.Fx.P.K
namespace Go.Fx.P.K
open Go Go.Fx Go.Fx.E Go.Proofs
theorem Bu {d:List Bool} {i j:Nat} {b:Bool} (h:i<d.length):(d.set i b).getD j false=if j=i then b else d.getD j false:=by
 rw [yaf,yaf,List.getElem?_set]
 by_cases e:i=j
 ·subst e;simp [h]
 ·rw [if_neg e,if_neg (Ne.symm e)]
theorem Ax {arcs:List Arc} {x:List Int} {k:Nat} {v:Int} (u:Int) (hk:k<x.length):∀ m,valTo arcs u (x.set k v) m=valTo arcs u x m+(if k<m then (if (gA arcs k).from_=u then v-x.getD k 0 else 0)-(if (gA arcs k).to=u then v-x.getD k 0 else 0) else 0)
 | 0=>by simp [valTo]
 | m+1=>by
  have e1:∀ y:List Int,valTo arcs u y (m+1)=valTo arcs u y m+(if (gA arcs m).from_=u then y.getD m 0 else 0)-(if (gA arcs m).to=u then y.getD m 0 else 0):=fun _=>rfl
  rw [e1,e1,Ax u hk m,fU hk]
  by_cases e:m=k
  ·subst e
   rw [if_pos rfl,if_neg (Nat.lt_irrefl _),if_pos (Nat.lt_succ_self _)]
   split<;>split<;>omega
  ·rw [if_neg e]
   generalize valTo arcs u x m=V
   generalize (if (gA arcs m).from_=u then x.getD m 0 else 0)=F
   generalize (if (gA arcs m).to=u then x.getD m 0 else 0)=G
   generalize (if (gA arcs k).from_=u then v-x.getD k 0 else 0)=A
   generalize (if (gA arcs k).to=u then v-x.getD k 0 else 0)=B
   by_cases e2:k<m
   ·rw [if_pos e2,if_pos (by omega)];omega
   ·rw [if_neg e2,if_neg (by omega)];omega
structure XB (arcs:List Arc) (x:List Int):Prop where
 hl:x.length=arcs.length
 hb:∀ k,k<arcs.length→0≤x.getD k 0∧x.getD k 0≤(gA arcs k).cap
def vd (v:Nat) (n:Int) (w:Nat):Int:=if w=v then n else 0
theorem Co {v w:Nat} {a b:Int}:vd v (a+b) w=vd v a w+vd v b w:=by unfold vd;split<;>omega
theorem Tl {v w:Nat}:vd v 0 w=0:=by unfold vd;split<;>rfl
structure FI (arcs:List Arc) (x:List Int) (p:Nat→Int) (to:Nat) (d:List Bool) (v:Nat) (n:Int) (x':List Int) (d':List Bool):Prop where
 xb:XB arcs x'
 dl:d'.length=d.length
 val:∀ w:Nat,valTo arcs w x' arcs.length=valTo arcs w x arcs.length+vd v n w-vd to n w
 tig:∀ k,k<arcs.length→x'.getD k 0≠x.getD k 0→dD arcs p (2*k)=0
 mono:∀ u,d.getD u false=true→d'.getD u false=true
 kept:∀ k,k<arcs.length→(d.getD (gA arcs k).from_.toNat false=true∨d.getD (gA arcs k).to.toNat false=true)→x'.getD k 0=x.getD k 0
def CLo (arcs:List Arc) (x:List Int) (p:Nat→Int) (to:Nat) (d:List Bool) (u:Nat):Prop:=u≠to∧∀ i,pZ arcs x i→wsrc arcs i=u→dD arcs p i=0→d.getD (wdst arcs i) false=true
theorem CLo.mono {arcs:List Arc} {x:List Int} {p:Nat→Int} {to u:Nat} {d d':List Bool} (h:CLo arcs x p to d u) (hm:∀ u,d.getD u false=true→d'.getD u false=true):CLo arcs x p to d' u :=
 ⟨h.1,fun i h1 h2 h3=>hm _ (h.2 i h1 h2 h3)⟩
structure FQ (arcs:List Arc) (x:List Int) (p:Nat→Int) (to:Nat) (d:List Bool) (v:Nat) (most:Int) (r:Int × List Int × List Bool):Prop where
 fi:FI arcs x p to d v r.1 r.2.1 r.2.2
 n0:0≤r.1∧r.1≤most
 zero:r.1=0→0<most→r.2.1=x∧r.2.2.getD v false=true∧∀ u,r.2.2.getD u false=true→d.getD u false=false→CLo arcs x p to r.2.2 u
structure FN (N:Nat) (arcs:List Arc) (x:List Int) (p:Nat→Int) (to:Nat) (d:List Bool) (v:Nat) (most:Int) (i:Nat) (g:Int × List Int × List Bool):Prop where
 fi:FI arcs x p to d v g.1 g.2.1 g.2.2
 n0:0≤g.1∧g.1≤most
 nd:g.2.2.getD v false=true
 zero:g.1=0→g.2.1=x∧(∀ u,g.2.2.getD u false=true→d.getD u false=false→u≠v→CLo arcs x p to g.2.2 u) ∧
  ∀ j (hj:j<(bO arcs v arcs.length).length),j<i→0<cN arcs x v (bO arcs v arcs.length)[j]→dD arcs p (wix arcs v (bO arcs v arcs.length)[j])=0→g.2.2.getD (wdst arcs (wix arcs v (bO arcs v arcs.length)[j])) false=true
section
variable {N:Nat} {arcs:List Arc} {x:List Int} {p:Nat→Int} {to:Nat} {d:List Bool} {v:Nat} {most:Int}
theorem FQ.base (hx:XB arcs x) (hm:0≤most) (h:v=to∨most=0):FQ arcs x p to d v most (most,x,d):=by
 refine ⟨⟨hx,rfl,fun w=>?_,fun k _ hk=>absurd rfl hk,fun u hu=>hu,fun k _ _=>rfl⟩,⟨hm,yae _⟩,fun h1 h2=>absurd h1 (by simp only;omega)⟩
 rcases h with h|h
 ·subst h;simp only;omega
 ·subst h;simp only [Tl];omega
theorem FN.start (hx:XB arcs x) (hm:0≤most) (hv:v<d.length):FN N arcs x p to d v most 0 (0,x,d.set v true):=by
 have hg:∀ u,(d.set v true).getD u false=if u=v then true else d.getD u false:=fun u=>Bu hv
 refine ⟨⟨hx,by simp,fun w=>by simp only [Tl];omega,fun k _ hk=>absurd rfl hk,fun u hu=>?_,fun k _ _=>rfl⟩,⟨yae _,hm⟩,?_,fun _=>⟨rfl,fun u h1 h2 h3=>?_,fun j _ hj=>by omega⟩⟩
 ·show (d.set v true).getD u false=true
  rw [hg];split
  ·rfl
  ·exact hu
 ·show (d.set v true).getD v false=true
  rw [hg,if_pos rfl]
 ·rw [show ((0,x,d.set v true):Int × List Int × List Bool).2.2=d.set v true from rfl,hg,if_neg h3] at h1
  rw [h2] at h1;cases h1
theorem FN.skip {i:Nat} {g:Int × List Int × List Bool} (h:FN N arcs x p to d v most i g) (hi:i<(bO arcs v arcs.length).length)
  (hs:g.1=0→0<cN arcs x v (bO arcs v arcs.length)[i]→dD arcs p (wix arcs v (bO arcs v arcs.length)[i])=0→g.2.2.getD (wdst arcs (wix arcs v (bO arcs v arcs.length)[i])) false=true):FN N arcs x p to d v most (i+1) g:=by
 refine ⟨h.fi,h.n0,h.nd,fun h0=>?_⟩
 obtain ⟨z1,z2,z3⟩:=h.zero h0
 refine ⟨z1,z2,fun j hj hlt hr hc=>?_⟩
 by_cases e:j=i
 ·subst e;exact hs h0 hr hc
 ·exact z3 j hj (by omega) hr hc
theorem Pk {k:Nat}:dD arcs p (2*k+1)=- dD arcs p (2*k):=by
 unfold dD eR wsrc wdst
 rw [if_neg (by omega),if_neg (by omega),if_neg (by omega),if_pos (by omega),if_pos (by omega),if_pos (by omega),show (2*k+1)/2=k by omega,show 2*k/2=k by omega]
 omega
theorem Mo {i:Nat} (h:dD arcs p i=0):dD arcs p (2*(i/2))=0:=by
 by_cases e:i%2=0
 ·rwa [show 2*(i/2)=i by omega]
 ·have:i=2*(i/2)+1:=by omega
  rw [this,Pk] at h
  omega
def dlt (arcs:List Arc) (v k:Nat) (n:Int):Int:=if (gA arcs k).from_=v then n else -n
theorem FN.step (hV:Val N arcs) (hvd:d.getD v false=false) (hm:0<most) {i:Nat} {s:Int} {x1:List Int} {d1:List Bool} (h:FN N arcs x p to d v most i (s,x1,d1)) {k:Nat} (hi:i<(bO arcs v arcs.length).length) (hk:(bO arcs v arcs.length)[i]=k)
  (hd:d1.getD (wdst arcs (wix arcs v k)) false=false) (hc:dD arcs p (wix arcs v k)=0) (hr:0<cN arcs x1 v k) (hne:s≠most) {n:Int} {x2:List Int} {d2:List Bool}
  (hq:FQ arcs x1 p to d1 (wdst arcs (wix arcs v k)) (min (cN arcs x1 v k) (most-s)) (n,x2,d2)) :
  FN N arcs x p to d v most (i+1) (s+n,x2.set k (x2.getD k 0+dlt arcs v k n),d2):=by
 obtain ⟨hj,hend⟩:=vJ hi
 rw [hk] at hj hend
 have hsrc:=Ck hV hj hend
 obtain ⟨w1,w2,w3⟩:=vY hV (i:=wix arcs v k) (by rw [fB];exact hj)
 rw [hsrc] at w1 w3
 have hva:=hV.at hj
 have hfi:=h.fi
 have hqi:=hq.fi
 simp only at hfi hqi
 have hn:=hq.n0
 have hs:=h.n0
 simp only at hn hs
 have hmin:=yaN (cN arcs x1 v k) (most-s)
 have hmin2:=yax (cN arcs x1 v k) (most-s)
 have hkl:k<x2.length:=by rw [hqi.xb.hl];exact hj
 have hge:∀ j w,(x2.set k w).getD j 0=if j=k then w else x2.getD j 0:=fun j w=>fU hkl
 have hnd:d1.getD v false=true:=h.nd
 have hk2:x2.getD k 0=x1.getD k 0:=hqi.kept k hj (by
  rcases hend with e|e
  ·left;rw [e];exact hnd
  ·right;rw [e];exact hnd)
 have hends:(gA arcs k).from_=v∧(gA arcs k).to.toNat=wdst arcs (wix arcs v k)∨((gA arcs k).from_≠v∧(gA arcs k).to=v∧(gA arcs k).from_.toNat=wdst arcs (wix arcs v k)):=by
  unfold wdst
  rw [fB]
  unfold wix
  by_cases e:(gA arcs k).from_=v
  ·left;rw [if_pos e,if_pos (by omega)];exact ⟨e,rfl⟩
  ·right;rw [if_neg e,if_neg (by omega)]
   refine ⟨e,?_,rfl⟩
   rcases hend with e2|e2
   ·exact absurd e2 e
   ·exact e2
 have hx1k:=hfi.xb.hb k hj
 have hroom:cN arcs x1 v k=if (gA arcs k).from_=v then (gA arcs k).cap-x1.getD k 0 else x1.getD k 0:=rfl
 generalize hu:wdst arcs (wix arcs v k)=u at *
 refine ⟨⟨⟨by rw [yaw];exact hqi.xb.hl,fun j hj2=>?_⟩,hqi.dl.trans hfi.dl,fun w=>?_,fun j hj2 hne2=>?_,fun w hw=>hqi.mono w (hfi.mono w hw),fun j hj2 hdd=>?_⟩,⟨by simp only;omega,by simp only;omega⟩,hqi.mono v hnd,fun h0=>?_⟩
 ·show 0≤(x2.set k _).getD j 0∧_
  simp only
  rw [hge]
  split
  ·rename_i e
   subst e
   rw [hk2]
   unfold dlt
   split
   ·rename_i e;rw [if_pos e] at hroom;omega
   ·rename_i e;rw [if_neg e] at hroom;omega
  ·exact hqi.xb.hb j hj2
 ·have e1:=hqi.val w
  have e2:=hfi.val w
  simp only at e1 e2 ⊢
  rw [Ax w hkl,if_pos hj,e1,e2,Co,Co]
  have:x2.getD k 0+dlt arcs v k n-x2.getD k 0=dlt arcs v k n:=by omega
  rw [this]
  unfold dlt vd
  rcases hends with ⟨q1,q2⟩|⟨q1,q2,q3⟩
  ·rw [if_pos q1,q1]
   have t1:((v:Int)=w)↔w=v:=by omega
   have t2:((gA arcs k).to=w)↔w=u:=by omega
   simp only [t1,t2]
   split<;>split<;>split<;>omega
  ·rw [if_neg q1,q2]
   have t1:((v:Int)=w)↔w=v:=by omega
   have t2:((gA arcs k).from_=w)↔w=u:=by omega
   simp only [t1,t2]
   split<;>split<;>split<;>omega
 ·simp only at hne2
  rw [hge] at hne2
  by_cases e:j=k
  ·subst e
   have:=Mo hc
   rwa [fB] at this
  ·rw [if_neg e] at hne2
   by_cases e2:x2.getD j 0=x1.getD j 0
   ·exact hfi.tig j hj2 (by rw [←e2];exact hne2)
   ·exact hqi.tig j hj2 e2
 ·simp only
  rw [hge]
  by_cases e:j=k
  ·subst e
   exfalso
   have a1:d.getD u false=true→False:=fun h1=>by rw [hfi.mono u h1] at hd;cases hd
   rcases hends with ⟨q1,q2⟩|⟨q1,q2,q3⟩
   ·rw [q1,q2,yaa,hvd] at hdd
    rcases hdd with h1|h1
    ·cases h1
    ·exact a1 h1
   ·rw [q2,q3,yaa,hvd] at hdd
    rcases hdd with h1|h1
    ·exact a1 h1
    ·cases h1
  ·rw [if_neg e]
   rw [←hfi.kept j hj2 hdd]
   exact hqi.kept j hj2 (hdd.imp (hfi.mono _) (hfi.mono _))
 ·simp only at h0
  have s0:s=0:=by omega
  have n0:n=0:=by omega
  obtain ⟨z1,z2,z3⟩:=h.zero s0
  obtain ⟨y1,y2,y3⟩:=hq.zero n0 (by
   rw [s0] at hne ⊢
   exact Int.lt_min.2 ⟨hr,by omega⟩)
  simp only at z1 z2 z3 y1 y2 y3 ⊢
  have ex:x2.set k (x2.getD k 0+dlt arcs v k n)=x:=by
   have:dlt arcs v k n=0:=by unfold dlt;rw [n0];split<;>rfl
   rw [this,Int.add_zero,y1,z1]
   rw [yaf,yag (by rw [←z1,←y1];exact hkl),Option.getD_some,List.set_getElem_self]
  refine ⟨ex,fun w h1 h2 h3=>?_,fun j hj2 hlt hro hcz=>?_⟩
  ·by_cases e:d1.getD w false=true
   ·exact (z2 w e h2 h3).mono hqi.mono
   ·rw [Bool.not_eq_true] at e
    have:=y3 w h1 e
    rwa [z1] at this
  ·by_cases e:j=i
   ·subst e
    rw [hk,hu]
    exact y2
   ·exact hqi.mono _ (z3 j hj2 (by omega) hro hcz)
theorem FN.done (hV:Val N arcs) (hv:v<d.length) (hvt:v≠to) (hvd:d.getD v false=false) (hm:0<most) {i:Nat} {g:Int × List Int × List Bool} (h:FN N arcs x p to d v most i g) (hi:i=(bO arcs v arcs.length).length∨g.1=most) :
  FQ arcs x p to d v most (g.1,g.2.1,g.2.2.set v (decide (g.1<most))):=by
 obtain ⟨s,x1,d1⟩:=g
 have hfi:=h.fi
 have hn:=h.n0
 simp only at hfi hn hi ⊢
 have hl:v<d1.length:=by rw [hfi.dl];exact hv
 have hg:∀ u b,(d1.set v b).getD u false=if u=v then b else d1.getD u false:=fun u b=>Bu hl
 refine ⟨⟨hfi.xb,by rw [yaw];exact hfi.dl,hfi.val,hfi.tig,fun u hu=>?_,hfi.kept⟩,hn,fun h0 hmm=>?_⟩
 ·show (d1.set v _).getD u false=true
  rw [hg]
  by_cases e:u=v
  ·subst e;rw [hvd] at hu;cases hu
  ·rw [if_neg e];exact hfi.mono u hu
 ·simp only at h0
  obtain ⟨z1,z2,z3⟩:=h.zero h0
  simp only at z1 z2 z3 ⊢
  have hnd:d1.getD v false=true:=h.nd
  have hd:decide (s<most)=true:=decide_eq_true (by omega)
  have hsub:∀ u,d1.getD u false=true→(d1.set v (decide (s<most))).getD u false=true:=fun u hu=>by
   rw [hg];split
   ·exact hd
   ·exact hu
  refine ⟨z1,by rw [hg,if_pos rfl];exact hd,fun u h1 h2=>?_⟩
  by_cases e:u=v
  ·subst e
   refine ⟨hvt,fun w hw hsrc hc=>hsub _ ?_⟩
   obtain ⟨q1,q2⟩:=Jt hV hw.1 hsrc
   obtain ⟨j,hj,hje⟩:=yai q1
   have:=z3 j hj (by omega) (by rw [hje,←vX,q2];exact hw.2) (by rw [hje,q2];exact hc)
   rwa [hje,q2] at this
  ·rw [hg,if_neg e] at h1
   exact (z2 u h1 h2 e).mono hsub
theorem Rv:∀ {a b:List Bool},a.length=b.length→(∀ u,a.getD u false=true→b.getD u false=true)→b.count false≤a.count false
 | [],b,hl,_=>by cases b<;>simp_all
 | x::a,[],hl,_=>by simp at hl
 | x::a,y::b,hl,h=>by
  have h0:=h 0
  have:=Rv (a:=a) (b:=b) (by simpa using hl) fun u hu=>by have:=h (u+1);simpa using this (by simpa using hu)
  simp only [yaO]
  cases x<;>cases y<;>simp at*<;> omega
theorem cnt_lt:∀ {a b:List Bool} {v:Nat},a.length=b.length→(∀ u,a.getD u false=true→b.getD u false=true)→v<a.length→a.getD v false=false→b.getD v false=true→b.count false<a.count false
 | [],b,v,hl,_,hv,_,_=>by simp at hv
 | x::a,[],v,hl,_,_,_,_=>by simp at hl
 | x::a,y::b,0,hl,h,hv,h1,h2=>by
  have:=Rv (a:=a) (b:=b) (by simpa using hl) fun u hu=>by have:=h (u+1);simpa using this (by simpa using hu)
  simp only [yaO]
  simp at h1 h2
  subst h1 h2
  simp;omega
 | x::a,y::b,v+1,hl,h,hv,h1,h2=>by
  have h0:=h 0
  have:=cnt_lt (a:=a) (b:=b) (v:=v) (by simpa using hl) (fun u hu=>by have:=h (u+1);simpa using this (by simpa using hu)) (by simpa using hv) (by simpa using h1) (by simpa using h2)
  simp only [yaO]
  cases x<;>cases y<;>simp at*<;> omega
end
end Go.Fx.P.K
namespace Go.Fx.P.K
open Go Go.Fx Go.Fx.E Go.Proofs
set_option maxRecDepth 20000
abbrev G28:Type:=Nat × List Int × List Int × List Int
def hpD (N:Nat) (arcs:List Arc) (x p:List Int) (g:G28):List Blk :=
 [wB N x.length arcs 1 2 3,.arr 1 (x.map encI),.arv 1 (iD arcs N),.arr 1 (p.map encI),.var [.ptr 0 0 0],.dead,.var [.sl 7 0 N],.arr 1 (g.2.2.2.map encI),.var [.sl 10 0 g.1,.sl 11 0 g.1],.var [.ptr 8 0 0],.arr 1 (g.2.1.map encI),.arr 1 (g.2.2.1.map encI)]
def Jb:Env:=[(8,.ptr 13 0 0),(7,.ptr 12 0 0),(6,.ptr 9 0 0),(5,.ptr 6 0 0),(2,.ptr 4 0 0)]
def hpI (N:Nat) (arcs:List Arc) (x p:List Int) (key:Int) (v:Nat) (g:G28):List Blk :=
 hpD N arcs x p g++[.var [.i key],.var [.i v],.var [.ptr 0 0 0],.var [.i v],.rcd .ready Jb]
section
variable {N:Nat} {arcs:List Arc} {x p:List Int} {s:Nat} {hs:s<N}
structure Inn (G:Lb.Gr) (N:Nat) (arcs:List Arc) (x:List Int) (key:Int) (v M0:Nat) (i:Nat) (g:G28):Prop where
 di:DI N G g.1 g.2.1 g.2.2.1 g.2.2.2
 kv:g.2.2.2.getD v 0=key
 kf:key<far
 pe:uB N G g.1 g.2.1 g.2.2.1 g.2.2.2 fun u=>u≠v
 cl:∀ j (hj:j<(bO arcs v arcs.length).length),j<i→0<cN arcs x v (bO arcs v arcs.length)[j]→g.2.2.2.getD (G.dst (wix arcs v (bO arcs v arcs.length)[j])) 0≤key+G.c (wix arcs v (bO arcs v arcs.length)[j])
 ms:meas N g.1 g.2.2.2<M0
theorem adI (hW:WOk N arcs x p) {key:Int} {v:Nat} (hv:v<N) (hx:∀ j,0≤x.getD j 0∧x.getD j 0≤1073741824):ItH (hpI N arcs x p key v) (fun _=>x) 17 N v arcs 16 14 15 0 1 2 3 [16,0,1,2,3]:=by
 have hxl:=hW.hx
 refine ⟨hW.hV,hv,fun g=>rfl,fun g tl=>rfl,fun g tl=>rfl,fun g tl=>by rw [←hxl];rfl,fun g tl=>rfl,fun g tl=>rfl,fun g=>⟨trivial,trivial,trivial,trivial,trivial,trivial⟩,fun g=>?_,fun g=>⟨_,_,rfl⟩,fun g=>⟨hxl,hx⟩⟩
 unfold hpI hpD wB Jb
 simp -implicitDefEqProofs only [rX,aB,wfE,wfB,wfV,wfL,bV]
theorem Lw {v k a b i:Nat} {e:Env} {M:List Nat} (h1:k∉M) (h2:a∉M) (h3:b∉M) (h:EI arcs v k a b i e):EI arcs v k a b i (bU M e):=by
 refine ⟨?_,?_,?_,?_,?_,?_,?_⟩<;>rw [eJ]
 ·rw [h.e0];simp [kill,h1]
 ·rw [h.e1];simp [kill,h2]
 ·rw [h.e2];simp [kill,h3]
 ·rw [h.e14];rfl
 ·rw [h.e15];rfl
 ·rw [h.e16];rfl
 ·rw [h.e65];rfl
theorem abO (hW:WOk N arcs x p) (hn:NN arcs x fun u=>p.getD u 0) {key:Int} {v M0 i:Nat} {g:G28} (hv:v<N) (hi:i<(bO arcs v arcs.length).length) (hI:Inn (grD N arcs x (fun u=>p.getD u 0) s hW.hV hs hn) N arcs x key v M0 i g)
  (hr:0<cN arcs x v (bO arcs v arcs.length)[i]) {e:Env} {bb:Nat} {Z:V→St→Prop} (he:EI arcs v 16 14 15 i e)
  (hT:∀ e' g' tl,EI arcs v 16 14 15 i e'→Inn (grD N arcs x (fun u=>p.getD u 0) s hW.hV hs hn) N arcs x key v M0 (i+1) g'→Z (.b true) ⟨e',hpI N arcs x p key v g'++tl,bb⟩) :
  yR (cxN Tryz.prog [0,1,2,3]) [46] c90a0 c90r0 16 [j1 arcs x v (bO arcs v arcs.length)[i]] ⟨e,hpI N arcs x p key v g++[.var (gA arcs (bO arcs v arcs.length)[i]).enc,.var (u0 arcs x v (bO arcs v arcs.length)[i])],bb⟩ Z:=by
 have hVV:=hW.hV
 obtain ⟨hj,hend⟩:=vJ hi
 generalize hk:(bO arcs v arcs.length)[i]=k at *
 have hsrc:=Ck hVV hj hend
 have hroom:wrm arcs x (wix arcs v k)=cN arcs x v k:=vX
 have hres:pZ arcs x (wix arcs v k):=⟨by rw [fB];exact hj,by rw [hroom];exact hr⟩
 obtain ⟨w1,w2,w3⟩:=vY hVV hres.1
 have hcb:=sR hVV hres.1
 have hway:j1 arcs x v k=.agg [.i k,.i (wdst arcs (wix arcs v k):Nat),.i (cN arcs x v k),.i (eR arcs (wix arcs v k)),.b (decide (¬(gA arcs k).from_=v))]:=by
  have:=hVV.at hj
  unfold j1 cN wdst eR
  rw [fB]
  unfold wix
  by_cases h:(gA arcs k).from_=v
  ·simp only [if_pos h]
   rw [if_pos (by omega),if_pos (by omega),show (((gA arcs k).to.toNat:Nat):Int)=(gA arcs k).to by omega,show decide (¬(gA arcs k).from_=v)=false from decide_eq_false (by simpa using h)]
  ·simp only [if_neg h]
   rw [if_neg (by omega),if_neg (by omega),show (((gA arcs k).from_.toNat:Nat):Int)=(gA arcs k).from_ by omega,show decide (¬(gA arcs k).from_=v)=true from decide_eq_true h]
 have hwc:cells? (j1 arcs x v k)=some (u0 arcs x v k):=by unfold j1 u0;split<;>rfl
 have hwc2:u0 arcs x v k=[.i k,.i (wdst arcs (wix arcs v k):Nat),.i (cN arcs x v k),.i (eR arcs (wix arcs v k)),.b (decide (¬(gA arcs k).from_=v))]:=by
  rw [hway] at hwc
  simpa [cells?] using hwc.symm
 obtain ⟨n,ks,vs,D⟩:=g
 rw [hway,hwc2]
 generalize decide (¬(gA arcs k).from_=v)=bk at *
 generalize cN arcs x v k=rm at *
 have hKill:∀ M,bN M (gA arcs k).enc=(gA arcs k).enc:=fun M=>rfl
 generalize (gA arcs k).enc=encA at *
 have hcall:=Wk N arcs x p v (wdst arcs (wix arcs v k):Nat) (eR arcs (wix arcs v k)) (.i k) (.i rm) (.b bk) hW (by omega) (by omega) hcb
 have hrc:eR arcs (wix arcs v k)+p.getD (v:Int).toNat 0-p.getD ((wdst arcs (wix arcs v k):Nat):Int).toNat 0=dD arcs (fun u=>p.getD u 0) (wix arcs v k):=by
  unfold dD
  rw [hsrc,yaa,yaa]
 rw [hrc] at hcall
 have hc0:=hn _ hres
 have hp1:=hW.hb v
 have hp2:=hW.hb (wdst arcs (wix arcs v k))
 have hcB:dD arcs (fun u=>p.getD u 0) (wix arcs v k)≤1074790400:=by
  unfold dD
  rw [hsrc]
  show eR arcs (wix arcs v k)+p.getD v 0-p.getD (wdst arcs (wix arcs v k)) 0≤_
  omega
 have hDl:D.length=N:=hI.di.len
 have hkey:=hI.di.nn hW.hN (fun j=>hW.hb j) hv
 have hkv:D.getD v 0=key:=hI.kv
 rw [show ((n,ks,vs,D):G28).2.2.2=D from rfl,hkv] at hkey
 have hkf:=hI.kf
 have hkB:key≤KB:=by
  rcases hkey.2 with e|e
  ·omega
  ·exact e
 refine Jr 19 rfl rfl rfl ?_
 unfold hpI hpD wB Jb c90a0
 simp -implicitDefEqProofs only [rX,↓rY,rZ,↓rW,aA,cells?,splice,↓reduceIte,Nat.reduceEqDiff,Nat.reduceAdd,aC,isC,cxN,lF]
 unfold c90r0
 simp -implicitDefEqProofs only [rX,↓rY,rdK,↓reduceIte,Nat.reduceEqDiff,Nat.reduceAdd]
 generalize hcc:dD arcs (fun u=>p.getD u 0) (wix arcs v k)=c at *
 generalize hto:wdst arcs (wix arcs v k)=to at *
 refine cX [0,1,2,3] [.ptr 0 0 0,.i v,.agg [.i k,.i (to:Nat),.i rm,.i (eR arcs (wix arcs v k)),.b bk]] (.i c) (.i c) (wH N arcs x p) (wH N arcs x p) _ hcall (by simp) (by simp [wH,wB,blk,cA,cJ,ren,pos,cF]) (by simp [aF,aJ,aW,bP,wkL,wk,pos]) (by simp [wH]) rfl rfl (by simp [aD,aB,wH,wB,bH,cA]) ?_
 simp -implicitDefEqProofs only [rX,↓rY,rZ,↓rW,cells?,splice,↓reduceIte,Nat.reduceEqDiff,cR,Nat.reduceAdd,isD,isC,yac,cP,yaa,e7,wH,wB,bH,cA,cJ,ren,cF,back]
 have hDt:D.getD to 0=D[to]'(by omega):=bX (by omega)
 have hKBv:KB=67711795200:=rfl
 have hEI:=he
 have hcl:∀ (D':List Int),D'.getD v 0=key→(∀ u,D'.getD u 0≤D.getD u 0)→D'.getD to 0≤key+c →
   ∀ j (hj:j<(bO arcs v arcs.length).length),j<i+1→0<cN arcs x v (bO arcs v arcs.length)[j]→D'.getD ((grD N arcs x (fun u=>p.getD u 0) s hW.hV hs hn).dst (wix arcs v (bO arcs v arcs.length)[j])) 0≤key+(grD N arcs x (fun u=>p.getD u 0) s hW.hV hs hn).c (wix arcs v (bO arcs v arcs.length)[j]):=by
  intro D' e1 e2 e3 j hj2 hlt hro
  by_cases e:j=i
  ·subst e
   show D'.getD (wdst arcs (wix arcs v (bO arcs v arcs.length)[j])) 0≤key+dD arcs (fun u=>p.getD u 0) (wix arcs v (bO arcs v arcs.length)[j])
   rw [hk,hto,hcc]
   exact e3
  ·exact yaC (e2 _) (hI.cl j hj2 (by omega) hro)
 refine ⟨by simp only [lo,Fx.hi];omega,⟨by omega,by omega⟩,by omega,?_⟩
 simp only [br,decide_eq_true_eq,decide_eq_false_iff_not]
 refine ⟨fun hlt=>⟨⟨by omega,by omega⟩,by omega,?_⟩,fun hge=>?_⟩
 ·have hnle:=hI.di.n_le hW.hN (fun j=>hW.hb j)
  simp only at hnle
  refine eH (nP n ks vs (key+c) (to:Nat)) [8,10,11] [1,2] [10,11] [.ptr 0 0 0,.i (key+c),.i to] (fun _=>.tup []) (hpB n ks vs) (fun g=>hpB (n+1) g.1 g.2) (acP n ks vs (key+c) to hI.di.h1 hI.di.h2 (by omega)) (by simp) (by simp) (by simp [hpB,blk,cA,cJ,ren,pos]) (by simp [aF,aJ,aW,bP,wkL,wk,pos]) fun g hg=>⟨by simp [aD,aB,hpB,bH,cA,bD],?_⟩
  obtain ⟨ks2,vs2⟩:=g
  have hpush:=hI.di.push (i:=wix arcs v k) (ks':=ks2) (vs':=vs2) hW.hN (fun j=>hW.hb j) hres
  have hpe:=hI.pe.push (t:=to) (nv:=key+c) (by rw [hI.di.len];exact w2) (by show key+c<D.getD to 0;rw [hDt];exact hlt) hg
  simp only [hsrc,hto,hcc,hkv,hDt] at hpush
  obtain ⟨hd1,hd2⟩:=hpush hkf hlt hg
  simp -implicitDefEqProofs only [rX,rZ,↓rW,↓reduceIte,Nat.reduceEqDiff,Nat.reduceAdd,reduceCtorEq,bU,bD,kill,bN,St.kill,hpB,bH,cA,cJ,ren,back,fK,l7,hKill]
  have hge:∀ u,(D.set to (key+c)).getD u 0=if u=to then key+c else D.getD u 0:=fun u=>fU (by omega)
  have hvt:¬v=to:=by rw [←hsrc];exact w3
  refine hT (bU [10,11] e) (n+1,ks2,vs2,D.set to (key+c)) [.var encA,.var [.i k,.i to,.i rm,.i (eR arcs (wix arcs v k)),.b bk],.dead,.var [.i k,.i to,.i rm,.i (eR arcs (wix arcs v k)),.b bk]] (Lw (by simp) (by simp) (by simp) he) ⟨hd1,?_,hkf,hpe,hcl _ ?_ ?_ ?_,Nat.lt_trans hd2 hI.ms⟩
  ·show (D.set to (key+c)).getD v 0=key
   rw [hge,if_neg hvt];exact hkv
  ·show (D.set to (key+c)).getD v 0=key
   rw [hge,if_neg hvt];exact hkv
  ·intro u
   show (D.set to (key+c)).getD u 0≤D.getD u 0
   rw [hge]
   split
   ·rename_i e;rw [e,hDt];omega
   ·exact yae _
  ·show (D.set to (key+c)).getD to 0≤key+c
   rw [hge,if_pos rfl];exact yae _
 ·exact hT e (n,ks,vs,D) [.var encA,.var [.i k,.i to,.i rm,.i (eR arcs (wix arcs v k)),.b bk],.dead,.var [.i k,.i to,.i rm,.i (eR arcs (wix arcs v k)),.b bk]] he ⟨hI.di,hkv,hkf,hI.pe,hcl D hkv (fun u=>yae _) (by rw [hDt];omega),hI.ms⟩
end
end Go.Fx.P.K
namespace Go.Fx.P.K
open Go Go.Fx Go.Fx.E Go.Proofs
set_option maxRecDepth 20000
section
variable {N:Nat} {arcs:List Arc} {x p:List Int} {s:Nat} {hs:s<N}
abbrev Fj (N:Nat) (arcs:List Arc) (x p:List Int) (g:G28):St:=⟨[(6,.ptr 9 0 0),(5,.ptr 6 0 0),(2,.ptr 4 0 0)],hpD N arcs x p g,0⟩
structure Sp (G:Lb.Gr) (N:Nat) (g:G28):Prop where
 di:DI N G g.1 g.2.1 g.2.2.1 g.2.2.2
 pe:uB N G g.1 g.2.1 g.2.2.1 g.2.2.2 fun _=>True
theorem aaE (hW:WOk N arcs x p) (hn:NN arcs x fun u=>p.getD u 0) (hx:∀ j,0≤x.getD j 0∧x.getD j 0≤1073741824) {RR:St→Prop} {X:Nat→St→Prop}
  (hX:∀ D ks vs,Ai N (grD N arcs x (fun u=>p.getD u 0) s hW.hV hs hn) D→∀ e b,get e 5=.ptr 6 0 0→X 0 ⟨e,hpD N arcs x p (0,ks,vs,D),b⟩) (g:G28) (hg:Sp (grD N arcs x (fun u=>p.getD u 0) s hW.hV hs hn) N g) :
  aw (cxN Tryz.prog [0,1,2,3]) c90l0 (fun s'=>∃ g':G28,(Sp (grD N arcs x (fun u=>p.getD u 0) s hW.hV hs hn) N g'∧meas N g'.1 g'.2.2.2<meas N g.1 g.2.2.2)∧leS [0,1,2,3] s' (Fj N arcs x p g')) X RR (Fj N arcs x p g):=by
 obtain ⟨n,ks,vs,D⟩:=g
 obtain ⟨hD,hP⟩:=hg
 simp only at hD hP
 have hnle:=hD.n_le hW.hN (fun j=>hW.hb j)
 have hDl:D.length=N:=hD.len
 unfold c90l0 Fj hpD wB
 rcases Nat.eq_zero_or_pos n with h0|h0
 ·subst h0
  have hfin:=hD.fin hP
  have:=hX D ks vs hfin
  unfold hpD wB at this
  simp -implicitDefEqProofs only [rX,↓rY,aA,↓reduceIte,Nat.reduceEqDiff,Nat.reduceAdd,cxN]
  intro _
  have hd:decide ((0:Int)<((0:Nat):Int))=false:=by decide
  simp -implicitDefEqProofs only [↓rY,hd]
  exact this _ _ rfl
 have hd:decide ((0:Int)<(n:Int))=true:=decide_eq_true (by omega)
 simp -implicitDefEqProofs only [rX,↓rY,aA,↓reduceIte,Nat.reduceEqDiff,Nat.reduceAdd,cxN,hd]
 intro _
 refine eH (Vs n ks vs) [8,10,11] [] [] [.ptr 0 0 0] (fun g=>.tup [.i g.1.1,.i g.1.2]) (hpB n ks vs) (fun g=>hpB (n-1) g.2.1 g.2.2) (acO n ks vs h0 hD.h1 hD.h2 (by omega)) (by simp) (by simp) (by simp [hpB,blk,cA,cJ,ren,pos]) (by simp [aF,aJ,aW,bP,wkL,wk,pos]) fun g hg=>⟨by simp [aD,aB,hpB,bH,cA,bD],?_⟩
 obtain ⟨⟨key,v0⟩,ks2,vs2⟩:=g
 have hent:=hD.ent _ _ hg.hin
 simp only at hent
 obtain ⟨v,rfl⟩:∃ v:Nat,v0=v:=⟨v0.toNat,by omega⟩
 rw [yaa] at hent
 have hvN:v<N:=by omega
 obtain ⟨hD2,hM2⟩:=hD.pop h0 hg
 have hP2:=hP.pop hg
 simp only at hD2 hM2 hP2
 have hDv:D.getD v 0=D[v]'(by omega):=bX (by omega)
 simp -implicitDefEqProofs only [rX,↓rY,aA,cells?,splice,↓reduceIte,Nat.reduceEqDiff,cR,Nat.reduceAdd,aC,leE,leH,leB,leV,bB,aD,aB,wfE,wfB,wfV,wfL,bU,bD,kill,bN,St.kill,isC,yac,cP,yaa,hpB,bH,cA,cJ,ren,back,fK]
 refine ⟨⟨by omega,by omega⟩,by omega,?_⟩
 simp only [br,decide_eq_true_eq,decide_eq_false_iff_not]
 refine ⟨fun hgt=>?_,fun hle=>?_⟩
 ·refine ⟨(n-1,ks2,vs2,D),⟨⟨hD2,fun u hu hQ hf=>hP2 u hu ?_ hf⟩,hM2⟩,?_⟩
  ·rintro ⟨e1,e2⟩
   have:u=v:=by omega
   subst this
   omega
  ·exact ⟨⟨rfl,⟨rfl,rfl⟩,rfl,rfl⟩,vK⟩
 have hkey:D.getD v 0=key:=by omega
 refine cX [0,1,2,3] [.ptr 0 0 0,.i v] (.clo 146 [.ptr 4 0 0,.ptr 5 0 0]) (.clo 146 [.ptr 14 0 0,.ptr 15 0 0]) (wH N arcs x p) (wH N arcs x p++[Blk.var [V.ptr 0 0 0],Blk.var [V.i v]]) (hpD N arcs x p (n-1,ks2,vs2,D)++[Blk.var [V.i key],Blk.var [V.i v],Blk.var [V.ptr 0 0 0],Blk.var [V.i v]]) (Wl N arcs x p v) (by simp) (by simp [wH,wB,blk,cA,cJ,ren,pos,cF]) (by simp [aF,aJ,aW,bP,wkL,wk,pos]) (by simp [wH]) (by simp [hpD,wH,wB,bH,cA,cJ,ren,cF,back]) (by simp [ren,cJ,back]) (by simp [aD,aB,hpD,wB]) ?_
 unfold hpD wB
 simp -implicitDefEqProofs only [rX]
 refine Cw 16 rfl rfl trivial ?_
 have hkf:key<far:=by
  have:KB<far:=by decide
  omega
 have hI0:Inn (grD N arcs x (fun u=>p.getD u 0) s hW.hV hs hn) N arcs x key v (meas N n D) 0 (n-1,ks2,vs2,D):=by
  refine ⟨hD2,hkey,hkf,fun u hu hQ hf=>hP2 u hu ?_ hf,fun j hj h=>by omega,hM2⟩
  rintro ⟨e1,e2⟩
  omega
 refine Ss (h':=hpI N arcs x p key v (n-1,ks2,vs2,D)) ?_ ?_ ?_ ?_ (Wv (Inv:=Inn (grD N arcs x (fun u=>p.getD u 0) s hW.hV hs hn) N arcs x key v (meas N n D)) (adI hW hvN hx) ?_ ?_ ?_ _ hI0)
 ·unfold hpI hpD wB Jb
  simp -implicitDefEqProofs only [rX,↓reduceIte,Nat.reduceEqDiff,leE,leH,leB,leV,bB,or_true]
 ·simp [aD,aB,hpI,hpD,wB]
 ·unfold hpI hpD wB Jb
  simp -implicitDefEqProofs only [rX,aB,wfE,wfB,wfV,wfL,bV]
 ·unfold hpI hpD wB Jb
  simp -implicitDefEqProofs only [rX,aB,wfV,wfL]
 ·rintro i g hi ⟨g1,g2,g3,g4,g5,g6⟩ hr
  refine ⟨g1,g2,g3,g4,fun j hj hlt hro=>?_,g6⟩
  by_cases e:j=i
  ·subst e
   exact absurd hro (by omega)
  ·exact g5 j hj (by omega) hro
 ·intro i g hi hI hr e bb Z he hT hF
  exact abO hW hn hvN hi hI hr he hT
 ·rintro ⟨n3,ks3,vs3,D3⟩ ⟨g1,g2,g3,g4,g5,g6⟩
  simp only at g1 g2 g3 g4 g5 g6
  have hcl:clN (grD N arcs x (fun u=>p.getD u 0) s hW.hV hs hn) D3 v:=by
   intro i hi hsrc
   obtain ⟨q1,q2⟩:=Jt hW.hV hi.1 hsrc
   obtain ⟨j,hj,hje⟩:=yai q1
   have hres:pZ arcs x i:=hi
   have:=g5 j hj hj (by rw [hje,←vX,q2];exact hres.2)
   rw [hje,q2] at this
   rw [g2]
   exact this
  unfold hpI hpD wB Jb
  simp -implicitDefEqProofs only [rX,rZ,↓rW,↓reduceIte,Nat.reduceEqDiff,leE,leH,leB,leV,bB,aD,aB,wfE,wfB,wfV,wfL,bV]
  refine ⟨(n3,ks3,vs3,D3),⟨⟨g1,g4.done hcl⟩,g6⟩,?_⟩
  exact ⟨rfl,⟨rfl,rfl⟩,rfl,rfl⟩
theorem Fc {N:Nat} {x:Int}:yab N (encI x)=(yab N x).map encI:=by simp
theorem Yq (key val:Int):OkN Tryz.prog 123 [.ptr 0 0 0,.i key,.i val] [.var [.nil,.nil]] [] (IsQ (nP 0 [] [] key val) (fun _=>.tup []) (fun g=>hpB 1 g.1 g.2)):=by
 refine Uh pol [0] lw123 (by simp) ⟨trivial,trivial⟩ (by simp) (s0:=⟨aK 0 [.ptr 0 0 0,.i key,.i val],hpB 0 [] [],0⟩) ?_ ?_
 ·refine ⟨_,.virt 2 1 (by decide) (.nilB 0 [.nil,.nil] [.sl 1 0 0,.sl 2 0 0] rfl ⟨rfl,fun i a b h1 h2=>?_⟩ (.refl _)),?_⟩
  ·match i with
   | 0=>simp at h1 h2;subst h1 h2;exact .inr ⟨rfl,_,rfl⟩
   | 1=>simp at h1 h2;subst h1 h2;exact .inr ⟨rfl,_,rfl⟩
   | i+2=>simp at h1
  ·unfold hpB
   simp -implicitDefEqProofs only [rX,↓reduceIte,Nat.reduceEqDiff,Nat.reduceAdd,reduceCtorEq,leE,leH,leB,leV,bB,aD,aB,wfE,wfB,wfV,wfL,aK]
 ·refine Ru 0 [] [] key val (by simp) (by simp) (by omega) fun g hg e b=>?_
  refine dO g hg ?_
  unfold hpB
  simp -implicitDefEqProofs only [rX,Nat.reduceAdd,aT,aV,leH,leB,leV,bB,aD,aB,wfB,wfV,wfL,Nat.reduceLeDiff]
theorem agT (hW:WOk N arcs x p) (hn:NN arcs x fun u=>p.getD u 0) (hx:∀ j,0≤x.getD j 0∧x.getD j 0≤1073741824) :
  OkN Tryz.prog 90 [.ptr 0 0 0,.i s] (wH N arcs x p) [] (IsQ (Ai N (grD N arcs x (fun u=>p.getD u 0) s hW.hV hs hn)) (fun _=>.sl 7 0 N) (fun D=>wH N arcs x p++[.dead,.dead,.dead,.arr 1 (D.map encI)])):=by
 refine eL pol [0,1,2,3] lw90 (by simp) ⟨trivial,trivial,trivial,trivial,trivial⟩ (by simp [wH];omega) ?_
 have hN:=hW.hV.hn
 unfold c90 wH wB
 simp -implicitDefEqProofs only [rX,↓rY,aA,cells?,↓reduceIte,Nat.reduceEqDiff,Nat.reduceAdd,aC,cI,isD,Nat.reduceLT,cxN,aK]
 refine eW [.bro 1 [encI far],.i N] (.sl 0 0 N) (.sl 7 0 N) [.arr 1 (yab N (encI far))] [.arr 1 (yab N (encI far))] (acQ N far (by omega) (by omega)) (by simp [aF,aJ,aW,bP,wkL,wk,wkB,blk,far,encI]) rfl rfl (by simp [aD,aB]) ?_
 rw [Fc]
 simp -implicitDefEqProofs only [rX,↓rY,aA,cells?,splice,↓reduceIte,Nat.reduceEqDiff,cR,Nat.reduceAdd,reduceCtorEq,aC,bQ,isD,isC,yac,yaa,e7,l7]
 refine ⟨⟨by omega,by omega⟩,by omega,?_⟩
 refine eH (nP 0 [] [] 0 (s:Nat)) [8] [] [] [.ptr 0 0 0,.i 0,.i s] (fun _=>.tup []) [Blk.var [.nil,.nil]] (fun g=>hpB 1 g.1 g.2) (Yq 0 s) (by simp) (by simp) (by simp [blk,cA,cJ,ren,pos]) (by simp [aF,aJ,aW,bP,wkL,wk,pos]) fun g hg=>⟨by simp [aD,aB,hpB,bH,cA,bD],?_⟩
 obtain ⟨ks,vs⟩:=g
 obtain ⟨h1,h2⟩:=DI.start (N:=N) (arcs:=arcs) (x:=x) (p:=fun u=>p.getD u 0) (s:=s) (hV:=hW.hV) (hs:=hs) (hn:=hn) hg
 simp -implicitDefEqProofs only [rX,↓reduceIte,Nat.reduceAdd,bU,bD,kill,bN,St.kill,hpB,bH,cA,cJ,ren,back,fK]
 refine aU (Fj N arcs x p) (Sp (grD N arcs x (fun u=>p.getD u 0) s hW.hV hs hn) N) (fun g=>meas N g.1 g.2.2.2) (1,ks,vs,(yab N far).set s 0) ⟨h1,h2⟩ ?_ (aaE hW hn hx fun D ks vs hQ e b he=>?_)
 ·unfold Fj hpD wB
  simp -implicitDefEqProofs only [rX,↓reduceIte,Nat.reduceEqDiff,leE,leH,leB,leV,bB,aD,aB,wfE,wfB,wfV,wfL,bV]
  exact ⟨rfl,rfl⟩
 ·unfold hpD wB
  simp -implicitDefEqProofs only [rX,↓rY,↓reduceIte,Nat.reduceAdd,he]
  refine dO D hQ ?_
  simp -implicitDefEqProofs only [rX,↓reduceIte,Nat.reduceAdd,aT,aV,leH,leB,leV,bB,aD,aB,wfB,wfV,wfL,Nat.reduceLeDiff,bV]
end
end Go.Fx.P.K
namespace Go.Fx.P.K
open Go Go.Fx Go.Fx.E Go.Proofs
set_option maxRecDepth 20000
def h44 (N:Nat) (arcs:List Arc) (p:List Int) (to:Nat) (x:List Int) (d:List Bool):List Blk :=
 [wB N arcs.length arcs 1 2 3,.arr 1 (x.map encI),.arv 1 (iD arcs N),.arr 1 (p.map encI),.var [.ptr 0 0 0],.var [.i to],.arr 1 (d.map u9),.var [.sl 6 0 N],.var [.clo 128 [.ptr 5 0 0,.ptr 7 0 0,.ptr 4 0 0,.ptr 8 0 0]]]
abbrev G44 (arcs:List Arc):Type:={ g:Int × List Int × List Bool // XB arcs g.2.1 }
def vA:Env:=[(9,.ptr 11 0 0),(7,.ptr 10 0 0),(6,.ptr 9 0 0),(5,.ptr 8 0 0),(4,.ptr 4 0 0),(3,.ptr 7 0 0)]
def hpF (N:Nat) (arcs:List Arc) (p:List Int) (to v:Nat) (most:Int) (g:Int × List Int × List Bool):List Blk :=
 h44 N arcs p to g.2.1 g.2.2++[.var [.i v],.var [.i most],.var [.i g.1],.var [.ptr 0 0 0],.var [.i v],.rcd .ready vA]
theorem Bv {l:List Bool} {k:Nat} (h:k<l.length):l.getD k false=l[k]:=by
 rw [yaf,yag h];rfl
theorem XB.bd {N:Nat} {arcs:List Arc} {x:List Int} (hV:Val N arcs) (h:XB arcs x) (j:Nat):0≤x.getD j 0∧x.getD j 0≤1073741824:=by
 by_cases hj:j<arcs.length
 ·have:=h.hb j hj
  have:=hV.at hj
  omega
 ·rw [yaf,yat (by have:=h.hl;omega)];simp
def Sq (N:Nat) (arcs:List Arc) (p:List Int) (to:Nat) (x:List Int) (d:List Bool) (v:Nat) (most:Int):Prop :=
 OkN Tryz.prog 128 [.i v,.i most,.ptr 5 0 0,.ptr 7 0 0,.ptr 4 0 0,.ptr 8 0 0] (h44 N arcs p to x d) [] (IsQ (FQ arcs x (fun u=>p.getD u 0) to d v most) (fun g=>.i g.1) (fun g=>h44 N arcs p to g.2.1 g.2.2))
section
variable {N:Nat} {arcs:List Arc} {x p:List Int} {to v:Nat} {d:List Bool} {most:Int}
theorem adH (hV:Val N arcs) (hv:v<N):ItH (fun g:G44 arcs=>hpF N arcs p to v most g.1) (fun g=>g.1.2.1) 15 N v arcs 14 12 13 0 1 2 3 [14,0,1,2,3,4,5,6,7,8]:=by
 refine ⟨hV,hv,fun g=>rfl,fun g tl=>rfl,fun g tl=>rfl,fun g tl=>rfl,fun g tl=>rfl,fun g tl=>rfl,fun g=>⟨trivial,trivial,trivial,trivial,trivial,trivial,trivial,trivial,trivial,trivial,trivial⟩,fun g=>?_,fun g=>⟨_,_,rfl⟩,fun g=>⟨g.2.hl,fun j=>g.2.bd hV j⟩⟩
 unfold hpF h44 wB vA
 simp -implicitDefEqProofs only [rX,aB,wfE,wfB,wfV,wfL,bV]
theorem abN (hW:∀ x,XB arcs x→WOk N arcs x p) (hvd:d.getD v false=false) (hdl:d.length=N) (hto:to<N) (hm:0<most∧most≤4611686018427387904) {i:Nat} {g:Int × List Int × List Bool} (hv:v<N) (hi:i<(bO arcs v arcs.length).length)
  (IH:∀ (x1:List Int) (d1:List Bool) (v1:Nat) (m1:Int),d1.count false<d.count false→XB arcs x1→d1.length=N→v1<N→d1.getD v1 false=false→0≤m1∧m1≤4611686018427387904→Sq N arcs p to x1 d1 v1 m1)
  (hI:FN N arcs x (fun u=>p.getD u 0) to d v most i g)
  (hr:0<cN arcs g.2.1 v (bO arcs v arcs.length)[i]) {e:Env} {bb:Nat} {Z:V→St→Prop} {NX RX:St→Prop} {XX:Nat→St→Prop} (he:EI arcs v 14 12 13 i e)
  (hN:∀ e' h',(∃ (g:Int × List Int × List Bool) (tl:List Blk),FN N arcs x (fun u=>p.getD u 0) to d v most i g∧g.1=most∧e'=vA∧h'=(hpF N arcs p to v most g).set 14 .dead++tl)→XX 0 ⟨e',h',0⟩)
  (hT:∀ e' g' tl,EI arcs v 14 12 13 i e'→FN N arcs x (fun u=>p.getD u 0) to d v most (i+1) g'→Z (.b true) ⟨e',hpF N arcs p to v most g'++tl,bb⟩)
  (hF:∀ e' hh,EI arcs v 14 12 13 i e'→sA 14 NX XX RX hh→Z (.b false) ⟨e',hh,bb⟩) :
  yR (cxN Tryz.prog [0,1,2,3,4,5,6,7,8]) [26] c128a0 c128r0 14 [j1 arcs g.2.1 v (bO arcs v arcs.length)[i]] ⟨e,hpF N arcs p to v most g++[.var (gA arcs (bO arcs v arcs.length)[i]).enc,.var (u0 arcs g.2.1 v (bO arcs v arcs.length)[i])],bb⟩ Z:=by
 obtain ⟨sent,x1,d1⟩:=g
 have hfi:=hI.fi
 have hn0:=hI.n0
 simp only at hfi hn0 hr ⊢
 have hx1:=hfi.xb
 have hWx:=hW x1 hx1
 have hVV:=hWx.hV
 obtain ⟨hj,hend⟩:=vJ hi
 generalize hk:(bO arcs v arcs.length)[i]=k at *
 have hsrc:=Ck hVV hj hend
 obtain ⟨w1,w2,w3⟩:=vY hVV (i:=wix arcs v k) (by rw [fB];exact hj)
 have hcb:=sR hVV (i:=wix arcs v k) (by rw [fB];exact hj)
 have hway:j1 arcs x1 v k=.agg [.i k,.i (wdst arcs (wix arcs v k):Nat),.i (cN arcs x1 v k),.i (eR arcs (wix arcs v k)),.b (decide (¬(gA arcs k).from_=v))]:=by
  have:=hVV.at hj
  unfold j1 cN wdst eR
  rw [fB]
  unfold wix
  by_cases h:(gA arcs k).from_=v
  ·simp only [if_pos h]
   rw [if_pos (by omega),if_pos (by omega),show (((gA arcs k).to.toNat:Nat):Int)=(gA arcs k).to by omega,show decide (¬(gA arcs k).from_=v)=false from decide_eq_false (by simpa using h)]
  ·simp only [if_neg h]
   rw [if_neg (by omega),if_neg (by omega),show (((gA arcs k).from_.toNat:Nat):Int)=(gA arcs k).from_ by omega,show decide (¬(gA arcs k).from_=v)=true from decide_eq_true h]
 have hwc:cells? (j1 arcs x1 v k)=some (u0 arcs x1 v k):=by unfold j1 u0;split<;>rfl
 have hwc2:u0 arcs x1 v k=[.i k,.i (wdst arcs (wix arcs v k):Nat),.i (cN arcs x1 v k),.i (eR arcs (wix arcs v k)),.b (decide (¬(gA arcs k).from_=v))]:=by
  rw [hway] at hwc
  simpa [cells?] using hwc.symm
 rw [hway,hwc2]
 have hdlt:∀ n,dlt arcs v k n=if decide (¬(gA arcs k).from_=v)=true then -n else n:=by
  intro n
  unfold dlt
  by_cases h:(gA arcs k).from_=v
  ·rw [if_pos h,if_neg (by simpa using h)]
  ·rw [if_neg h,if_pos (by simpa using h)]
 have hcap:=hVV.at hj
 have hx1b:=hx1.hb k hj
 have hrmb:cN arcs x1 v k≤1073741824:=by unfold cN;split<;>omega
 have hdltr:∀ n,0≤n→n≤cN arcs x1 v k→0≤x1.getD k 0+dlt arcs v k n∧x1.getD k 0+dlt arcs v k n≤1073741824:=by
  intro n h1 h2
  unfold cN at h2
  unfold dlt
  split
  ·rename_i e;rw [if_pos e] at h2;omega
  ·rename_i e;rw [if_neg e] at h2;omega
 generalize hbk:decide (¬(gA arcs k).from_=v)=bk at *
 generalize hrm:cN arcs x1 v k=rm at *
 have hKill:∀ M,bN M (gA arcs k).enc=(gA arcs k).enc:=fun M=>rfl
 have hWf:∀ q,wfL q (gA arcs k).enc=True:=fun q=>eq_true Zx
 generalize (gA arcs k).enc=encA at *
 have hcall:=Wk N arcs x1 p v (wdst arcs (wix arcs v k):Nat) (eR arcs (wix arcs v k)) (.i k) (.i rm) (.b bk) hWx (by omega) (by omega) hcb
 have hrc:eR arcs (wix arcs v k)+p.getD (v:Int).toNat 0-p.getD ((wdst arcs (wix arcs v k):Nat):Int).toNat 0=dD arcs (fun u=>p.getD u 0) (wix arcs v k):=by
  unfold dD
  rw [hsrc,yaa,yaa]
 rw [hrc] at hcall
 have hxl:=hx1.hl
 have hd1:d1.length=N:=hfi.dl.trans hdl
 have hst:=fun (hd:d1.getD (wdst arcs (wix arcs v k)) false=false) (hc:dD arcs (fun u=>p.getD u 0) (wix arcs v k)=0)=>hI.step hVV hvd hm.1 hi hk hd hc
 have hsk:=hI.skip hi
 rw [hk] at hsk
 rw [hrm] at hst
 generalize hcc:dD arcs (fun u=>p.getD u 0) (wix arcs v k)=c at *
 generalize hto2:wdst arcs (wix arcs v k)=u at *
 have hud:u<d1.length:=by omega
 have hdu:d1.getD u false=d1[u]:=Bv hud
 refine Jr 17 rfl rfl rfl ?_
 unfold hpF h44 wB vA c128a0
 simp -implicitDefEqProofs only [rX,↓rY,rZ,↓rW,aA,cells?,splice,↓reduceIte,Nat.reduceEqDiff,Nat.reduceAdd,aC,isC,cxN,lF]
 unfold c128r0
 simp -implicitDefEqProofs only [rX,↓rY,rZ,↓rW,aA,↓reduceIte,Nat.reduceEqDiff,cR,Nat.reduceAdd,reduceCtorEq,yac,tT,yaa]
 simp only [br,decide_eq_true_eq,decide_eq_false_iff_not]
 refine ⟨fun heq=>?_,fun hne=>?_⟩
 ·have heq':sent=most:=by simpa using heq
  refine hF e _ he ?_
  simp -implicitDefEqProofs only [rX,rZ,↓rW,aB,wfE,wfB,wfV,wfL,bV,hWf]
  exact hN _ _ ⟨(sent,x1,d1),[.var encA,.var [.i k,.i u,.i rm,.i (eR arcs (wix arcs v k)),.b bk],.dead,.var [.i k,.i u,.i rm,.i (eR arcs (wix arcs v k)),.b bk]],hI,heq',rfl,rfl⟩
 ·have hne':sent≠most:=by simpa using hne
  refine ⟨⟨by omega,by omega⟩,by omega,?_⟩
  refine ⟨fun hdead=>?_,fun hlive=>?_⟩
  ·exact hT e _ [.var encA,.var [.i k,.i u,.i rm,.i (eR arcs (wix arcs v k)),.b bk],.dead,.var [.i k,.i u,.i rm,.i (eR arcs (wix arcs v k)),.b bk]] he (hsk fun _ _ _=>by rw [hdu];exact hdead)
  ·refine cX [0,1,2,3] [.ptr 0 0 0,.i v,.agg [.i k,.i (u:Nat),.i rm,.i (eR arcs (wix arcs v k)),.b bk]] (.i c) (.i c) (wH N arcs x1 p) (wH N arcs x1 p) _ hcall (by simp) (by simp [wH,wB,blk,cA,cJ,ren,pos,cF,hxl]) (by simp [aF,aJ,aW,bP,wkL,wk,pos]) (by simp [wH]) rfl rfl (by simp [aD,aB,wH,wB,bH,cA]) ?_
   simp -implicitDefEqProofs only [rX,↓rY,rZ,↓rW,aA,↓reduceIte,Nat.reduceEqDiff,Nat.reduceAdd,wH,wB,bH,cA,cJ,ren,cF,back,hxl]
   simp only [br,decide_eq_true_eq,decide_eq_false_iff_not]
   refine ⟨fun hc=>hT e _ [.var encA,.var [.i k,.i u,.i rm,.i (eR arcs (wix arcs v k)),.b bk],.dead,.var [.i k,.i u,.i rm,.i (eR arcs (wix arcs v k)),.b bk]] he (hsk fun _ _ h0=>absurd h0 (by simpa using hc)),fun hc=>⟨by simp only [lo,Fx.hi];omega,?_⟩⟩
   have hc0:c=0:=by simpa using hc
   have hstep:=@hst (by rw [hdu];exact hlive) hc0 hr hne'
   have hm1:0<min rm (most-sent)∧min rm (most-sent)≤rm∧min rm (most-sent)≤most-sent:=⟨Int.lt_min.2 ⟨hr,by omega⟩,yaN _ _,yax _ _⟩
   generalize min rm (most-sent)=m1 at *
   refine eH (FQ arcs x1 (fun u=>p.getD u 0) to d1 u m1) [0,1,2,3,4,5,6,7,8] [] [] [.i u,.i m1,.ptr 5 0 0,.ptr 7 0 0,.ptr 4 0 0,.ptr 8 0 0] (fun g=>.i g.1) (h44 N arcs p to x1 d1) (fun g=>h44 N arcs p to g.2.1 g.2.2)
    (IH x1 d1 u m1 (cnt_lt (hdl.trans hd1.symm) hfi.mono (by omega) hvd hI.nd) hx1 hd1 w2 (by rw [hdu];exact hlive) (by omega)) (by simp) (by simp) (by simp [h44,wB,blk,cA,cJ,ren,pos,cF]) (by simp [aF,aJ,aW,bP,wkL,wk,pos]) fun g hg=>⟨by simp [aD,aB,h44,wB,bH,cA,bD],?_⟩
   obtain ⟨n,x2,d2⟩:=g
   have hN3:=hstep hg
   have hqi:=hg.fi
   have hn:=hg.n0
   simp only at hqi hn
   have hk2:x2.getD k 0=x1.getD k 0:=hqi.kept k hj (by
    have:d1.getD v false=true:=hI.nd
    rcases hend with e|e
    ·left;rw [e];exact this
    ·right;rw [e];exact this)
   have hkl:k<x2.length:=by rw [hqi.xb.hl];exact hj
   have hx2e:x2.getD k 0=x2[k]:=bX hkl
   have hdr:=hdltr n hn.1 (by omega)
   rw [←hk2,hx2e,hdlt] at hdr
   rw [hx2e,hdlt] at hN3
   have hmax:max n (-n)=n:=Int.max_eq_left (by omega)
   have hmax2:max (-n) n=n:=Int.max_eq_right (by omega)
   simp -implicitDefEqProofs only [rX,↓rY,rZ,↓rW,rdK,cells?,splice,↓reduceIte,Nat.reduceEqDiff,cR,Nat.reduceAdd,bU,bD,kill,bN,St.kill,isD,isC,yac,cP,yaa,e7,h44,wB,bH,cA,cJ,ren,back,cF,fK,hKill]
   have hw1:IntKind.wrap .i64 (-n)=-n:=dR .i64 _ (by simp only [lo,Fx.hi];omega)
   have hw2:IntKind.wrap .i64 (- -n)=n:=by rw [Int.neg_neg];exact dR .i64 _ (by simp only [lo,Fx.hi];omega)
   have hZ:=hT (bU [] e) _ [.var encA,.var [.i k,.i u,.i rm,.i (eR arcs (wix arcs v k)),.b bk],.dead,.var [.i k,.i u,.i rm,.i (eR arcs (wix arcs v k)),.b bk]] (Lw (by simp) (by simp) (by simp) he) hN3
   unfold hpF h44 wB vA at hZ
   cases bk
   ·simp -implicitDefEqProofs only [↓rY,hw1,hmax,l7]
    simp only [if_neg (show ¬(false=true) by decide)] at hZ hdr
    exact ⟨⟨by omega,by omega⟩,by omega,by simp only [lo,Fx.hi];omega,⟨by omega,by omega⟩,by omega,by simp only [lo,Fx.hi];omega,hZ⟩
   ·simp -implicitDefEqProofs only [↓rY,hw1,hw2,hmax2,l7]
    simp only [if_pos] at hZ hdr
    exact ⟨⟨by omega,by omega⟩,by omega,by simp only [lo,Fx.hi];omega,⟨by omega,by omega⟩,by omega,by simp only [lo,Fx.hi];omega,hZ⟩
end
end Go.Fx.P.K
namespace Go.Fx.P.K
open Go Go.Fx Go.Fx.E Go.Proofs
set_option maxRecDepth 20000
section
variable {N:Nat} {arcs:List Arc} {p:List Int} {to:Nat}
theorem Rn {l:List Bool} {k:Nat} {b:Bool}:(l.map u9).set k [.b b]=(l.set k b).map u9:=by
 rw [List.map_set];rfl
def hpE (N:Nat) (arcs:List Arc) (p:List Int) (to v:Nat) (most:Int) (g:Int × List Int × List Bool) (tl:List Blk):List Blk :=
 h44 N arcs p to g.2.1 g.2.2++[.var [.i v],.var [.i most],.var [.i g.1],.var [.ptr 0 0 0],.var [.i v],.dead]++tl
theorem abM (hV:Val N arcs) (hW:∀ x,XB arcs x→WOk N arcs x p) (hto:to<N) {x:List Int} {d:List Bool} {v:Nat} {most:Int} {Q:Int × List Int × List Bool→Prop} (hx:XB arcs x) (hdl:d.length=N) (hv:v<N) (hvt:v≠to) (hvd:d.getD v false=false) (hm:0<most∧most≤4611686018427387904)
  (IH:∀ (x1:List Int) (d1:List Bool) (v1:Nat) (m1:Int),d1.count false<d.count false→XB arcs x1→d1.length=N→v1<N→d1.getD v1 false=false→0≤m1∧m1≤4611686018427387904→Sq N arcs p to x1 d1 v1 m1)
  {NX RX:St→Prop} {XX:Nat→St→Prop} (hX:∀ s,NX s→XX 0 s) (hQ:Q=FQ arcs x (fun u=>p.getD u 0) to d v most)
  (hfin:∀ (g:Int × List Int × List Bool) tl,Q (g.1,g.2.1,g.2.2.set v (decide (g.1<most)))→g.2.2.length=N→NX ⟨vA,hpE N arcs p to v most g tl,0⟩) :
  I0 Tryz.prog 146 [.itr 14,.ptr 12 0 0,.ptr 13 0 0] [14,0,1,2,3,4,5,6,7,8] 14 (yR (cxN Tryz.prog [0,1,2,3,4,5,6,7,8]) [26] c128a0 c128r0 14) (hpF N arcs p to v most (0,x,d.set v true)) (sA 14 NX XX RX):=by
 subst hQ
 have hvl:v<d.length:=by omega
 refine Wv (Inv:=fun i (g:G44 arcs)=>FN N arcs x (fun u=>p.getD u 0) to d v most i g.1) (adH (p:=p) (to:=to) (most:=most) hV hv) ?_ ?_ ?_ ⟨(0,x,d.set v true),hx⟩ (FN.start hx (Int.le_of_lt hm.1) hvl)
 ·rintro i ⟨⟨s,x1,d1⟩,hg⟩ hi hI hr
  refine hI.skip hi fun h0 h1=>?_
  obtain ⟨z1,_⟩:=hI.zero h0
  simp only at z1 hr
  subst z1
  omega
 ·rintro i ⟨g,hg⟩ hi hI hr e bb Z he hT hF
  refine abN hW hvd hdl hto hm hv hi IH hI hr he ?_ ?_ hF
  ·rintro e' h' ⟨g',tl,h1,h2,rfl,rfl⟩
   refine hX _ (hfin g' tl (h1.done hV hvl hvt hvd hm.1 (.inr h2)) (h1.fi.dl.trans hdl))
  ·intro e' g' tl he' hI'
   exact hT e' ⟨g',hI'.fi.xb⟩ tl he' hI'
 ·rintro ⟨g,hg⟩ hI
  have:=hfin g [] (hI.done hV hvl hvt hvd hm.1 (.inl rfl)) (hI.fi.dl.trans hdl)
  obtain ⟨s,x1,d1⟩:=g
  unfold hpF h44 wB vA
  unfold hpE h44 wB vA at this
  simp -implicitDefEqProofs only [rX,rZ,↓rW,aB,wfE,wfB,wfV,wfL,bV] at this ⊢
  exact this
theorem Wj (hV:Val N arcs) (hW:∀ x,XB arcs x→WOk N arcs x p) (hto:to<N):∀ (c:Nat) (x:List Int) (d:List Bool) (v:Nat) (most:Int),d.count false<c→XB arcs x→d.length=N→v<N→d.getD v false=false→0≤most∧most≤4611686018427387904→Sq N arcs p to x d v most
 | 0,_,d,_,_,hc,_,_,_,_,_=>by omega
 | c+1,x,d,v,most,hc,hx,hdl,hv,hvd,hm=>by
  have IH:=Wj hV hW hto c
  have hxl:=hx.hl
  have hWx:=hW x hx
  have hvl:v<d.length:=by omega
  have hN:=hWx.hN
  unfold Sq
  have hbase:=FQ.base (p:=fun u=>p.getD u 0) (to:=to) (d:=d) (v:=v) hx hm.1
  generalize hQ:FQ arcs x (fun u=>p.getD u 0) to d v most=Q at *
  refine eL pol [0,1,2,3,4,5,6,7,8] lw128 (by simp) ⟨trivial,trivial,trivial,trivial,trivial,trivial,trivial,trivial,trivial,trivial⟩ (by simp [h44];omega) ?_
  unfold c128 h44 wB
  simp -implicitDefEqProofs only [rX,↓rY,aA,cells?,splice,↓reduceIte,Nat.reduceEqDiff,cR,Nat.reduceAdd,reduceCtorEq,aC,isD,isC,yac,yaa,iS,cxN,aK]
  simp only [br]
  refine ⟨fun h1=>?_,fun h1=>⟨fun h2=>?_,fun h2=>?_⟩⟩
  ·refine dO _ (hbase (.inl (Int.ofNat.inj (by simpa using h1)))) ?_
   simp -implicitDefEqProofs only [rX,↓reduceIte,Nat.reduceAdd,aT,aV,leH,leB,leV,bB,aD,aB,wfB,wfV,wfL,bV]
  ·refine dO _ (hbase (.inr (by simpa using h2))) ?_
   simp -implicitDefEqProofs only [rX,↓reduceIte,Nat.reduceAdd,aT,aV,leH,leB,leV,bB,aD,aB,wfB,wfV,wfL,bV]
  have hvt:v≠to:=by
   have:¬((v:Int)=to):=by simpa using h1
   omega
  have hm0:0<most:=by
   have:¬most=0:=by simpa using h2
   omega
  refine ⟨⟨by omega,by omega⟩,by omega,?_⟩
  refine cX [0,1,2,3] [.ptr 0 0 0,.i v] (.clo 146 [.ptr 4 0 0,.ptr 5 0 0]) (.clo 146 [.ptr 12 0 0,.ptr 13 0 0]) (wH N arcs x p) (wH N arcs x p++[Blk.var [V.ptr 0 0 0],Blk.var [V.i v]]) (h44 N arcs p to x (d.set v true)++[Blk.var [V.i v],Blk.var [V.i most],Blk.var [V.i 0],Blk.var [V.ptr 0 0 0],Blk.var [V.i v]]) (Wl N arcs x p v) (by simp) (by simp [wH,wB,blk,cA,cJ,ren,pos,cF,hxl]) (by simp [aF,aJ,aW,bP,wkL,wk,pos]) (by simp [wH]) (by simp [h44,wH,wB,bH,cA,cJ,ren,cF,back,hxl,u9]) (by simp [ren,cJ,back]) (by simp [aD,aB,h44,wB]) ?_
  unfold h44 wB
  simp -implicitDefEqProofs only [rX]
  refine Cw 14 rfl rfl trivial ?_
  refine Ss (h':=hpF N arcs p to v most (0,x,d.set v true)) ?_ ?_ ?_ ?_ (abM hV hW hto hx hdl hv hvt hvd ⟨hm0,hm.2⟩ (fun x1 d1 v1 m1 hlt=>IH x1 d1 v1 m1 (by omega)) ?_ hQ.symm ?_)
  ·unfold hpF h44 wB vA
   simp -implicitDefEqProofs only [rX,↓reduceIte,Nat.reduceEqDiff,reduceCtorEq,leE,leH,leB,leV,bB,or_true]
  ·simp [aD,aB,hpF,h44,wB]
  ·unfold hpF h44 wB vA
   simp -implicitDefEqProofs only [rX,aB,wfE,wfB,wfV,wfL,bV]
  ·unfold hpF h44 wB vA
   simp -implicitDefEqProofs only [rX,aB,wfV,wfL]
  ·intro s hs
   exact hs
  ·rintro ⟨s,x1,d1⟩ tl hq hl
   simp only at hl
   unfold hpE h44 wB vA
   simp -implicitDefEqProofs only [rX,↓rY,cells?,splice,↓reduceIte,Nat.reduceEqDiff,cR,isD,isC,yac,yaa,iS,hl]
   refine ⟨⟨by omega,by omega⟩,hv,dO _ hq ?_⟩
   simp -implicitDefEqProofs only [rX,↓reduceIte,Nat.reduceAdd,aT,aV,leH,leB,leV,bB,aD,aB,wfB,wfV,wfL,bV,Rn]
end
end Go.Fx.P.K
namespace Go.Fx.P.K
open Go Go.Fx Go.Fx.E Go.Proofs
set_option maxRecDepth 20000
section
variable {N:Nat} {arcs:List Arc} {p:List Int} {to:Nat}
theorem agS (hV:Val N arcs) (hW:∀ x,XB arcs x→WOk N arcs x p) (hto:to<N) (x:List Int) (v:Nat) (most:Int) (hx:XB arcs x) (hv:v<N) (hm:0≤most∧most≤4611686018427387904) :
  OkN Tryz.prog 92 [.ptr 0 0 0,.i v,.i to,.i most] (wH N arcs x p) [] (IsQ (FQ arcs x (fun u=>p.getD u 0) to (yab N false) v most) (fun g=>.i g.1) (fun g=>wH N arcs g.2.1 p)):=by
 have hWx:=hW x hx
 have hN:=hWx.hN
 have hxl:=hx.hl
 have hfree:(yab N false).getD v false=false:=by rw [Bv (by simpa using hv)];simp
 have hcall:=Wj hV hW hto (N+1) x (yab N false) v most (by simp) hx (by simp) hv hfree hm
 unfold Sq at hcall
 generalize hQ:FQ arcs x (fun u=>p.getD u 0) to (yab N false) v most=Q at *
 refine eL pol [0,1,2,3] lw92 (by simp) ⟨trivial,trivial,trivial,trivial,trivial⟩ (by simp [wH];omega) ?_
 unfold c92 wH wB
 simp -implicitDefEqProofs only [rX,↓rY,aA,cells?,splice,↓reduceIte,Nat.reduceEqDiff,Nat.reduceAdd,reduceCtorEq,aC,isC,yaa,cxN,aK]
 refine ⟨⟨⟨by omega,by omega⟩,by omega,by omega⟩,?_⟩
 refine eH Q [0,1,2,3,4,5,6,7,8] [] [] [.i v,.i most,.ptr 5 0 0,.ptr 7 0 0,.ptr 4 0 0,.ptr 8 0 0] (fun g=>.i g.1) (h44 N arcs p to x (yab N false)) (fun g=>h44 N arcs p to g.2.1 g.2.2) hcall (by simp) (by simp) (by simp [h44,wB,blk,cA,cJ,ren,pos,cF,hxl,u9]) (by simp [aF,aJ,aW,bP,wkL,wk,pos]) fun g hg=>⟨by simp [aD,aB,h44,wB,bH,cA,bD],?_⟩
 obtain ⟨n,x2,d2⟩:=g
 have hx2:x2.length=arcs.length:=by
  rw [←hQ] at hg
  exact hg.fi.xb.hl
 simp -implicitDefEqProofs only [rX,↓reduceIte,Nat.reduceAdd,bU,bD,kill,bN,St.kill,h44,wB,bH,cA,cJ,ren,back,cF,fK]
 refine dO _ hg ?_
 simp -implicitDefEqProofs only [rX,↓reduceIte,Nat.reduceAdd,aT,aV,leH,leB,leV,bB,aD,aB,wfB,wfV,wfL,bV,hx2]
end
end Go.Fx.P.K
namespace Go.Fx.P.K
open Go Go.Fx Go.Fx.E Go.Proofs
set_option maxRecDepth 20000
section
variable {N:Nat} {arcs:List Arc} {p x:List Int}
theorem acN (hW:WOk N arcs x p) (hx:XB arcs x):OkN Tryz.prog 127 [.ptr 0 0 0] (wH N arcs x p) [] (IsA (.i (dU arcs x arcs.length)) (wH N arcs x p)):=by
 have hV:=hW.hV
 have hN:=hW.hN
 have hxl:=hW.hx
 have hal:=hV.hl
 refine eL pol [0,1,2,3] lw127 (by simp) ⟨trivial,trivial,trivial,trivial,trivial⟩ (by simp [wH];omega) ?_
 unfold c127 wH wB
 simp -implicitDefEqProofs only [rX,↓rY,aA,↓reduceIte,Nat.reduceAdd,reduceCtorEq,cxN,aK]
 intro hm
 have hf:∀ y∈x,0≤y∧y≤1073741824:=fun y hy=>by
  obtain ⟨i,hi,rfl⟩:=yai hy
  rw [←bX hi]
  exact hx.bd hV i
 have ha:∀ a∈arcs,0≤a.cost∧a.cost≤1048576:=fun a h=>(hV.ha a h).2.2.2.2
 refine aU (fun k:Nat=>(⟨[(12,.i k),(11,.i arcs.length),(10,.ro 4 (arcs.map Arc.enc)),(3,.i (dU arcs x k)),(0,.ptr 0 0 0)],[.var [.i N,.ro 4 (arcs.map Arc.enc),.sl 1 0 x.length,.sl 2 0 N,.sl 3 0 N],.arr 1 (x.map encI),.arv 1 (iD arcs N),.arr 1 (p.map encI)],0⟩:St)) (fun k=>k≤arcs.length) (fun k=>arcs.length-k) 0 (yak _) ?_ fun k hk=>?_
 ·simp -implicitDefEqProofs only [rX,↓reduceIte,Nat.reduceEqDiff,reduceCtorEq,leE,leH,leB,leV,bB,aD,aB,wfE,wfB,wfV,wfL,bV,dU,yal]
 ·rcases yam k arcs.length with h|h
  ·have hd:decide ((k:Int)<arcs.length)=true:=decide_eq_true (by omega)
   simp -implicitDefEqProofs only [rX,↓rY,aA,cells?,splice,↓reduceIte,Nat.reduceEqDiff,cR,Nat.reduceAdd,reduceCtorEq,aC,leE,leH,leB,leV,bB,aD,aB,wfE,wfB,wfV,wfL,yac,enc_len,eV,uP,fG,cP,yaa,hd]
   have hk2:k<x.length:=by omega
   have hfk:=hf x[k] (yad hk2)
   have hak:=ha arcs[k] (yad h)
   have hvb:=uE arcs x hf ha k
   have hst:=v7 h hk2
   have hmb:=Kx hfk hak
   rw [Int.mul_comm] at hst hmb
   refine ⟨⟨by omega,by omega⟩,h,⟨by omega,by omega⟩,hk2,by simp only [lo,hi];omega,by simp only [lo,hi];omega,by simp only [lo,hi];omega,k+1,⟨by omega,by omega⟩,?_⟩
   simp -implicitDefEqProofs only [rX,bV,hst]
   trivial
  ·have hd:decide ((k:Int)<arcs.length)=false:=decide_eq_false (by omega)
   have:k=arcs.length:=by omega
   subst this
   simp -implicitDefEqProofs only [rX,↓rY,↓reduceIte,Nat.reduceEqDiff,Nat.reduceAdd,aT,aV,leH,leB,leV,bB,aD,aB,wfB,wfV,wfL,hd,cO,bV]
end
end Go.Fx.P.K
namespace Go.Fx.P.K
open Go Go.Fx Go.Fx.E Go.Proofs
structure SI (N:Nat) (arcs:List Arc) (f t:Nat) (am:Int) (x p:List Int) (sent:Int):Prop where
 xb:XB arcs x
 val:∀ w:Nat,valTo arcs w x arcs.length=vd f sent w-vd t sent w
 nn:NN arcs x fun u=>p.getD u 0
 pl:p.length=N
 p0:p.getD f 0=0
 pb:∀ j,0≤p.getD j 0∧p.getD j 0≤p.getD t 0
 pt:p.getD t 0≤((N:Int)-1)*1048576
 s0:0≤sent∧sent≤am
def Reach (arcs:List Arc) (x p:List Int) (f t:Nat):Prop:=∀ S:Nat→Prop,S f→(∀ i,pZ arcs x i→dD arcs (fun u=>p.getD u 0) i=0→S (wsrc arcs i)→S (wdst arcs i))→S t
section
variable {N:Nat} {arcs:List Arc} {f t:Nat} {am sent:Int} {x p:List Int}
theorem SI.pmax (hN:1≤N∧N≤64) (h:SI N arcs f t am x p sent) (j:Nat):0≤p.getD j 0∧p.getD j 0≤1073741824:=by
 have h1:=h.pb j
 have h2:=h.pt
 have:((N:Int)-1)*1048576≤63*1048576:=yaG (by omega) (by omega)
 omega
theorem SI.wok (hV:Val N arcs) (hN:N≤64) (h:SI N arcs f t am x p sent) (y:List Int) (hy:XB arcs y):WOk N arcs y p :=
 ⟨hV,hN,hy.hl,h.pl,h.pmax ⟨hV.hn.1,hN⟩⟩
theorem Rt (hV:Val N arcs) {hs:f<N} {hn:NN arcs x fun u=>p.getD u 0}:∀ {v:Nat} {r:List Nat},Lb.PR (grD N arcs x (fun u=>p.getD u 0) f hV hs hn) v r→Lb.cs (grD N arcs x (fun u=>p.getD u 0) f hV hs hn) r+p.getD v 0≤(r.length:Int)*1048576+p.getD f 0
 | v,[],h=>by
  rw [show v=f from h]
  simp [Lb.cs]
 | v,i::r,h=>by
  have ih:=Rt hV h.2.2
  have hi:pZ arcs x i:=h.1
  have hd:wdst arcs i=v:=h.2.1
  have hc:=sR hV hi.1
  have e:Lb.cs (grD N arcs x (fun u=>p.getD u 0) f hV hs hn) (i::r)=dD arcs (fun u=>p.getD u 0) i+Lb.cs (grD N arcs x (fun u=>p.getD u 0) f hV hs hn) r:=rfl
  have ihs:Lb.cs (grD N arcs x (fun u=>p.getD u 0) f hV hs hn) r+p.getD (wsrc arcs i) 0≤(r.length:Int)*1048576+p.getD f 0:=ih
  rw [e]
  unfold dD
  rw [hd,yaD,yaE,yaF]
  simp only [Int.natCast_one,Int.one_mul]
  omega
theorem SI.price (hV:Val N arcs) (hf:f<N) (ht:t<N) (h:SI N arcs f t am x p sent) {D:List Int} (hD:Ai N (grD N arcs x (fun u=>p.getD u 0) f hV hf h.nn) D) (hN:N≤64) (hdt:D.getD t 0≠far) {p':List Int} (hl:p'.length=N) (hp:∀ k,k<N→p'.getD k 0=p.getD k 0+min (D.getD k 0) (D.getD t 0)) :
  SI N arcs f t am x p' sent∧Reach arcs x p' f t:=by
 have hb:∀ u,u<N→0≤D.getD u 0∧(D.getD u 0=far∨D.getD u 0≤KB):=fun u hu=>yI hN (fun j=>h.pmax ⟨hV.hn.1,hN⟩ j) hD.lab hu
 have hKB:KB<far:=by decide
 have hDf:D.getD f 0=0:=hD.lab.h0
 have hbt:=hb t ht
 have hcl:∀ i,pZ arcs x i→D.getD (wsrc arcs i) 0<far→D.getD (wdst arcs i) 0≤D.getD (wsrc arcs i) 0+dD arcs (fun u=>p.getD u 0) i:=fun i hi hlt=>hD.cl i hi hlt
 have hr':∀ i,pZ arcs x i→dD arcs (fun u=>p'.getD u 0) i=dD arcs (fun u=>p.getD u 0) i+min (D.getD (wsrc arcs i) 0) (D.getD t 0)-min (D.getD (wdst arcs i) 0) (D.getD t 0):=by
  intro i hi
  obtain ⟨w1,w2,_⟩:=vY hV hi.1
  unfold dD
  simp only
  rw [hp _ w1,hp _ w2]
  omega
 have hout:∀ j,¬j<N→p'.getD j 0=0∧p.getD j 0=0:=by
  intro j hj
  have h1:=h.pl
  rw [yaf,yaf,yat (by omega),yat (by omega)]
  exact ⟨rfl,rfl⟩
 obtain ⟨r,hW⟩:∃ r,Lb.Wp (grD N arcs x (fun u=>p.getD u 0) f hV hf h.nn) (fun u=>D.getD u 0) t r:=by
  rcases hD.lab.hw t ht with he|⟨_,h⟩
  ·exact absurd he hdt
  ·exact h
 have hpt':=hp t ht
 rw [Int.min_self] at hpt'
 refine ⟨⟨h.xb,h.val,fun i hi=>?_,hl,?_,fun j=>?_,?_,h.s0⟩,?_⟩
 ·rw [hr' i hi]
  have h1:=h.nn i hi
  have hm1:=yax (D.getD (wdst arcs i) 0) (D.getD t 0)
  have hm2:=yaN (D.getD (wdst arcs i) 0) (D.getD t 0)
  rcases Int.le_total (D.getD t 0) (D.getD (wsrc arcs i) 0) with h2|h2
  ·rw [Int.min_eq_right h2];omega
  ·rw [yaI h2]
   have:=hcl i hi (by rcases hbt.2 with e|e<;>omega)
   omega
 ·rw [hp f hf,h.p0,hDf,yaI hbt.1];rfl
 ·by_cases hj:j<N
  ·rw [hp j hj,hpt']
   have h1:=h.pb j
   have h2:=hb j hj
   have hm1:=yax (D.getD j 0) (D.getD t 0)
   have hm2:0≤min (D.getD j 0) (D.getD t 0):=Int.le_min.2 ⟨h2.1,hbt.1⟩
   omega
  ·rw [(hout j hj).1,hpt']
   have:=h.pb t
   omega
 ·rw [hpt']
  have h1:=Rt hV hW.pr
  have h2:=hW.len
  rw [hW.co,h.p0] at h1
  have h3:r.length<N:=h2
  have h4:(r.length:Int)*1048576≤((N:Int)-1)*1048576:=yaG (by omega) (by omega)
  have h1':D.getD t 0+p.getD t 0≤(r.length:Int)*1048576+0:=h1
  omega
 ·intro S hS hstep
  have hCl:Lb.Cl (grD N arcs x (fun u=>p.getD u 0) f hV hf h.nn) far (fun u=>D.getD u 0):=fun i hi hlt=>hcl i hi hlt
  have hfin:∀ i,(grD N arcs x (fun u=>p.getD u 0) f hV hf h.nn).res i→D.getD (wsrc arcs i) 0<far→D.getD (wdst arcs i) 0<far:=by
   intro i hi hlt
   have hi':pZ arcs x i:=hi
   obtain ⟨w1,w2,_⟩:=vY hV hi'.1
   have h1:=hcl i hi' hlt
   have h2:=hb _ w1
   have h3:=sR hV hi'.1
   have h4:=h.pmax ⟨hV.hn.1,hN⟩ (wsrc arcs i)
   have h5:=h.pmax ⟨hV.hn.1,hN⟩ (wdst arcs i)
   unfold dD at h1
   simp only at h1
   have:KB+1048576+1073741824<far:=by decide
   rcases h2.2 with e|e<;>omega
  have hti:=Lb.Eq hDf (by decide:(0:Int)<far) hCl hfin hW.pr hW.co
  have key:∀ (v:Nat) (r:List Nat),Lb.PR (grD N arcs x (fun u=>p.getD u 0) f hV hf h.nn) v r→Lb.Tight (grD N arcs x (fun u=>p.getD u 0) f hV hf h.nn) (fun u=>D.getD u 0) v r→D.getD v 0≤D.getD t 0→S v:=by
   intro v r
   induction r generalizing v with
   | nil=>intro h1 _ _;rw [show v=f from h1];exact hS
   | cons i r ih =>
    intro h1 h2 h3
    have hi:pZ arcs x i:=h1.1
    have hd:wdst arcs i=v:=h1.2.1
    have ht1:D.getD (wdst arcs i) 0=D.getD (wsrc arcs i) 0+dD arcs (fun u=>p.getD u 0) i:=h2.1
    have h0:=h.nn i hi
    rw [←hd] at h3 ⊢
    refine hstep i hi ?_ (ih (wsrc arcs i) h1.2.2 h2.2 (by omega))
    rw [hr' i hi,yaI h3,yaI (by omega)]
    omega
  exact key t r hW.pr hti (yae _)
theorem SI.fill (h:SI N arcs f t am x p sent) (hf:f<N) {n:Int} {x':List Int} {d':List Bool} (hq:FQ arcs x (fun u=>p.getD u 0) t (yab N false) f (am-sent) (n,x',d')) :
  SI N arcs f t am x' p (sent+n)∧0≤n∧(Reach arcs x p f t→sent<am→0<n):=by
 have hfi:=hq.fi
 have hn:=hq.n0
 simp only at hfi hn
 have hs:=h.s0
 refine ⟨⟨hfi.xb,fun w=>?_,fun i hi=>?_,h.pl,h.p0,h.pb,h.pt,by omega⟩,hn.1,fun hR hlt=>?_⟩
 ·rw [hfi.val,h.val,Co,Co];omega
 ·by_cases e:x'.getD (i/2) 0=x.getD (i/2) 0
  ·refine h.nn i ⟨hi.1,?_⟩
   have:=hi.2
   unfold wrm at this ⊢
   rw [e] at this
   exact this
  ·have h0:=hfi.tig (i/2) hi.1 e
   by_cases e2:i%2=0
   ·rw [show 2*(i/2)=i by omega] at h0
    omega
   ·have h1:=Pk (arcs:=arcs) (p:=fun u=>p.getD u 0) (k:=i/2)
    rw [show 2*(i/2)+1=i by omega] at h1
    omega
 ·apply Classical.byContradiction
  intro hz
  have h0:n=0:=by omega
  obtain ⟨z1,z2,z3⟩:=hq.zero h0 (by omega)
  simp only at z1 z2 z3
  have hfr:∀ u,(yab N false).getD u false=false:=by
   intro u
   rw [yaf,yaM]
   split<;>rfl
  have:d'.getD t false=true:=hR (fun u=>d'.getD u false=true) z2 fun i hi hc hu=>(z3 _ hu (hfr _)).2 i hi rfl hc
  exact (z3 t this (hfr t)).1 rfl
def e9 (D:List Int):Nat→List Int
 | 0=>[]
 | k+1=>if D.getD k 0<far then e9 D k++[(k:Int)] else e9 D k
theorem oI {D:List Int} {v:Int}:∀ {k:Nat},v∈e9 D k↔(0≤v∧v<k)∧D.getD v.toNat 0<far
 | 0=>by
  simp only [e9,List.not_mem_nil,false_iff]
  omega
 | k+1=>by
  have ih:=oI (D:=D) (v:=v) (k:=k)
  unfold e9
  by_cases e:v=k
  ·subst e
   rw [yaa] at ih ⊢
   split
   ·rename_i h
    rw [yaJ,yas]
    exact ⟨fun _=>⟨by omega,h⟩,fun _=>.inr rfl⟩
   ·rename_i h
    rw [ih]
    exact ⟨fun h2=>absurd h2.2 h,fun h2=>absurd h2.2 h⟩
  ·split
   ·rw [yaJ,ih,yas]
    constructor
    ·rintro (h1|h1)
     ·exact ⟨⟨h1.1.1,by omega⟩,h1.2⟩
     ·exact absurd h1 e
    ·intro h1
     exact .inl ⟨⟨h1.1.1,by omega⟩,h1.2⟩
   ·rw [ih]
    constructor
    ·intro h1
     exact ⟨⟨h1.1.1,by omega⟩,h1.2⟩
    ·intro h1
     exact ⟨⟨h1.1.1,by omega⟩,h1.2⟩
theorem Gp {D:List Int}:∀ {k:Nat},(e9 D k).length≤k
 | 0=>by simp [e9]
 | k+1=>by
  have:=Gp (D:=D) (k:=k)
  unfold e9
  split<;>simp<;>omega
theorem Ll {D:List Int} {n:Int}:∀ {k:Nat},(k:Int)≤n→OkS n (e9 D k) (e9 D k).length
 | 0,_=>⟨fun j h=>by simp [e9] at h⟩
 | k+1,hk=>by
  have ih:=Ll (D:=D) (n:=n) (k:=k) (by omega)
  have hm:=fun v=>oI (D:=D) (v:=v) (k:=k)
  unfold e9
  split
  ·refine ⟨fun j hj _=>?_⟩
   rw [yaq,yaP] at hj
   by_cases e:j<(e9 D k).length
   ·rw [yaQ e]
    have:=ih.h j e e
    refine ⟨this.1,fun h0=>?_⟩
    have h2:=this.2 h0
    rw [bX (by omega)] at h2
    rw [bX (by rw [yaq,yaP];omega),yaQ (by omega)]
    exact h2
   ·have ej:j=(e9 D k).length:=by omega
    subst ej
    rw [List.getElem_append_right (yan _)]
    simp only [Nat.sub_self,List.getElem_singleton]
    refine ⟨by omega,fun h0=>?_⟩
    rw [bX (by rw [yaq,yaP];omega),yaQ (by omega)]
    have:=((hm _).1 (yad (l:=e9 D k) (n:=(e9 D k).length-1) (by omega))).1
    omega
  ·exact ih
theorem SI.okF (hf:f<N) (ht:t<N) (h:SI N arcs f t am x p sent):OkF N arcs f t x:=by
 refine ⟨h.xb.hl,fun i h1 h2=>?_,fun j h1 h2 h3 h4=>?_⟩
 ·have:=h.xb.hb i h2
  rw [gA_at h2,bX h1] at this
  exact this
 ·have:=h.val j.toNat
  rw [yap h1] at this
  rw [this]
  unfold vd
  rw [if_neg (by omega),if_neg (by omega)];rfl
theorem SI.okP (hV:Val N arcs) (hN:N≤64) (h:SI N arcs f t am x p sent):OkP N arcs f x p:=by
 have hs:=Px.1 h.nn
 refine ⟨h.pl,by rw [yaa];exact h.p0,fun j hj=>?_,fun k hk=>?_⟩
 ·rw [←bX hj];exact h.pmax ⟨hV.hn.1,hN⟩ j
 ·have:=hs k hk
  rw [gA_at hk] at this
  exact this
theorem SI.okv (hft:f≠t) (h:SI N arcs f t am x p sent):valTo arcs f x arcs.length=sent:=by
 rw [h.val]
 unfold vd
 rw [if_pos rfl,if_neg hft];omega
theorem SI.all (hV:Val N arcs) (hN:N≤64) (hf:f<N) (ht:t<N) (hft:f≠t) (h:SI N arcs f t am x p sent) (he:sent=am):OkAc N arcs f t am ⟨sent,dU arcs x arcs.length,x,p,[]⟩ :=
 ⟨h.okF hf ht,h.s0,h.okv hft,rfl,h.okP hV hN,by simp only;rw [if_pos he];trivial⟩
theorem SI.cut (hV:Val N arcs) (hN:N≤64) (hf:f<N) (ht:t<N) (hft:f≠t) (h:SI N arcs f t am x p sent) (he:sent<am) {D:List Int} (hD:Ai N (grD N arcs x (fun u=>p.getD u 0) f hV hf h.nn) D) (hdt:D.getD t 0=far):OkAc N arcs f t am ⟨sent,dU arcs x arcs.length,x,p,e9 D N⟩:=by
 have hKB:KB<far:=by decide
 have hb:∀ u,u<N→0≤D.getD u 0∧(D.getD u 0=far∨D.getD u 0≤KB):=fun u hu=>yI hN (fun j=>h.pmax ⟨hV.hn.1,hN⟩ j) hD.lab hu
 have hDf:D.getD f 0=0:=hD.lab.h0
 have hcl:∀ i,pZ arcs x i→D.getD (wsrc arcs i) 0<far→D.getD (wdst arcs i) 0<far:=by
  intro i hi hlt
  obtain ⟨w1,w2,_⟩:=vY hV hi.1
  have h1:D.getD (wdst arcs i) 0≤D.getD (wsrc arcs i) 0+dD arcs (fun u=>p.getD u 0) i:=hD.cl i hi hlt
  have h2:=hb _ w1
  have h3:=sR hV hi.1
  have h4:=h.pmax ⟨hV.hn.1,hN⟩ (wsrc arcs i)
  have h5:=h.pmax ⟨hV.hn.1,hN⟩ (wdst arcs i)
  unfold dD at h1
  simp only at h1
  have:KB+1048576+1073741824<far:=by decide
  rcases h2.2 with e|e<;>omega
 have hh:∀ v:Int,hasB (e9 D N) v=true↔((0≤v∧v<N)∧D.getD v.toNat 0<far):=by
  intro v
  unfold hasB
  rw [decide_eq_true_eq,oI]
 have hfalse:∀ v:Int,0≤v∧v<N→hasB (e9 D N) v=false→¬D.getD v.toNat 0<far:=by
  intro v hv h1 h2
  rw [(hh v).2 ⟨hv,h2⟩] at h1
  cases h1
 refine ⟨h.okF hf ht,h.s0,h.okv hft,rfl,h.okP hV hN,?_⟩
 simp only
 rw [if_neg (by omega)]
 refine ⟨Ll (yae _),(hh _).2 ⟨by omega,by rw [yaa,hDf];decide⟩,?_,⟨fun j hj _=>?_⟩⟩
 ·rw [←Bool.not_eq_true,hh,yaa,hdt]
  exact fun h1=>absurd h1.2 (yaH _)
 ·have hva:=hV.at hj
  have hxb:=h.xb.hb j hj
  rw [gA_at hj] at hva hxb
  refine ⟨fun h1 h2=>?_,fun h1 h2=>?_⟩
  ·have h3:=((hh _).1 h1).2
   have h4:=hfalse _ hva.2.1 h2
   apply Classical.byContradiction
   intro h5
   have:=hcl (2*j) ⟨by omega,by
    unfold wrm
    rw [if_pos (by omega),show 2*j/2=j by omega,gA_at hj];omega⟩
   unfold wsrc wdst at this
   rw [if_pos (by omega),if_pos (by omega),show 2*j/2=j by omega,gA_at hj] at this
   exact h4 (this h3)
  ·have h3:=((hh _).1 h1).2
   have h4:=hfalse _ hva.1 h2
   apply Classical.byContradiction
   intro h5
   have:=hcl (2*j+1) ⟨by omega,by
    unfold wrm
    rw [if_neg (by omega),show (2*j+1)/2=j by omega];omega⟩
   unfold wsrc wdst at this
   rw [if_neg (by omega),if_neg (by omega),show (2*j+1)/2=j by omega,gA_at hj] at this
   exact h4 (this h3)
end
end Go.Fx.P.K
namespace Go.Fx.P.K
open Go Go.Fx Go.Fx.E Go.Proofs
set_option maxRecDepth 20000
section
variable {N:Nat} {arcs:List Arc} {p x:List Int}
abbrev uL (N:Nat) (arcs:List Arc) (x p D:List Int) (sent tot:Int) (k:Nat):St :=
 ⟨[(24,.i k),(23,.i D.length),(22,.bro 1 (D.map encI)),(7,.ptr 5 0 0),(6,.ptr 4 0 0)],[wB N x.length arcs 1 2 3,.arr 1 (x.map encI),.arv 1 (iD arcs N),.arr 1 (p.map encI),.var [.i 0,.i 0,.nil,.nil,.nil],.var [.i sent,.i tot,.sl 1 0 x.length,.sl 3 0 N,.sl 6 0 (e9 D k).length],.arr 1 ((e9 D k).map encI)],0⟩
theorem aaD (D:List Int) (hD:D.length≤64) (sent tot:Int) {RR:St→Prop} {X:Nat→St→Prop}
  (hX:∀ e b,get e 7=.ptr 5 0 0→get e 6=.ptr 4 0 0→X 0 ⟨e,(uL N arcs x p D sent tot D.length).h,b⟩) (k:Nat) (hk:k≤D.length) :
  aw (cxN Tryz.prog [0,1,2,3]) c91l0 (fun s'=>∃ k':Nat,(k'≤D.length∧D.length-k'<D.length-k)∧leS [0,1,2,3] s' (uL N arcs x p D sent tot k')) X RR (uL N arcs x p D sent tot k):=by
 have hcl:=Gp (D:=D) (k:=k)
 unfold c91l0 uL wB
 rcases yam k D.length with h|h
 ·have hd:decide ((k:Int)<D.length)=true:=decide_eq_true (by omega)
  simp -implicitDefEqProofs only [rX,↓rY,aA,cells?,splice,↓reduceIte,Nat.reduceEqDiff,Nat.reduceAdd,reduceCtorEq,aC,cI,leE,leH,leB,leV,bB,aD,aB,wfE,wfB,wfV,wfL,bU,bD,kill,bN,St.kill,isD,isC,Nat.reduceLT,yac,cP,yaa,cxN,hd,fK]
  have hDk:D.getD k 0=D[k]:=bX h
  simp only [br,decide_eq_true_eq,decide_eq_false_iff_not]
  refine ⟨⟨by omega,by omega⟩,h,⟨fun hf=>?_,fun hf=>?_⟩⟩
  ·have hcs:e9 D (k+1)=e9 D k++[(k:Int)]:=by
    show (if D.getD k 0<far then _ else _)=_
    rw [if_pos (by rw [hDk];exact hf)]
   refine ⟨by omega,by simp only [lo,hi];omega,k+1,⟨by omega,by omega⟩,by simp,?_⟩
   rw [hcs]
   refine ⟨⟨by simp,?_⟩,vK⟩
   rw [yaK,yao (by simp)]
   rfl
  ·have hcs:e9 D (k+1)=e9 D k:=by
    show (if D.getD k 0<far then _ else _)=_
    rw [if_neg (by rw [hDk];exact hf)]
   refine ⟨by simp only [lo,hi];omega,k+1,⟨by omega,by omega⟩,?_⟩
   rw [hcs]
   simp -implicitDefEqProofs only [rX,bV]
   trivial
 ·have hd:decide ((k:Int)<D.length)=false:=decide_eq_false (by omega)
  have:k=D.length:=by omega
  subst this
  have:=hX
  unfold uL wB at this
  simp -implicitDefEqProofs only [rX,↓rY,↓reduceIte,Nat.reduceEqDiff,Nat.reduceAdd,cxN,hd]
  exact this _ _ rfl rfl
theorem abV (hW:WOk N arcs x p) (hx:XB arcs x) (sent:Int) (D:List Int) (hD:D.length≤N):OkN Tryz.prog 91 [.ptr 0 0 0,.i sent,.bro 1 (D.map encI)] (wH N arcs x p) [] (IsA (.agg [.i sent,.i (dU arcs x arcs.length),.sl 1 0 x.length,.sl 3 0 N,.sl 6 0 (e9 D D.length).length]) (wH N arcs x p++[.dead,.dead,.arr 1 ((e9 D D.length).map encI)])):=by
 have hV:=hW.hV
 have hN:=hW.hN
 have hxl:=hW.hx
 have hal:=hV.hl
 have hcall:=acN hW hx
 generalize hT:dU arcs x arcs.length=tot at *
 refine eL pol [0,1,2,3] lw91 (by simp) ⟨trivial,trivial,trivial,trivial,trivial⟩ (by simp [wH];omega) ?_
 unfold c91 wH wB
 simp -implicitDefEqProofs only [rX,↓rY,aA,cells?,↓reduceIte,Nat.reduceEqDiff,Nat.reduceAdd,reduceCtorEq,aC,cxN,aK]
 repeat' refine And.intro ?_ ?_
 all_goals
  refine cX [0,1,2,3] [.ptr 0 0 0] (.i tot) (.i tot) (wH N arcs x p) (wH N arcs x p) _ hcall (by simp) (by simp [wH,wB,blk,cA,cJ,ren,pos,cF]) (by simp [aF,aJ,aW,bP,wkL,wk,pos]) (by simp [wH]) rfl rfl (by simp [aD,aB,wH,wB,bH,cA]) ?_
  simp -implicitDefEqProofs only [rX,↓rY,rdK,aA,cells?,splice,↓reduceIte,Nat.reduceEqDiff,Nat.reduceAdd,reduceCtorEq,aC,bQ,isC,Nat.reduceLeDiff,wH,wB,bH,cA,cJ,ren,cF,back]
  intro _
  refine fL (.virt 1 1 (by decide) (.nilB 5 [.i sent,.i tot,.sl 1 0 x.length,.sl 3 0 N,.nil] [.i sent,.i tot,.sl 1 0 x.length,.sl 3 0 N,.sl 6 0 0] rfl ⟨rfl,fun i a b h1 h2=>?_⟩ (.refl _))) (uL N arcs x p D sent tot) (fun k=>k≤D.length) (fun k=>D.length-k) 0 (yak _) ?_ (aaD D (by omega) sent tot fun e b he1 he2=>?_)
  ·match i with
   | 0=>simp at h1 h2;subst h1 h2;exact .inl rfl
   | 1=>simp at h1 h2;subst h1 h2;exact .inl rfl
   | 2=>simp at h1 h2;subst h1 h2;exact .inl rfl
   | 3=>simp at h1 h2;subst h1 h2;exact .inl rfl
   | 4=>simp at h1 h2;subst h1 h2;exact .inr ⟨rfl,_,rfl⟩
   | i+5=>simp at h1
  ·unfold uL wB
   simp -implicitDefEqProofs only [rX,↓reduceIte,Nat.reduceEqDiff,leE,leH,leB,leV,bB,aD,aB,wfE,wfB,wfV,wfL,bV,e9,yal]
  ·unfold uL wB
   simp -implicitDefEqProofs only [rX,↓rY,cells?,splice,↓reduceIte,Nat.reduceEqDiff,Nat.reduceAdd,aT,aV,leH,leB,leV,bB,aD,aB,wfB,wfV,wfL,isC,Nat.reduceLeDiff,he1,he2,cO,bV]
end
end Go.Fx.P.K
namespace Go.Fx.P.K
open Go Go.Fx Go.Fx.E Go.Proofs
set_option maxRecDepth 20000
def sJ (x:Int):Bool:=decide (x<0∨1073741824<x)
theorem acL (x:Int):Ok 130 [.i x] (Is (.b (sJ x))):=by
 refine ok_of lw130 (by simp) ?_
 unfold c130
 simp -implicitDefEqProofs only [rX,↓rY,aA,↓reduceIte,Nat.reduceEqDiff,reduceCtorEq,aT,aV,wfV,cxN,aK]
 simp only [br,decide_eq_true_eq,decide_eq_false_iff_not,sJ]
 grind
def Dv (l:List Int):Int:=if l.any sJ then (l.findIdx sJ:Nat) else -1
structure GInv (l:List Int) (k:Nat):Prop where
 h:∀ j (h:j<l.length),j<k→sJ l[j]=false
theorem acH (l:List Int):Ok 147 [li l,.clo 130 []] (Is (.i (Dv l))):=by
 refine ok_of lw147 (by simp) ?_
 unfold c147 li
 simp -implicitDefEqProofs only [rX,↓rY,aA,↓reduceIte,reduceCtorEq,cxN,aK]
 intro hm
 refine aU (fun k:Nat=>⟨[(8,.i k),(7,.i l.length),(1,.clo 130 []),(0,.ro 1 (l.map encI))],[],0⟩) (fun k=>k≤l.length∧GInv l k) (fun k=>l.length-k) 0 ⟨by omega,⟨by simp⟩⟩ ?_ ?_
 ·simp -implicitDefEqProofs only [rX,↓reduceIte,Nat.reduceEqDiff,reduceCtorEq,leE,leH,aD,wfE,wfB,wfV,wfL,yal]
 rintro k ⟨hk,hv⟩
 unfold c147l0
 simp -implicitDefEqProofs only [rX,↓rY,aA,↓reduceIte,Nat.reduceEqDiff,reduceCtorEq,aT,aV,wfV,yac,cP,yaa]
 simp only [br,yaa,decide_eq_true_eq,decide_eq_false_iff_not]
 refine ⟨fun h=>⟨⟨by omega,h⟩,by omega,?_⟩,fun h=>?_⟩
 ·have hk:k<l.length:=by omega
  refine aE (acL l[k]) ?_ rfl trivial ?_
  ·simp [aF,aJ,aW,bP,wkL,wk,pos]
  cases hb:sJ l[k] with
  | true =>
   simp -implicitDefEqProofs only [rX,↓rY,↓reduceIte,Nat.reduceEqDiff,aT,aV,wfV]
   have h1:l.any sJ=true:=by
    rw [List.any_eq_true];exact ⟨_,yad hk,hb⟩
   have h2:l.findIdx sJ=k:=by
    rw [List.findIdx_eq hk]
    exact ⟨hb,fun j hj=>hv.h j (by omega) hj⟩
   simp [Dv,h1,h2]
  | false =>
   simp -implicitDefEqProofs only [rX,↓rY,aA,↓reduceIte,Nat.reduceEqDiff,reduceCtorEq,leE,leH,aD,wfE,wfB,wfV,wfL]
   refine ⟨by simp only [lo,hi,maxLen] at *;omega,k+1,⟨⟨by omega,⟨fun j hj h2=>?_⟩⟩,by omega⟩,by simp⟩
   by_cases h3:j=k
   ·subst h3;exact hb
   ·exact hv.h j hj (by omega)
 ·have h1:l.any sJ=false:=by
   rw [List.any_eq_false]
   intro x hx
   obtain ⟨j,hj,rfl⟩:=yai hx
   simp [hv.h j hj (by omega)]
  simp [Dv,h1]
theorem acM (l:List Int):Ok 129 [li l,.clo 130 []] (Is (.b (l.any sJ))):=by
 refine ok_of lw129 (by simp) ?_
 unfold c129 li
 simp -implicitDefEqProofs only [rX,aA,↓reduceIte,Nat.reduceEqDiff,reduceCtorEq,cxN,aK]
 refine aE (acH l) ?_ rfl trivial ?_
 ·simp [li,aF,aJ,aW,bP,wkL,wk,wkR]
 simp -implicitDefEqProofs only [rX,↓rY,aA,↓reduceIte,aT,aV,wfV,Dv]
 by_cases h:l.any sJ=true
 ·simp [h]
 ·simp only [h,if_false];simp
theorem agQ (N:Nat) (arcs:List Arc) (f:Int) (fr:Fr) (hV:Val N arcs) (hf:0≤f∧f<N) (hl:fr.flow.length=arcs.length):Ok 94 [net N arcs,.i f,fr.enc] (Is (.b (prB N arcs f fr.flow fr.price))):=by
 refine ok_of lw94 (by simp) ?_
 unfold c94 net Fr.enc li
 simp -implicitDefEqProofs only [rX,↓rY,aA,cells?,↓reduceIte,Nat.reduceEqDiff,Nat.reduceAdd,reduceCtorEq,aC,aT,aV,wfV,yac,cP,cxN,aK]
 simp only [br,decide_eq_true_eq,decide_eq_false_iff_not,bne_iff_ne,bne_eq_false_iff_eq]
 have hL:=hV.hl
 have hN:=hV.hn
 refine fun hm1=>⟨fun h=>Fh fun hO=>?_,fun h=>?_⟩
 ·have:=hO.hl;omega
 have hpl:fr.price.length=N:=by omega
 refine ⟨⟨hf.1,by omega⟩,by omega,fun h0=>Fh fun hO=>?_,fun h0=>?_⟩
 ·have:=hO.h0
  rw [getD_at (by omega)] at this
  exact h0 this
 refine aE (acM fr.price) (by simp [li,aF,aJ,aW,bP,wkL,wk,wkR]) rfl trivial ?_
 cases hb:fr.price.any sJ with
 | true =>
  simp -implicitDefEqProofs only [rX,↓rY,aA,↓reduceIte,Nat.reduceEqDiff,Nat.reduceAdd,aT,aV,wfV]
  refine Fh fun hO=>?_
  rw [List.any_eq_true] at hb
  obtain ⟨x,hx,hb⟩:=hb
  obtain ⟨j,hj,rfl⟩:=yai hx
  have:=hO.hb j hj
  simp only [sJ,decide_eq_true_eq] at hb
  omega
 | false =>
 have hb:∀ j (h:j<fr.price.length),0≤fr.price[j]∧fr.price[j]≤1073741824:=by
  intro j hj
  rw [List.any_eq_false] at hb
  have:=hb _ (yad hj)
  simp only [sJ,decide_eq_true_eq] at this
  omega
 simp -implicitDefEqProofs only [rX,↓rY,aA,↓reduceIte,Nat.reduceEqDiff,Nat.reduceAdd]
 refine fun _=>aU (fun k:Nat=>⟨[(32,.i k),(31,.i arcs.length),(30,.ro 4 (arcs.map Arc.enc)),(5,.ptr 1 0 0),(3,.ptr 0 0 0),(1,.i f)],[.var [.i N,.ro 4 (arcs.map Arc.enc)],frB fr],0⟩) (fun k=>k≤arcs.length∧RInv arcs fr.flow fr.price k) (fun k=>arcs.length-k) 0 ⟨by omega,⟨by simp⟩⟩ ?_ ?_
 ·simp -implicitDefEqProofs only [rX,↓reduceIte,Nat.reduceEqDiff,reduceCtorEq,leE,leH,leB,leV,bB,aD,aB,wfE,wfB,wfV,wfL,bB,leV,yal,frB]
 rintro k ⟨hk,hv⟩
 simp -implicitDefEqProofs only [rX,↓rY,aA,cells?,splice,↓reduceIte,Nat.reduceEqDiff,Nat.reduceAdd,aC,aT,aV,leE,leH,leB,leV,bB,aD,aB,wfE,wfB,wfV,wfL,yac,enc_len,eV,oG,oF,sB,uP,fG,cP,yaa,frB]
 simp only [br,decide_eq_true_eq,decide_eq_false_iff_not]
 refine ⟨fun h2=>?_,fun h2=>?_⟩
 ·have hk1:k<arcs.length:=by omega
  have hk2:k<fr.flow.length:=by omega
  have hva:=hV.ha arcs[k] (yad hk1)
  have b1:=hb arcs[k].from_.toNat (by omega)
  have b2:=hb arcs[k].to.toNat (by omega)
  have bad:¬(_∧_)→false=prB N arcs f fr.flow fr.price:=fun h=>Fh fun hO=>h (hO.ha k hk1)
  have good:=hv.next hk1
  rw [getD_at (by omega),getD_at (by omega),bX hk2] at bad good
  simp only [lo,hi,maxLen] at *
  repeat' (first|(refine ⟨(k+1:_),?_⟩)|(refine ⟨by omega,?_⟩)|(refine And.intro ?_ ?_)|(refine (fun _=>?_)))
  all_goals first|omega|(apply bad;omega)|(apply good;omega)
 ·refine Wg ⟨hpl,?_,hb,fun j hj=>hv.h j hj (by omega)⟩
  rw [getD_at (by omega)];exact h0
end Go.Fx.P.K
namespace Go.Fx.P.K
open Go Go.Fx Go.Fx.E Go.Proofs
set_option maxRecDepth 20000
theorem My {l:List Int} {k:Nat} (h:k<l.length) (x:Int):hasB (l.take (k+1)) x=if x=l[k] then true else hasB (l.take k) x:=by
 simp only [hasB,List.take_succ_eq_append_getElem h,yaJ,yas]
 by_cases hx:x=l[k]
 ·simp only [hx,or_true,if_true,decide_true]
 ·simp only [hx,or_false,if_false]
theorem agP (N:Nat) (arcs:List Arc) (f t:Int) (fr:Fr) (hV:Val N arcs) (hf:0≤f∧f<N) (ht:0≤t∧t<N) (hl:fr.flow.length=arcs.length):Ok 95 [net N arcs,.i f,.i t,fr.enc] (Is (.b (cuB N arcs f t fr.flow fr.cut))):=by
 refine ok_of lw95 (by simp) ?_
 unfold c95 net Fr.enc li
 simp -implicitDefEqProofs only [rX,↓rY,aA,cells?,↓reduceIte,Nat.reduceEqDiff,Nat.reduceAdd,reduceCtorEq,aC,yaa,cxN,aK]
 have hL:=hV.hl
 have hN:=hV.hn
 refine ⟨by omega,fun hm=>?_⟩
 refine aU (fun k:Nat=>⟨[(20,.i k),(19,.i fr.cut.length),(18,.ro 1 (fr.cut.map encI)),(9,.sl 2 0 N),(7,.ptr 1 0 0),(4,.ptr 0 0 0),(2,.i t),(1,.i f)],[.var [.i N,.ro 4 (arcs.map Arc.enc)],frB fr,.arr 1 (nV N (fun j=>hasB (fr.cut.take k) j))],0⟩) (fun k=>k≤fr.cut.length∧OkS N fr.cut k) (fun k=>fr.cut.length-k) 0 ⟨by omega,⟨by simp⟩⟩ ?_ ?_
 ·have h0:nV N (fun j=>hasB [] j)=yab N [V.b false]:=by rw [Pc];rfl
  simp -implicitDefEqProofs only [rX,↓reduceIte,Nat.reduceEqDiff,reduceCtorEq,leE,leH,leB,leV,bB,aD,aB,wfE,wfB,wfV,wfL,bB,leV,yal,frB,h0]
 rintro k ⟨hk,hv⟩
 simp -implicitDefEqProofs only [rX,↓rY,aA,cells?,splice,↓reduceIte,Nat.reduceEqDiff,cR,Nat.reduceAdd,aT,aV,leE,leH,leB,leV,bB,aD,aB,wfE,wfB,wfV,wfL,isD,isC,yac,cP,tT,yaa,iS,frB,Ev,xG,Pb]
 simp only [br,decide_eq_true_eq,decide_eq_false_iff_not]
 refine ⟨fun h2=>?_,fun h2=>?_⟩
 ·have hk1:k<fr.cut.length:=by omega
  have good:=hv.next hk1
  have bad:¬((0≤fr.cut[k]∧fr.cut[k]<N)∧(0<k→fr.cut.getD (k-1) 0<fr.cut[k]))→false=cuB N arcs f t fr.flow fr.cut:=fun h=>Gq fun hO=>h (hO.hs.h k hk1 hk1)
  have hp:0<k→fr.cut.getD (k-1) 0=fr.cut[((k:Int)-1).toNat]'(by omega):=by
   intro h0
   have e1:((k:Int)-1).toNat=k-1:=by omega
   simp only [e1]
   exact bX (by omega)
  have hrow:∀ i:Nat,i<N→(if (i:Int)=(fr.cut[k].toNat:Nat) then true else hasB (fr.cut.take k) i)=hasB (fr.cut.take (k+1)) i∨¬(0≤fr.cut[k]):=by
   intro i hi
   rw [My hk1]
   by_cases h0:0≤fr.cut[k]
   ·left;rw [yap h0]
   ·right;exact h0
  simp only [br,decide_eq_true_eq,decide_eq_false_iff_not,lo,hi,maxLen] at *
  repeat' (first|(refine ⟨(k+1:_),?_⟩)|(refine ⟨by omega,?_⟩)|(refine And.intro ?_ ?_)|(refine (fun _=>?_)))
  all_goals first|omega|(apply bad;rintro ⟨_,h4⟩;have h4:=h4 (by omega);rw [hp (by omega)] at h4;omega)|(apply bad;omega)|(apply good;refine ⟨by omega,fun h0=>?_⟩;rw [hp h0];omega)|(apply good;refine ⟨by omega,fun h0=>?_⟩;omega)|(congr 1;apply Ib;intro i hi;exact (hrow i hi).resolve_right (by omega))
 have hs:OkS N fr.cut fr.cut.length:=⟨fun j h _=>hv.h j h (by omega)⟩
 have hk0:fr.cut.take k=fr.cut:=yao (by omega)
 rw [hk0]
 have e1:((f.toNat:Nat):Int)=f:=yap hf.1
 have e2:((t.toNat:Nat):Int)=t:=yap ht.1
 simp only [e1,e2]
 refine ⟨hf,by omega,fun h3=>Gq fun hO=>?_,fun h3=>⟨ht,by omega,fun h4=>Gq fun hO=>?_,fun h4=>?_⟩⟩
 ·have:=hO.hf;simp [this] at h3
 ·have:=hO.ht;simp [this] at h4
 have h3:hasB fr.cut f=true:=by simpa using h3
 refine fun _=>aU (fun k:Nat=>⟨[(65,.i k),(64,.i arcs.length),(63,.ro 4 (arcs.map Arc.enc)),(9,.sl 2 0 N),(7,.ptr 1 0 0)],[.dead,frB fr,.arr 1 (nV N (fun j=>hasB fr.cut j))],0⟩) (fun k=>k≤arcs.length∧OkA arcs fr.flow fr.cut k) (fun k=>arcs.length-k) 0 ⟨by omega,⟨by simp⟩⟩ ?_ ?_
 ·simp -implicitDefEqProofs only [rX,↓reduceIte,Nat.reduceEqDiff,leE,leH,leB,leV,bB,aD,aB,wfE,wfB,wfV,wfL,bB,leV,yal,frB]
 rintro k ⟨hk,hv⟩
 simp -implicitDefEqProofs only [rX,↓rY,aA,cells?,splice,↓reduceIte,Nat.reduceEqDiff,cR,Nat.reduceAdd,aC,aT,aV,leE,leH,leB,leV,bB,aD,aB,wfE,wfB,wfV,wfL,yac,enc_len,eV,oG,oF,sB,fG,cP,tT,yaa,frB,Ev,xG]
 simp only [br,decide_eq_true_eq,decide_eq_false_iff_not]
 refine ⟨fun h5=>?_,fun h2=>Wx ⟨hs,h3,h4,⟨fun j h _=>hv.h j h (by omega)⟩⟩⟩
 have hk1:k<arcs.length:=by omega
 have hk2:k<fr.flow.length:=by omega
 have hva:=hV.ha arcs[k] (yad hk1)
 have good:=hv.next hk1
 have bad:¬(_∧_)→false=cuB N arcs f t fr.flow fr.cut:=fun h=>Gq fun hO=>h (hO.ha.h k hk1 hk1)
 rw [bX hk2] at good bad
 have e3:((arcs[k].from_.toNat:Nat):Int)=arcs[k].from_:=by omega
 have e4:((arcs[k].to.toNat:Nat):Int)=arcs[k].to:=by omega
 simp only [e3,e4] at *
 generalize hasB fr.cut arcs[k].from_=x at *
 generalize hasB fr.cut arcs[k].to=y at *
 cases x<;>cases y<;>simp only [br,bne_iff_ne,bne_eq_false_iff_eq,lo,hi,maxLen,Bool.not_true,Bool.not_false,forall_const,yay,reduceCtorEq,false_implies,true_implies,and_true,true_and] at*<;>
  (repeat' (first|(refine ⟨(k+1:_),?_⟩)|(refine ⟨by omega,?_⟩)|(refine And.intro ?_ ?_)|(refine (fun _=>?_))))<;>first|omega|exact good ‹_›|exact bad ‹_›|exact good|(apply bad;simp;omega)|(apply good;simp;try omega)|(apply good;done)|trivial
theorem ahD (N:Nat) (arcs:List Arc) (f t am:Int) (fr:Fr) (hV:Val N arcs) (hf:0≤f∧f<N) (ht:0≤t∧t<N):Ok 69 [net N arcs,.i f,.i t,.i am,fr.enc] (Is (.i (accI N arcs f t am fr))):=by
 refine ok_of lw69 (by simp) ?_
 unfold c69 net Fr.enc li
 have hL:=hV.hl
 have hN:=hV.hn
 simp -implicitDefEqProofs only [rX,↓rY,aA,cells?,↓reduceIte,Nat.reduceEqDiff,Nat.reduceAdd,reduceCtorEq,aC,aT,aV,wfV,cxN,aK]
 simp only [br,decide_eq_true_eq,decide_eq_false_iff_not]
 refine ⟨fun h=>pX fun hO=>by have:=hO.hs;omega,fun h0=>⟨fun h=>pX fun hO=>by have:=hO.hs;omega,fun h1=>?_⟩⟩
 refine aE (agR N arcs f t fr hV hf) (by simp [Fr.enc,net,li,aF,aJ,aW,bP,wkL,wk,wkR]) rfl trivial ?_
 cases hfl:Ao N arcs f t fr with
 | false =>
  simp -implicitDefEqProofs only [rX,↓rY,aA,↓reduceIte,Nat.reduceEqDiff,Nat.reduceAdd,aT,aV,wfV]
  exact pX fun hO=>by rw [Zn ⟨hO.fl,hO.hv,hO.ht⟩] at hfl;cases hfl
 | true =>
 have hfl:OkF N arcs f t fr.flow∧valTo arcs f fr.flow arcs.length=fr.sent∧dU arcs fr.flow arcs.length=fr.cost:=by
  apply Classical.byContradiction
  intro h
  rw [yQ h] at hfl;cases hfl
 have hl:=hfl.1.hl
 simp -implicitDefEqProofs only [rX,↓rY,↓reduceIte,Nat.reduceEqDiff,Nat.reduceAdd,reduceCtorEq]
 refine aE (agQ N arcs f fr hV hf hl) (by simp [Fr.enc,net,li,aF,aJ,aW,bP,wkL,wk,wkR]) rfl trivial ?_
 cases hp:prB N arcs f fr.flow fr.price with
 | false =>
  simp -implicitDefEqProofs only [rX,↓rY,aA,↓reduceIte,Nat.reduceEqDiff,Nat.reduceAdd,aT,aV,wfV]
  exact pX fun hO=>by have:=Wg hO.hp;rw [hp] at this;cases this
 | true =>
 have hp:OkP N arcs f fr.flow fr.price:=by
  apply Classical.byContradiction
  intro h
  have:=Fh h;rw [hp] at this;cases this
 simp -implicitDefEqProofs only [rX,↓rY,aA,↓reduceIte,Nat.reduceEqDiff,Nat.reduceAdd,reduceCtorEq,aT,aV,wfV]
 simp only [br,beq_iff_eq,beq_eq_false_iff_ne,decide_eq_true_eq,decide_eq_false_iff_not]
 refine ⟨fun h4=>fun _=>⟨fun h5=>Sl ⟨hfl.1,by omega,hfl.2.1,hfl.2.2,hp,?_⟩,fun h5=>⟨fun h6=>by omega,fun h6=>pX fun hO=>?_⟩⟩,fun h4=>⟨fun h5=>?_,fun h5=>pX fun hO=>?_⟩⟩
 ·rw [if_pos h4]
  exact yaX.1 (by omega)
 ·have:=hO.hc
  rw [if_pos h4] at this
  rw [this] at h5
  simp at h5
 ·refine aE (agP N arcs f t fr hV hf ht hl) (by simp [Fr.enc,net,li,aF,aJ,aW,bP,wkL,wk,wkR]) rfl trivial ?_
  cases hc:cuB N arcs f t fr.flow fr.cut with
  | false =>
   simp -implicitDefEqProofs only [rX,↓rY,aA,↓reduceIte,Nat.reduceEqDiff,Nat.reduceAdd,aT,aV,wfV]
   exact pX fun hO=>by have h6:=hO.hc;rw [if_neg h4] at h6;have:=Wx h6;rw [hc] at this;cases this
  | true =>
  have hc:OkC N arcs f t fr.flow fr.cut:=by
   apply Classical.byContradiction
   intro h
   have:=Gq h;rw [hc] at this;cases this
  simp -implicitDefEqProofs only [rX,↓rY,aA,↓reduceIte,Nat.reduceEqDiff,Nat.reduceAdd,aT,aV,wfV]
  exact Sl ⟨hfl.1,by omega,hfl.2.1,hfl.2.2,hp,by rw [if_neg h4];exact hc⟩
 ·have:=hO.hs;omega
end Go.Fx.P.K
namespace Go.Fx.P.K
open Go Go.Fx Go.Fx.E Go.Proofs
set_option maxRecDepth 20000
end Go.Fx.P.K
namespace Go.Fx.P.K
open Go Go.Fx Go.Fx.E Go.Proofs
set_option maxRecDepth 20000
def tF (p D:List Int) (t:Nat):Nat→List Int
 | 0=>p
 | k+1=>(tF p D t k).set k (p.getD k 0+min (D.getD k 0) (D.getD t 0))
theorem rR {p D:List Int} {t:Nat}:∀ {k:Nat},(tF p D t k).length=p.length
 | 0=>rfl
 | k+1=>by unfold tF;rw [yaw];exact rR
theorem xS {p D:List Int} {t:Nat} (j:Nat):∀ {k:Nat},k≤p.length→(tF p D t k).getD j 0=if j<k then p.getD j 0+min (D.getD j 0) (D.getD t 0) else p.getD j 0
 | 0,_=>by rw [if_neg (by omega)];rfl
 | k+1,hk=>by
  unfold tF
  rw [fU (by rw [rR];omega)]
  by_cases e:j=k
  ·subst e;rw [if_pos rfl,if_pos (by omega)]
  ·rw [if_neg e,xS j (by omega)]
   by_cases e2:j<k
   ·rw [if_pos e2,if_pos (by omega)]
   ·rw [if_neg e2,if_neg (by omega)]
section
variable {N:Nat} {arcs:List Arc} {f t:Nat} {am:Int}
def hpS (N:Nat) (arcs:List Arc) (x p:List Int):List Blk :=
 [.var [.i N,.ro 4 (arcs.map Arc.enc)],.var [.i 0,.i 0,.nil,.nil,.nil],.arr 1 (x.map encI),.dead,.arv 1 (iD arcs N),.arr 1 (p.map encI),wB N arcs.length arcs 2 4 5]
abbrev xV (N:Nat) (arcs:List Arc) (f t:Nat) (am:Int) (g:Int × List Int × List Int):St :=
 ⟨[(12,.i g.1),(11,.ptr 6 0 0),(8,.ptr 1 0 0),(3,.i am),(2,.i t),(1,.i f)],hpS N arcs g.2.1 g.2.2,0⟩
def Tight (arcs:List Arc) (f:Nat) (am:Int) (fr:Fr):Prop:=fr.sent<am→∀ v∈fr.cut,v≠f→∃ i,pZ arcs fr.flow i∧(wdst arcs i:Int)=v∧(wsrc arcs i:Int)∈fr.cut
theorem Nf {N:Nat} {arcs:List Arc} {f:Nat} {am:Int} {x p:List Int} {sent c:Int} {hV:Val N arcs} {hf:f<N} {hn:NN arcs x (fun u=>p.getD u 0)} {D:List Int} (hD:Ai N (grD N arcs x (fun u=>p.getD u 0) f hV hf hn) D):Tight arcs f am ⟨sent,c,x,p,e9 D N⟩:=by
 intro _ v hv hne
 obtain ⟨⟨h0,h1⟩,h2⟩:=oI.1 hv
 have hvt:((v.toNat:Nat):Int)=v:=yap h0
 rcases hD.lab.hw v.toNat (by show v.toNat<N;omega) with h3|⟨_,r,hr⟩
 ·exact absurd (show D.getD v.toNat 0=far from h3) (by omega)
 have hco:Lb.cs (grD N arcs x (fun u=>p.getD u 0) f hV hf hn) r=D.getD v.toNat 0:=hr.co
 cases r with
 | nil =>
  have:=hr.pr
  exact absurd (show v.toNat=f from this) (by omega)
 | cons i r =>
  obtain ⟨g1,g2,g3⟩:=hr.pr
  have g4:=hr.dm.2.head
  have g5:0≤dD arcs (fun u=>p.getD u 0) i:=hn i g1
  have g6:(grD N arcs x (fun u=>p.getD u 0) f hV hf hn).c i=dD arcs (fun u=>p.getD u 0) i:=rfl
  have g7:(grD N arcs x (fun u=>p.getD u 0) f hV hf hn).src i=wsrc arcs i:=rfl
  have g8:wdst arcs i=v.toNat:=g2
  simp only [Lb.cs,g6] at hco
  rw [g7] at g4
  have w:=vY hV g1.1
  refine ⟨i,g1,by omega,oI.2 ⟨⟨by omega,by have:=w.1;omega⟩,?_⟩⟩
  rw [yaa]
  have g9:D.getD (wsrc arcs i) 0≤Lb.cs (grD N arcs x (fun u=>p.getD u 0) f hV hf hn) r:=g4
  omega
def R13 (N:Nat) (arcs:List Arc) (f t:Nat) (am:Int) (r:V) (hs:List Blk):Prop:=∃ fr:Fr,((OkAc N arcs f t am fr∧Tight arcs f am fr)∧SI N arcs f t am fr.flow fr.price fr.sent)∧(∃ c tl,r=.tup [.agg [.i fr.sent,.i fr.cost,.sl 2 0 arcs.length,.sl 5 0 N,c],.i 0]∧hs=[.dead,.dead,.arr 1 (fr.flow.map encI),.dead,.dead,.arr 1 (fr.price.map encI)]++tl∧gvV (fun k=>decide (6≤k)) hs c=.ro 1 (fr.cut.map encI))∧wk (.tup [fr.enc,.i 0]) (gvV (fun _=>true) hs r)
theorem SI.init (hV:Val N arcs) (hf:f<N) (ht:t<N) (ham:0≤am):SI N arcs f t am (yab arcs.length 0) (yab N 0) 0:=by
 have hr:∀ (m k:Nat),(yab m (0:Int)).getD k 0=0:=by
  intro m k
  rw [yaf,yaM]
  split<;>rfl
 refine ⟨⟨by simp,fun k hk=>?_⟩,fun w=>?_,fun i hi=>?_,by simp,hr _ _,fun j=>?_,?_,⟨yae _,ham⟩⟩
 ·rw [hr]
  have:=hV.at hk
  omega
 ·rw [Tl,Tl]
  have:∀ k,valTo arcs w (yab arcs.length 0) k=0:=by
   intro k
   induction k with
   | zero=>rfl
   | succ k ih=>simp only [valTo,ih,hr];split<;>split<;>rfl
  rw [this];rfl
 ·obtain ⟨h1,h2⟩:=hi
  have:=hV.at h1
  unfold wrm at h2
  rw [hr] at h2
  unfold dD eR
  simp only [hr]
  split at h2
  ·rename_i h0
   rw [if_pos h0];omega
  ·omega
 ·simp only [hr];omega
 ·rw [hr]
  have:=hV.hn
  exact Int.mul_nonneg (by omega) (by omega)
theorem sU {l:List Int} {n:Nat} (h:l.length=n):yaj n (l.map encI)=l.map encI:=yao (by simp [h])
theorem Cr {l:List Int}:yaj l.length (l.map encI)=l.map encI:=sU rfl
theorem adD (hV:Val N arcs) (hN:N≤64) (hf:f<N) (ht:t<N) (ham:0≤am∧am≤2199023255552) {x p:List Int} {sent:Int} (hlt:sent<am) (hS:SI N arcs f t am x p sent) (hR:Reach arcs x p f t) {X:Nat→St→Prop} {RR:St→Prop} {s:St}
  (hX:∀ (x':List Int) (s':Int),SI N arcs f t am x' p s'→sent<s'→∀ e b,leS [] ⟨e,hpS N arcs x' p,b⟩ (xV N arcs f t am (s',x',p))→X 4 ⟨e,hpS N arcs x' p,b⟩)
  (hs:leS [] s ⟨[(15,.i 1),(12,.i sent),(11,.ptr 6 0 0),(8,.ptr 1 0 0),(3,.i am),(2,.i t),(1,.i f)],hpS N arcs x p,0⟩) :
  yE [] (fun NX=>aw (cxN Tryz.prog []) c66l2 NX X RR) s:=by
 refine aU (fun g:Int × Int × List Int=>(⟨[(15,.i g.1),(12,.i g.2.1),(11,.ptr 6 0 0),(8,.ptr 1 0 0),(3,.i am),(2,.i t),(1,.i f)],hpS N arcs g.2.2 p,0⟩:St))
  (fun g=>SI N arcs f t am g.2.2 p g.2.1∧0≤g.1∧((g.1=1∧g.2.1=sent∧Reach arcs g.2.2 p f t)∨sent<g.2.1)) (fun g=>2*(am-g.2.1).toNat+(if 0<g.1 then 1 else 0)) (1,sent,x) ⟨hS,by omega,.inl ⟨rfl,rfl,hR⟩⟩ hs ?_
 rintro ⟨more,s1,x1⟩ ⟨hS1,hm0,hcase⟩
 simp only at hS1 hm0 hcase ⊢
 have hxl:=hS1.xb.hl
 have hW:=hS1.wok hV hN
 have hs0:=hS1.s0
 unfold c66l2 hpS wB
 by_cases hgo:0<more∧s1<am
 ·have hd1:decide (0<more)=true:=decide_eq_true hgo.1
  have hd2:decide (s1<am)=true:=decide_eq_true hgo.2
  simp -implicitDefEqProofs only [rX,↓rY,aA,↓reduceIte,Nat.reduceEqDiff,Nat.reduceAdd,cxN,hd1,hd2]
  refine ⟨by simp only [lo,hi];omega,?_⟩
  have h30:=agS hV hW ht x1 f (am-s1) hS1.xb hf ⟨by omega,by omega⟩
  refine eH (FQ arcs x1 (fun u=>p.getD u 0) t (yab N false) f (am-s1)) [6,2,4,5] [] [] [.ptr 0 0 0,.i f,.i t,.i (am-s1)] (fun g=>.i g.1) (wH N arcs x1 p) (fun g=>wH N arcs g.2.1 p) h30 (by simp) (by simp) (by simp [wH,wB,blk,cA,cJ,ren,pos,cF,hxl]) (by simp [aF,aJ,aW,bP,wkL,wk,pos]) fun g hg=>⟨by simp [aD],?_⟩
  obtain ⟨n,x2,d2⟩:=g
  obtain ⟨q1,q2,q3⟩:=hS1.fill hf hg
  have hx2:x2.length=arcs.length:=q1.xb.hl
  have q4:=q1.s0
  simp -implicitDefEqProofs only [rX,↓rY,↓reduceIte,Nat.reduceEqDiff,Nat.reduceAdd,leE,leH,leB,leV,bB,aD,aB,wfE,wfB,wfV,wfL,bU,bD,kill,bN,St.kill,wH,wB,bH,cA,cJ,ren,cF,fK,back,hx2,Nat.reduceAdd]
  refine ⟨by simp only [lo,hi];omega,(n,s1+n,x2),⟨⟨q1,q2,?_⟩,?_⟩,?_⟩
  ·right
   simp only
   rcases hcase with ⟨c1,c2,c3⟩|c
   ·have:=q3 c3 hgo.2
    omega
   ·omega
  ·simp only
   rw [if_pos hgo.1]
   split<;>omega
  ·simp -implicitDefEqProofs only [rX,bV]
 ·have hs1:sent<s1:=by
   rcases hcase with ⟨c1,c2,c3⟩|c
   ·exact absurd ⟨by omega,by omega⟩ hgo
   ·exact c
  have hx:=hX x1 s1 hS1 hs1
  unfold xV hpS wB at hx
  by_cases h1:0<more
  ·have hd1:decide (0<more)=true:=decide_eq_true h1
   have hd2:decide (s1<am)=false:=decide_eq_false (fun h2=>hgo ⟨h1,h2⟩)
   simp -implicitDefEqProofs only [rX,↓rY,aA,↓reduceIte,Nat.reduceEqDiff,Nat.reduceAdd,cxN,hd1,hd2]
   refine hx _ _ ?_
   simp -implicitDefEqProofs only [rX,↓reduceIte,Nat.reduceEqDiff,leE,leH,leB,leV,bB,aD,aB,wfE,wfB,wfV,wfL,bV]
  ·have hd1:decide (0<more)=false:=decide_eq_false h1
   simp -implicitDefEqProofs only [rX,↓rY,aA,↓reduceIte,Nat.reduceEqDiff,Nat.reduceAdd,cxN,hd1]
   refine hx _ _ ?_
   simp -implicitDefEqProofs only [rX,↓reduceIte,Nat.reduceEqDiff,leE,leH,leB,leV,bB,aD,aB,wfE,wfB,wfV,wfL,bV]
theorem aaG (hV:Val N arcs) (hN:N≤64) (hf:f<N) (ht:t<N) (hft:f≠t) (hal:arcs.length≤100) (ham:0≤am∧am≤2199023255552) {X:Nat→St→Prop}
  (hX:∀ g:Int × List Int × List Int,SI N arcs f t am g.2.1 g.2.2 g.1→g.1=am→∀ e b,get e 11=.ptr 6 0 0→get e 12=.i am→get e 8=.ptr 1 0 0→X 0 ⟨e,hpS N arcs g.2.1 g.2.2,b⟩)
  (g:Int × List Int × List Int) (hg:SI N arcs f t am g.2.1 g.2.2 g.1) :
  aw (cxN Tryz.prog []) c66l0 (fun s'=>∃ g':Int × List Int × List Int,(SI N arcs f t am g'.2.1 g'.2.2 g'.1∧(am-g'.1).toNat<(am-g.1).toNat)∧leS [] s' (xV N arcs f t am g')) X (eS [] 0 [.cell 8 (some 5),.tmp 9] (R13 N arcs f t am)) (xV N arcs f t am g):=by
 obtain ⟨sent,x,p⟩:=g
 simp only at hg
 have hxl:=hg.xb.hl
 have hW:=hg.wok hV hN
 have hWx:=hW x hg.xb
 have hs0:=hg.s0
 unfold c66l0 xV hpS wB
 rcases (by omega:sent<am∨am≤sent) with h|h
 ·have hd:decide (sent<am)=true:=decide_eq_true h
  simp -implicitDefEqProofs only [rX,↓rY,↓reduceIte,Nat.reduceEqDiff,Nat.reduceAdd,cxN,hd]
  have h28:=agT (hs:=hf) hWx hg.nn (fun j=>hg.xb.bd hV j)
  refine eH (Ai N (grD N arcs x (fun u=>p.getD u 0) f hWx.hV hf hg.nn)) [6,2,4,5] [] [] [.ptr 0 0 0,.i f] (fun _=>.sl 7 0 N) (wH N arcs x p) (fun D:List Int=>wH N arcs x p++[Blk.dead,Blk.dead,Blk.dead,Blk.arr 1 (D.map encI)]) h28 (by simp) (by simp) (by simp [wH,wB,blk,cA,cJ,ren,pos,cF,hxl]) (by simp [aF,aJ,aW,bP,wkL,wk,pos]) fun D hD=>⟨by simp [aD,aB,wH,wB,bH,cA,bD],?_⟩
  simp -implicitDefEqProofs only [rX,↓rY,aA,↓reduceIte,Nat.reduceEqDiff,cR,Nat.reduceAdd,bU,bD,kill,bN,St.kill,yac,cP,yaa,wH,wB,bH,cA,cJ,ren,cF,fK,back,hxl,List.getElem?_nil,Nat.reduceSub,Nat.reduceAdd]
  have hDl:=hD.len
  have hDt:D.getD t 0=D[t]'(by omega):=bX (by omega)
  refine ⟨⟨by omega,by omega⟩,by omega,?_⟩
  simp only [br,beq_iff_eq,beq_eq_false_iff_ne]
  refine ⟨fun hfar=>?_,fun hfar=>?_⟩
  ·have h29:=abV hWx hg.xb sent D (by omega)
   rw [hDl] at h29
   have hok:=hg.cut hV hN hf ht hft h hD (by rw [hDt];exact hfar)
   generalize hT:dU arcs x arcs.length=tot at *
   refine cX [6,2,4,5] [.ptr 0 0 0,.i sent,.bro 1 (D.map encI)] (.agg [.i sent,.i tot,.sl 1 0 x.length,.sl 3 0 N,.sl 6 0 (e9 D N).length]) (.agg [.i sent,.i tot,.sl 2 0 x.length,.sl 5 0 N,.sl 13 0 (e9 D N).length]) (wH N arcs x p) (wH N arcs x p++[Blk.dead,Blk.dead,Blk.arr 1 ((e9 D N).map encI)]) _ h29 (by simp) (by simp [wH,wB,blk,cA,cJ,ren,pos,cF,hxl]) (by simp [aF,aJ,aW,bP,wkL,wk,wkR,wkB,blk,pos,hDl,sU]) (by simp [wH]) rfl (by simp [ren,cJ,back]) (by simp [aD]) ?_
   simp -implicitDefEqProofs only [rX,↓rY,aA,cells?,splice,↓reduceIte,Nat.reduceEqDiff,Nat.reduceAdd,isC,wH,wB,bH,cA,cJ,ren,cF,back,hxl,Nat.reduceAdd]
   rw [fE]
   simp -implicitDefEqProofs only [rX,↓rY,↓reduceIte,Nat.reduceEqDiff,Nat.reduceAdd,aT,aV,aD,aB,wfV,wfL]
   refine ⟨[.dead,.dead,.arr 1 (x.map encI),.dead,.dead,.arr 1 (p.map encI),.dead,.dead,.dead,.dead,.dead,.dead,.dead,.arr 1 ((e9 D N).map encI)],⟨by simp [leH,leB],by simp [wfV,wfL,aB],by simp [wfB]⟩,_,⟨⟨hok,Nf hD⟩,hg⟩,⟨_,[.dead,.dead,.dead,.dead,.dead,.dead,.dead,.arr 1 ((e9 D N).map encI)],rfl,rfl,by simp [gvV,blk,Cr]⟩,?_⟩
   have e1:yaj arcs.length (x.map encI)=x.map encI:=sU hxl
   have e2:yaj N (p.map encI)=p.map encI:=sU hg.pl
   have hpl:=hg.pl
   simp [gvV,gvL,wk,wkL,wkR,blk,Fr.enc,li,e1,e2,Cr,hxl,hpl]
  ·have hp13:=hg.price hV hf ht hD hN (by rw [hDt];exact hfar) (p':=tF p D t N) (rR.trans hg.pl) (fun k hk=>by rw [xS k (by rw [hg.pl];exact yan _),if_pos hk])
   have hpl:=hg.pl
   intro _
   refine aU (fun k:Nat=>(⟨[(55,.i k),(54,.i N),(13,.sl 10 0 N),(12,.i sent),(11,.ptr 6 0 0),(8,.ptr 1 0 0),(3,.i am),(2,.i t),(1,.i f)],hpS N arcs x (tF p D t k)++[.dead,.dead,.dead,.arr 1 (D.map encI)],0⟩:St)) (fun k=>k≤N) (fun k=>N-k) 0 (yak _) ?_ fun k hk=>?_
   ·unfold hpS wB
    simp -implicitDefEqProofs only [rX,↓reduceIte,Nat.reduceEqDiff,leE,leH,leB,leV,bB,aD,aB,wfE,wfB,wfV,wfL,bV,yal,tF]
   unfold c66l1 hpS wB
   rcases yam k N with hkN|hkN
   ·have hd2:decide ((k:Int)<N)=true:=decide_eq_true (by omega)
    simp -implicitDefEqProofs only [rX,↓rY,aA,cells?,splice,↓reduceIte,Nat.reduceEqDiff,cR,Nat.reduceAdd,leE,leH,leB,leV,bB,aD,aB,wfE,wfB,wfV,wfL,isD,isC,yac,cP,yaa,e7,hd2]
    have hml:(tF p D t k).length=N:=rR.trans hpl
    have hmk:(tF p D t k)[k]'(by omega)=p.getD k 0:=by
     rw [←bX (by omega),xS k (by omega),if_neg (Nat.lt_irrefl _)]
    have hDk:D.getD k 0=D[k]'(by omega):=bX (by omega)
    have hpb:=hWx.hb k
    have hKBv:KB=67711795200:=rfl
    have hbk:=yI (hV:=hWx.hV) (hs:=hf) (hn:=hg.nn) hN (fun j=>hWx.hb j) hD.lab hkN
    have hbt:=yI (hV:=hWx.hV) (hs:=hf) (hn:=hg.nn) hN (fun j=>hWx.hb j) hD.lab ht
    have hfv:far=4611686018427387904:=rfl
    have hm1:min D[k] D[t]≤67711795200:=by
     refine yaC (yax _ _) ?_
     rcases hbt.2 with e|e
     ·exact absurd (hDt.symm.trans e) hfar
     ·rw [hDt] at e;omega
    have hm2:0≤min D[k] D[t]:=by
     rw [hDk] at hbk
     rw [hDt] at hbt
     exact Int.le_min.2 ⟨hbk.1,hbt.1⟩
    have hms:tF p D t (k+1)=(tF p D t k).set k (p.getD k 0+min D[k] D[t]):=by rw [←hDk,←hDt];rfl
    simp only [hmk]
    refine ⟨⟨by omega,by omega⟩,by rw [hml];exact hkN,⟨by omega,by omega⟩,by omega,⟨by omega,by omega⟩,by omega,by simp only [lo,hi];omega,⟨by omega,by omega⟩,by rw [hml];exact hkN,by simp only [lo,hi];omega,k+1,⟨by omega,by omega⟩,by simp,?_,vK⟩
    rw [hms,←l7]
   ·have hd2:decide ((k:Int)<N)=false:=decide_eq_false (by omega)
    have:k=N:=by omega
    subst this
    simp -implicitDefEqProofs only [rX,↓rY,aA,↓reduceIte,Nat.reduceEqDiff,Nat.reduceAdd,hd2]
    obtain ⟨hS1,hR1⟩:=hp13
    generalize tF p D t k=p1 at *
    refine adD hV hN hf ht ham h hS1 hR1 (fun x' s' h1 h2 e b h3=>?_) ?_
    ·simp only [if_pos]
     exact ⟨(s',x',p1),⟨h1,by simp only;have:=h1.s0;omega⟩,h3⟩
    ·unfold hpS wB
     simp -implicitDefEqProofs only [rX,↓reduceIte,Nat.reduceEqDiff,leE,leH,leB,leV,bB,aD,aB,wfE,wfB,wfV,wfL,bV]
 ·have hd:decide (sent<am)=false:=decide_eq_false (by omega)
  simp -implicitDefEqProofs only [rX,↓rY,↓reduceIte,Nat.reduceEqDiff,Nat.reduceAdd,cxN,hd]
  have he:sent=am:=by omega
  subst he
  exact hX (sent,x,p) hg rfl _ _ rfl rfl rfl
theorem abR (hV:Val N arcs) (hN:N≤64) (hf:f<N) (ht:t<N) (hft:f≠t) (hal:arcs.length≤100) (ham:0≤am∧am≤2199023255552) (htask:Er N f t am=true) :
  Ok 66 [net N arcs,.i f,.i t,.i am] (R13 N arcs f t am):=by
 refine ok_of lw66 (by simp) ?_
 unfold c66 net
 simp -implicitDefEqProofs only [rX,↓rY,aA,cells?,↓reduceIte,Nat.reduceEqDiff,Nat.reduceAdd,aC,cxN,aK]
 refine aE (agW N arcs) (by simp [net,aF,aJ,aW,bP,wkL,wk,wkR]) rfl trivial ?_
 simp -implicitDefEqProofs only [rX,↓rY,aA,cells?,splice,↓reduceIte,Nat.reduceEqDiff,Nat.reduceAdd,reduceCtorEq,bQ,isC,hV.chk,bne_self_eq_false]
 refine aE (agV N arcs f t am) (by simp [net,aF,aJ,aW,bP,wkL,wk,wkR]) rfl trivial ?_
 simp -implicitDefEqProofs only [rX,↓rY,rdK,↓reduceIte,Nat.reduceEqDiff,Nat.reduceAdd,aC,yaa,htask]
 intro _
 refine ⟨⟨⟨by omega,by omega⟩,by omega,by omega⟩,?_⟩
 have hx0:(yab arcs.length (0:Int)).length=arcs.length:=by simp
 have h27:=agU N arcs (yab arcs.length 0) hV
 rw [hx0] at h27
 have e0:yab arcs.length [V.i 0]=(yab arcs.length (0:Int)).map encI:=by simp [encI]
 refine cX [2] [net N arcs,.sl 0 0 arcs.length] (.ptr 4 0 0) (.ptr 6 0 0) [.arr 1 ((yab arcs.length (0:Int)).map encI)] [.arr 1 ((yab arcs.length (0:Int)).map encI),Blk.dead,.arv 1 (iD arcs N),.arr 1 (yab N (encI 0)),wB N arcs.length arcs 0 2 3] _ h27 (by simp) (by simp [blk,cA,cJ,ren,pos,encI]) (by simp [net,aF,aJ,aW,bP,wkL,wk,wkR,pos]) (by simp) rfl (by simp [ren,cJ,back]) (by simp [aD]) ?_
 rw [Fc]
 simp -implicitDefEqProofs only [rX,aA,↓reduceIte,Nat.reduceAdd,wB,bH,cA,cJ,ren,cF,back,List.getElem?_nil,Nat.reduceSub,Nat.reduceAdd]
 refine aU (xV N arcs f t am) (fun g=>SI N arcs f t am g.2.1 g.2.2 g.1) (fun g=>(am-g.1).toNat) (0,yab arcs.length 0,yab N 0) (SI.init hV hf ht ham.1) ?_ (aaG hV hN hf ht hft hal ham ?_)
 ·unfold xV hpS wB
  simp -implicitDefEqProofs only [rX,↓reduceIte,Nat.reduceEqDiff,reduceCtorEq,leE,leH,leB,leV,bB,aD,aB,wfE,wfB,wfV,wfL,bV]
 ·rintro ⟨sent,x,p⟩ hS he e b g1 g2 g3
  simp only at hS he
  subst he
  have hWx:=hS.wok hV hN x hS.xb
  have hxl:=hS.xb.hl
  have hpl:=hS.pl
  have h29:=abV hWx hS.xb sent [] (yak _)
  have hok:=hS.all hV hN hf ht hft rfl
  generalize hT:dU arcs x arcs.length=tot at *
  unfold hpS wB
  simp -implicitDefEqProofs only [rX,aA,↓reduceIte,Nat.reduceEqDiff,Nat.reduceAdd,g1,g2]
  refine cX [6,2,4,5] [.ptr 0 0 0,.i sent,.bro 1 []] (.agg [.i sent,.i tot,.sl 1 0 x.length,.sl 3 0 N,.sl 6 0 0]) (.agg [.i sent,.i tot,.sl 2 0 x.length,.sl 5 0 N,.sl 9 0 0]) (wH N arcs x p) (wH N arcs x p++[Blk.dead,Blk.dead,Blk.arr 1 []]) _ h29 (by simp) (by simp [wH,wB,blk,cA,cJ,ren,pos,cF,hxl]) (by simp [aF,aJ,aW,bP,wkL,wk,wkR,wkB,blk,pos]) (by simp [wH]) rfl (by simp [ren,cJ,back]) (by simp [aD]) ?_
  simp -implicitDefEqProofs only [rX,↓rY,aA,cells?,splice,↓reduceIte,Nat.reduceEqDiff,Nat.reduceAdd,isC,wH,wB,bH,cA,cJ,ren,cF,back,hxl,g3,Nat.reduceAdd]
  rw [fE]
  simp -implicitDefEqProofs only [rX,↓rY,↓reduceIte,Nat.reduceEqDiff,Nat.reduceAdd,aT,aV,aD,aB,wfV,wfL,g3]
  refine ⟨[.dead,.dead,.arr 1 (x.map encI),.dead,.dead,.arr 1 (p.map encI),.dead,.dead,.dead,.arr 1 []],⟨by simp [leH,leB],by simp [wfV,wfL,aB],by simp [wfB]⟩,_,⟨⟨hok,fun h=>absurd h (yaH _)⟩,hS⟩,⟨_,[.dead,.dead,.dead,.arr 1 []],rfl,rfl,by simp [gvV,blk]⟩,?_⟩
  have e1:yaj arcs.length (x.map encI)=x.map encI:=sU hxl
  have e2:yaj N (p.map encI)=p.map encI:=sU hpl
  simp [gvV,gvL,wk,wkL,wkR,blk,Fr.enc,li,e1,e2,Cr,hxl,hpl]
theorem ahG (hV:Val N arcs) (hN:N≤64) (hf:f<N) (ht:t<N) (hft:f≠t) (hal:arcs.length≤100) (ham:0≤am∧am≤2199023255552) (htask:Er N f t am=true) :
  Ok 66 [net N arcs,.i f,.i t,.i am] (IsQ (fun fr=>OkAc N arcs f t am fr∧Tight arcs f am fr) (fun fr=>.tup [fr.enc,.i 0]) (fun _=>[])):=by
 refine ⟨iN lw66,Sv (R:=R13 N arcs f t am) ?_ fun r hs ⟨fr,h1,_,h2⟩=>⟨_,h2,fr,h1.1,rfl,rfl⟩⟩
 exact (abR hV hN hf ht hft hal ham htask).2
end
end Go.Fx.P.K
namespace Go.Fx.P
open Go Go.Fx Go.Fx.E Go.Proofs
set_option maxRecDepth 20000
theorem Vf {ps:List aG} {rs:List Road} (hc:fI ps rs=0) (h1:ps.length≤10) (h2:rs.length≤25):nN ps≤64∧(cC ps rs).length≤100:=by
 have:=vM (ps:=ps) (l:=rs)
 simp only [nN,cC];omega
theorem acE (ps:List aG) (rs:List Road) (h:aeQ ps rs):Ok 29 [bG ps rs] (IsQ (fun fr=>lD ps rs fr∧K.Tight (cC ps rs) 0 (dem ps) fr) (fun fr=>.tup [fr.enc,.i 0]) (fun _=>[])):=by
 obtain ⟨hc,hl,hr⟩:=h
 obtain ⟨⟨_,_⟩,hcap,hv⟩:=g0 hc
 have hV:=Dc hc
 have hb:=Vf hc hl hr
 have hd:0≤dem ps∧dem ps≤10737418240:=by
  have h1:=w5 hcap (ofN ps 1 ps.length)
  have h2:=eZ (ps:=ps) (kind:=1) (n:=ps.length)
  unfold dem
  omega
 have ht:K.Er (nN ps) (0:Nat) (1:Nat) (dem ps)=true:=by
  have e:((nN ps:Nat):Int)=2+2*ps.length:=by simp [nN]
  refine decide_eq_true ⟨⟨by omega,by omega⟩,⟨by omega,by omega⟩,by omega,hd.1,by omega⟩
 have e46:=K.ahG (f:=0) (t:=1) (am:=dem ps) hV hb.1 (by simp only [nN];omega) (by simp only [nN];omega) (by omega) hb.2 ⟨hd.1,by omega⟩ ht
 refine ok_of lw29 (by simp) ?_
 unfold c29 bG sps rds
 simp -implicitDefEqProofs only [rX,↓rY,aA,cells?,↓reduceIte,Nat.reduceEqDiff,Nat.reduceAdd,aC,cxN,aK]
 refine aE (abX ps rs) (by simp [bG,sps,rds,aF,aJ,aW,bP,wkL,wk,wkR]) rfl trivial ?_
 simp -implicitDefEqProofs only [rX,↓rY,rdK,aA,cells?,splice,↓reduceIte,Nat.reduceEqDiff,Nat.reduceAdd,bQ,isC,hc,bne_self_eq_false]
 refine aE (Yn ps rs (by omega) (by omega) hv) (by simp [bG,sps,rds,aF,aJ,aW,bP,wkL,wk,wkR]) rfl trivial ?_
 simp -implicitDefEqProofs only [rX,↓reduceIte,Nat.reduceEqDiff]
 refine aE (Yl ps rs (by omega) hcap) (by simp [bG,sps,rds,aF,aJ,aW,bP,wkL,wk,wkR]) rfl trivial ?_
 simp -implicitDefEqProofs only [rX,aA,↓reduceIte,Nat.reduceEqDiff]
 rw [Ku]
 refine eH (fun fr=>K.OkAc (nN ps) (cC ps rs) 0 1 (dem ps) fr∧K.Tight (cC ps rs) 0 (dem ps) fr) [] [] [] [net (nN ps) (cC ps rs),.i 0,.i 1,.i (dem ps)] (fun fr=>.tup [fr.enc,.i 0]) [] (fun _=>[]) e46 ⟨by simp,by simp⟩ ⟨rfl,by simp⟩ rfl (by simp [net,aF,aJ,aW,bP,wkL,wk,wkR]) fun fr hfr=>⟨trivial,?_⟩
 simp -implicitDefEqProofs only [rX,↓rY,cells?,splice,↓reduceIte,Nat.reduceEqDiff,Nat.reduceAdd,bU,bD,kill,bN,St.kill,isC,Fr.enc,li,bH,ren,cJ]
 refine dO (Q:=fun fr=>lD ps rs fr∧K.Tight (cC ps rs) 0 (dem ps) fr) fr ⟨⟨hc,⟨hl,hr⟩,hfr.1⟩,hfr.2⟩ ?_
 simp -implicitDefEqProofs only [rX,↓rY,↓reduceIte,Nat.reduceEqDiff,Nat.reduceAdd,aT,aV,leH,aD,wfB,wfV,wfL]
open Classical in
noncomputable def sL (ps:List aG) (rs:List Road) (fr:Fr):Int:=if fI ps rs≠0 then fI ps rs else K.accI (nN ps) (cC ps rs) 0 1 (dem ps) fr
theorem acC (ps:List aG) (rs:List Road) (fr:Fr):Ok 38 [bG ps rs,fr.enc] (Is (.i (sL ps rs fr))):=by
 refine ok_of lw38 (by simp) ?_
 unfold c38 bG sps rds Fr.enc li
 simp -implicitDefEqProofs only [rX,↓rY,aA,cells?,↓reduceIte,Nat.reduceEqDiff,Nat.reduceAdd,reduceCtorEq,aC,cxN,aK]
 refine aE (abX ps rs) (by simp [bG,sps,rds,aF,aJ,aW,bP,wkL,wk,wkR]) rfl trivial ?_
 by_cases hc:fI ps rs=0
 ·obtain ⟨⟨hl,hr⟩,hcap,hv⟩:=g0 hc
  have hV:=Dc hc
  have e:((nN ps:Nat):Int)=2+2*ps.length:=by simp [nN]
  simp -implicitDefEqProofs only [rX,↓rY,rdK,aA,↓reduceIte,Nat.reduceEqDiff,Nat.reduceAdd,aT,aV,wfV,hc,bne_self_eq_false]
  refine aE (Yn ps rs hl hr hv) (by simp [bG,sps,rds,aF,aJ,aW,bP,wkL,wk,wkR]) rfl trivial ?_
  simp -implicitDefEqProofs only [rX,↓reduceIte,Nat.reduceEqDiff]
  refine aE (Yl ps rs hl hcap) (by simp [bG,sps,rds,aF,aJ,aW,bP,wkL,wk,wkR]) rfl trivial ?_
  simp -implicitDefEqProofs only [rX,aA,↓reduceIte,Nat.reduceEqDiff]
  rw [Ku]
  refine aE (K.ahD (nN ps) (cC ps rs) 0 1 (dem ps) fr hV (by omega) (by omega)) (by simp [net,Fr.enc,li,aF,aJ,aW,bP,wkL,wk,wkR]) rfl trivial ?_
  simp -implicitDefEqProofs only [rX,↓reduceIte,aT,aV,wfV,sL,hc]
  simp
 ·have hb:(fI ps rs != 0)=true:=by simpa using hc
  simp -implicitDefEqProofs only [rX,↓rY,rdK,aA,↓reduceIte,Nat.reduceEqDiff,Nat.reduceAdd,aT,aV,wfV,hb]
  rw [sL,if_pos hc]
theorem lD.acc0 {ps:List aG} {rs:List Road} {fr:Fr} (h:lD ps rs fr):sL ps rs fr=0:=by
 rw [sL,if_neg (by simp [h.chk]),K.accI,if_pos h.acc]
end Go.Fx.P
namespace Go.Fx.E
open Go Go.Fx Go.Proofs
set_option maxRecDepth 20000
structure Rf where
 place:Int
 n:Int
 win:Int
 sent:Int
 cut:List Int
 lo:Int
 hi:Int
 serial:Int
 sg:Bs
def Rf.enc (r:Rf):List V:=.i r.place::.i r.n::.i r.win::.i r.sent::P.li r.cut::.i r.lo::.i r.hi::.i r.serial::us r.sg
def partsOf (r:Rf):List Bs:=[lB [r.place,r.n,r.win,r.sent,r.lo,r.hi,r.serial],lB r.cut]
structure Rf.Ok (r:Rf):Prop where
 n7:In64 [r.place,r.n,r.win,r.sent,r.lo,r.hi,r.serial]
 cut:In64 r.cut
 len:r.cut.length≤1000000
theorem Gy {cx:Cx} {f:FuncId} {args:List V} {e:Env} {h:List Blk} {b:Nat} {K:V→St→Prop} {xs:List V} {n:Nat} {els:List (List V)} (hC:cx.C f xs [] [] (IsA (.sl 0 0 n) [.arr 1 els])) (h1:aF h (fun _=>none) args∧wkL xs (aW h (fun _=>none) args))
  (keep:aD cx.fx (h++[.arr 1 els])) (h3:K (.sl h.length 0 n) ⟨e,h++[.arr 1 els],b⟩):j8 cx f args ⟨e,h,b⟩ K :=
 eW xs _ _ _ _ hC h1 rfl rfl keep h3
theorem Gz {l:Bs} {n:Nat} (h:n=l.length):yaj n (l.map by1)=l.map by1:=yao (by rw [yau,h];exact yan _)
set_option maxHeartbeats 2000000 in
theorem acA (r:Rf) (hr:r.Ok):Ok 41 [.agg r.enc] (Is (rS (partsOf r))):=by
 refine tJ (ok_of lw41 (by simp) ?_)
 unfold c41 Rf.enc
 have o7:=abW [r.place,r.n,r.win,r.sent,r.lo,r.hi,r.serial] hr.n7 (by simp)
 have oc:=abW r.cut hr.cut (by have:=hr.len;omega)
 have t7:=Gz (l:=lB [r.place,r.n,r.win,r.sent,r.lo,r.hi,r.serial]) rfl
 have tc:=Gz (l:=lB r.cut) rfl
 simp -implicitDefEqProofs only [rX,↓rY,rdK,aA,cells?,↓reduceIte,Nat.reduceEqDiff,Nat.reduceAdd,aC,cI,isD,Nat.reduceLT,aQ,aK]
 have fin:∀ (e:Env) (h:List Blk) (b:Nat),get e 2=.sl 2 0 2→h[2]?=some (.arr 1 [[V.v (Value.string (sb (lB [r.place,r.n,r.win,r.sent,r.lo,r.hi,r.serial])))],[V.v (Value.string (sb (lB r.cut)))]])→eS [] 0 [hU.tmp 2] (Gv (rS (partsOf r))) ⟨e,h,b⟩ :=
  fun e h b h1 h2=>Ig h1 h2 rfl
 repeat' first
  | exact fin _ _ _ rfl rfl
  | (exact Or.inr trivial)
  | refine And.intro ?_ ?_
  | (refine Gy o7 ⟨⟨yan 7,trivial⟩,⟨rfl,rfl⟩,trivial⟩ trivial ?_
     simp -implicitDefEqProofs only [rX,↓rY,↓reduceIte,Nat.reduceEqDiff,Nat.reduceAdd,aQ,t7,iU,Bc])
  | (refine Gy oc ⟨⟨trivial,trivial⟩,⟨rfl,rfl⟩,trivial⟩ trivial ?_
     simp -implicitDefEqProofs only [rX,↓rY,cells?,↓reduceIte,Nat.reduceEqDiff,Nat.reduceAdd,aC,cI,isD,Nat.reduceLT,aQ,t7,tc,iU,Bc])
set_option maxRecDepth 20000
def KyP (k:Ky):Prop:=(1≤k.party∧k.party≤1073741824)∧(1≤k.serial∧k.serial≤1073741824)∧(1≤k.sec.length∧k.sec.length≤64)∧0≤k.fr∧k.fr<k.to∧k.to≤1099511627776
instance (k:Ky):Decidable (KyP k):=by unfold KyP;infer_instance
def kyB (k:Ky):Bool:=decide (KyP k)
theorem Da {p:Prop} [Decidable p] {t:Bool} (h:t=true↔p):t=decide p:=by rw [yaR,h];simp
theorem ahP (k:Ky):Ok 35 [.agg k.enc] (Is (.b (kyB k))):=by
 refine ok_of lw35 (by simp) ?_
 unfold c35 Ky.enc
 simp -implicitDefEqProofs only [rX,↓rY,aA,cells?,↓reduceIte,Nat.reduceEqDiff,aC,aT,aV,wfV,mQ,aK]
 simp only [br,decide_eq_true_eq,decide_eq_false_iff_not,beq_iff_eq,beq_eq_false_iff_ne]
 have e:∀ t:Bool,(t=true↔KyP k)→t=kyB k:=fun t=>Da
 simp only [KyP] at e
 repeat' (first|(refine ⟨(0:_),?_⟩)|(refine ⟨by omega,?_⟩)|(refine And.intro ?_ ?_)|(refine (fun _=>?_)))
 all_goals (apply e;first|omega|(simp only [yay,false_iff,decide_eq_true_eq];omega))
def PeP (a b:Int):Prop:=0≤a∧a≤b∧b≤1099511627776
instance (a b:Int):Decidable (PeP a b):=by unfold PeP;infer_instance
def peB (a b:Int):Bool:=decide (PeP a b)
theorem ahO (a b:Int):Ok 36 [.agg [.i a,.i b]] (Is (.b (peB a b))):=by
 refine ok_of lw36 (by simp) ?_
 unfold c36
 simp -implicitDefEqProofs only [rX,↓rY,aA,cells?,↓reduceIte,Nat.reduceEqDiff,aC,aT,aV,wfV,aK]
 simp only [br,decide_eq_true_eq,decide_eq_false_iff_not,beq_iff_eq,beq_eq_false_iff_ne]
 have e:∀ t:Bool,(t=true↔PeP a b)→t=peB a b:=fun t=>Da
 simp only [PeP] at e
 repeat' (first|(refine ⟨(0:_),?_⟩)|(refine ⟨by omega,?_⟩)|(refine And.intro ?_ ?_)|(refine (fun _=>?_)))
 all_goals (apply e;first|omega|(simp only [yay,false_iff,decide_eq_true_eq];omega))
def Gc (a:Int):Bool:=decide (0≤a∧a≤1099511627776)
theorem acD (a:Int):Ok 37 [.i a] (Is (.b (Gc a))):=by
 refine ok_of lw37 (by simp) ?_
 unfold c37
 simp -implicitDefEqProofs only [rX,↓rY,aA,↓reduceIte,Nat.reduceEqDiff,reduceCtorEq,aT,aV,wfV,aK]
 simp only [br,decide_eq_true_eq,decide_eq_false_iff_not,beq_iff_eq,beq_eq_false_iff_ne]
 have e:∀ t:Bool,(t=true↔(0≤a∧a≤1099511627776))→t=Gc a:=fun t=>Da
 repeat' (first|(refine ⟨(0:_),?_⟩)|(refine ⟨by omega,?_⟩)|(refine And.intro ?_ ?_)|(refine (fun _=>?_)))
 all_goals (apply e;first|omega|(simp only [yay,false_iff,decide_eq_true_eq];omega))
def Sx (k:Ky) (a b:Int):Prop:=0≤a∧a≤b∧b≤1099511627776∧k.fr≤a∧b<k.to
instance (k:Ky) (a b:Int):Decidable (Sx k a b):=by unfold Sx;infer_instance
def Rw (k:Ky) (a b:Int):Bool:=decide (Sx k a b)
theorem agY (k:Ky) (a b:Int):Ok 80 [.agg k.enc,.agg [.i a,.i b]] (Is (.b (Rw k a b))):=by
 refine ok_of lw80 (by simp) ?_
 unfold c80 Ky.enc
 simp -implicitDefEqProofs only [rX,↓rY,aA,cells?,↓reduceIte,Nat.reduceEqDiff,Nat.reduceAdd,reduceCtorEq,aC,aT,aV,wfV,aK]
 simp only [br,decide_eq_true_eq,decide_eq_false_iff_not,beq_iff_eq,beq_eq_false_iff_ne]
 have e:∀ t:Bool,(t=true↔Sx k a b)→t=Rw k a b:=fun t=>Da
 simp only [Sx] at e
 repeat' (first|(refine ⟨(0:_),?_⟩)|(refine ⟨by omega,?_⟩)|(refine And.intro ?_ ?_)|(refine (fun _=>?_)))
 all_goals (apply e;first|omega|(simp only [yay,false_iff,decide_eq_true_eq];omega))
def Jq (a b:Ky):Prop:=a.party<b.party∨(a.party=b.party∧a.serial<b.serial)
instance (a b:Ky):Decidable (Jq a b):=by unfold Jq;infer_instance
set_option maxRecDepth 20000
def vB (k:Ky) (p s:Int):Int:=if k.party=p then IntKind.i64.wrap (k.serial-s) else IntKind.i64.wrap (k.party-p)
theorem Wi (k:Ky) (p s:Int):OkN Tryz.prog 137 [.agg k.enc,.i p,.ptr 0 0 0] [.var [.i s]] [] (IsA (.i (vB k p s)) [.var [.i s]]):=by
 refine eL pol [0] lw137 (by simp) ⟨trivial,trivial⟩ (by simp) ?_
 unfold c137 Ky.enc
 simp -implicitDefEqProofs only [rX,↓rY,aA,cells?,↓reduceIte,Nat.reduceEqDiff,Nat.reduceAdd,reduceCtorEq,aC,aT,aV,leH,leB,leV,bB,aD,aB,wfB,wfV,wfL,aK,cO,vB]
 simp only [br,bne_iff_ne,bne_eq_false_iff_eq,ne_eq]
 refine ⟨fun h=>by rw [if_neg h],fun h=>by rw [if_pos h]⟩
structure Ad (l:List Ky):Prop where
 ok:∀ k∈l,KyP k
 ord:l.Pairwise Jq
def ltK (k:Ky) (p s:Int):Prop:=k.party<p∨(k.party=p∧k.serial<s)
theorem Ny {x:Int} (h:-18446744073709551616<x∧x<18446744073709551616):IntKind.i64.wrap x=0↔x=0:=by
 simp [IntKind.wrap,IntKind.bits,IntKind.signed];omega
def PS (p s:Int):Prop:=(0≤p∧p≤1099511627776)∧-9223372036854775808≤s∧s≤9223372036854775807
theorem Rx {k:Ky} {p s:Int} (hk:KyP k) (h:PS p s):vB k p s=0↔(k.party=p∧k.serial=s):=by
 obtain ⟨h1,h2,_⟩:=hk
 obtain ⟨h3,h4⟩:=h
 unfold vB
 split
 ·rename_i e;rw [Ny (by omega)];omega
 ·rename_i e;rw [Ny (by omega)];omega
theorem Lm {k:Ky} {p s:Int} (hk:KyP k) (h:PS p s) (hs:1≤s):vB k p s<0↔ltK k p s:=by
 obtain ⟨h1,h2,_⟩:=hk
 obtain ⟨h3,h4⟩:=h
 unfold vB ltK
 split
 ·rename_i e;rw [dR .i64 _ (by simp only [lo,Fx.hi];omega)];omega
 ·rename_i e;rw [dR .i64 _ (by simp only [lo,Fx.hi];omega)];omega
theorem sh_r {k:IntKind} {a c:Int} {K:V→Prop}:cQ .shr k a c K=(0≤c∧K (.v (.int k (a.fdiv (2 ^ (min c.toNat k.bits)))))):=rfl
structure Fnd (l:List Ky) (p s:Int) (g:Nat × Bool):Prop where
 le:g.1≤l.length
 y:g.2=true→∃ h:g.1<l.length,l[g.1].party=p∧l[g.1].serial=s
 n:g.2=false→∀ k∈l,¬(k.party=p∧k.serial=s)
theorem acJ (l:List Ky) (p s:Int) (hR:Ad l) (hl:l.length≤1000000) (hps:PS p s):OkN Tryz.prog 136 [.bro 5 (l.map Ky.enc),.i p,.clo 137 [.ptr 0 0 0]] [.var [.i s]] [] (IsQ (Fnd l p s) (fun g=>.tup [.i g.1,.b g.2]) (fun _=>[.var [.i s]])):=by
 refine eL pol [0] lw136 (by simp) ⟨trivial,trivial⟩ (by simp) ?_
 unfold c136
 simp -implicitDefEqProofs only [rX,↓rY,aA,↓reduceIte,Nat.reduceEqDiff,Nat.reduceAdd,reduceCtorEq,aQ,aK]
 intro hmx
 have hp:=yav.1 hR.ord
 refine dB (fun g:Nat × Nat=>(⟨[(10,.i g.2),(9,.i g.1),(8,.i l.length),(2,.clo 137 [.ptr 0 0 0]),(1,.i p),(0,.bro 5 (l.map Ky.enc))],[.var [.i s]],1⟩:St)) (fun g=>(g.1≤g.2∧g.2≤l.length)∧(1≤s→∀ j (h:j<l.length),j<g.1→ltK l[j] p s)∧(1≤s→∀ j (h:j<l.length),g.2≤j→¬ltK l[j] p s)) (fun g=>g.2-g.1) (0,l.length) ⟨⟨by simp,by simp⟩,fun _ j _ h=>by simp at h,fun _ j h h2=>by simp at h2;omega⟩ ?_ ?_
 ·simp -implicitDefEqProofs only [rX,↓reduceIte,Nat.reduceEqDiff,reduceCtorEq,leE,leH,leB,leV,bB,aD,aB,wfE,wfB,wfV,wfL,yal]
 rintro ⟨i,j⟩ ⟨⟨hij,hj⟩,h1,h2⟩ N hN
 simp only at hij hj h1 h2
 unfold c136l0
 rcases yam i j with c|c
 ·have hd:decide ((i:Int)<(j:Int))=true:=decide_eq_true (by omega)
  have hw:IntKind.wrap .u64 ((i:Int)+(j:Int))=((i+j:Nat):Int):=by rw [dR .u64 _ (by simp only [lo,Fx.hi];omega)];omega
  have hdv:((i+j:Nat):Int).fdiv (2 ^ (min (Int.toNat 1) IntKind.u64.bits))=(((i+j)/2:Nat):Int):=by
   rw [show min (Int.toNat 1) IntKind.u64.bits=1 from rfl]
   rw [Int.fdiv_eq_ediv_of_nonneg _ (by decide)]
   omega
  have hw2:IntKind.wrap .i64 (((i+j)/2:Nat):Int)=(((i+j)/2:Nat):Int):=dR .i64 _ (by simp only [lo,Fx.hi];omega)
  have hk:(i+j)/2<l.length:=by omega
  have hkP:=hR.ok _ (yad hk)
  simp -implicitDefEqProofs only [rX,↓rY,aA,↓reduceIte,Nat.reduceEqDiff,reduceCtorEq,yac,yaa,hd,hw,hdv,hw2,↓sh_r,yag hk,yJ,r3]
  refine ⟨by simp only [lo,Fx.hi];omega,by omega,⟨by omega,by omega⟩,hk,?_⟩
  refine cX [0] [.agg l[(i+j)/2].enc,.i p,.ptr 0 0 0] (.i (vB l[(i+j)/2] p s)) (.i (vB l[(i+j)/2] p s)) [.var [.i s]] [.var [.i s]] _ (Wi l[(i+j)/2] p s) (by simp [aY]) rfl (by simp [aF,aJ,aW,bP,wkL,wk,wkR,pos,Ky.enc]) (by simp) rfl rfl ⟨trivial,trivial⟩ ?_
  cases h4:decide (vB l[(i+j)/2] p s<0) with
  | true =>
   have h4':=of_decide_eq_true h4
   simp -implicitDefEqProofs only [rX,↓rY,aA,↓reduceIte,Nat.reduceEqDiff,h4,bH,cA,cJ,ren]
   refine ⟨by simp only [lo,Fx.hi];omega,hN _ ((i+j)/2+1,j) ⟨⟨by simp only;omega,hj⟩,fun hs q hk2 hlt=>?_,h2⟩ (by simp only;omega) (by simp -implicitDefEqProofs only [rX,↓reduceIte,Nat.reduceEqDiff,reduceCtorEq,leE,leH,leB,leV,bB,aD,aB,wfE,wfB,wfV,wfL];simp)⟩
   simp only at hlt
   have h3:=(Lm hkP hps hs).1 h4'
   by_cases e:q=(i+j)/2
   ·subst e;exact h3
   ·have:=hp q ((i+j)/2) hk2 hk (by omega)
    unfold Jq at this
    unfold ltK at h3 ⊢
    omega
  | false =>
   have h4':=of_decide_eq_false h4
   simp -implicitDefEqProofs only [rX,↓rY,aA,↓reduceIte,Nat.reduceEqDiff,h4,bH,cA,cJ,ren]
   refine hN _ (i,(i+j)/2) ⟨⟨by simp only;omega,by simp only;omega⟩,h1,fun hs q hk2 hlt hlk=>?_⟩ (by simp only;omega) (by simp -implicitDefEqProofs only [rX,↓reduceIte,Nat.reduceEqDiff,reduceCtorEq,leE,leH,leB,leV,bB,aD,aB,wfE,wfB,wfV,wfL])
   simp only at hlt
   have h3:¬ltK l[(i+j)/2] p s:=fun h=>h4' ((Lm hkP hps hs).2 h)
   by_cases e:q=(i+j)/2
   ·subst e;exact h3 hlk
   ·have:=hp ((i+j)/2) q hk hk2 (by omega)
    unfold Jq at this
    unfold ltK at h3 hlk
    omega
 ·have hd:decide ((i:Int)<(j:Int))=false:=decide_eq_false (by omega)
  have he:i=j:=by omega
  subst he
  have none:∀ q (hq:q<l.length),q≠i→¬(l[q].party=p∧l[q].serial=s):=by
   intro q hq hqi hm
   have hqP:=hR.ok _ (yad hq)
   have hs:1≤s:=by have:=hqP.2.1;omega
   rcases yam q i with d|d
   ·have:=h1 hs q hq d
    unfold ltK at this
    omega
   ·have hi:i<l.length:=by omega
    have h5:=h2 hs i hi (yan _)
    have:=hp i q hi hq (by omega)
    unfold Jq at this
    unfold ltK at h5
    omega
  rcases yam i l.length with c2|c2
  ·have hd2:decide ((i:Int)<(l.length:Int))=true:=decide_eq_true (by omega)
   have hiP:=hR.ok _ (yad c2)
   simp -implicitDefEqProofs only [rX,↓rY,↓reduceIte,Nat.reduceEqDiff,reduceCtorEq,yac,yaa,hd,hd2,yag c2,yJ,r3]
   refine ⟨⟨by omega,by omega⟩,c2,?_⟩
   refine cX [0] [.agg l[i].enc,.i p,.ptr 0 0 0] (.i (vB l[i] p s)) (.i (vB l[i] p s)) [.var [.i s]] [.var [.i s]] _ (Wi l[i] p s) (by simp [aY]) rfl (by simp [aF,aJ,aW,bP,wkL,wk,wkR,pos,Ky.enc]) (by simp) rfl rfl ⟨trivial,trivial⟩ ?_
   simp -implicitDefEqProofs only [rX,↓rY,aA,↓reduceIte,Nat.reduceEqDiff,bH,cA,cJ,ren]
   refine dO (Q:=Fnd l p s) (i,vB l[i] p s==0) ⟨by omega,fun h=>⟨c2,(Rx hiP hps).1 (by simpa using h)⟩,fun h k hk hm=>?_⟩ ?_
   ·obtain ⟨q,hq,rfl⟩:=yai hk
    by_cases e:q=i
    ·subst e
     have:=(Rx hiP hps).2 hm
     simp [this] at h
    ·exact none q hq e hm
   ·simp -implicitDefEqProofs only [rX,↓reduceIte,Nat.reduceEqDiff,aT,aV,leH,leB,leV,bB,aD,aB,wfB,wfV,wfL]
  ·have hd2:decide ((i:Int)<(l.length:Int))=false:=decide_eq_false (by omega)
   simp -implicitDefEqProofs only [rX,↓rY,aA,↓reduceIte,Nat.reduceEqDiff,hd,hd2]
   refine dO (Q:=Fnd l p s) (i,false) ⟨by omega,(fun h=>by cases h),fun h k hk hm=>?_⟩ ?_
   ·obtain ⟨q,hq,rfl⟩:=yai hk
    exact none q hq (by omega) hm
   ·simp -implicitDefEqProofs only [rX,↓reduceIte,Nat.reduceEqDiff,aT,aV,leH,leB,leV,bB,aD,aB,wfB,wfV,wfL]
set_option maxRecDepth 20000
def bK (l:List Ky):V:=.bro 5 (l.map Ky.enc)
theorem acR (l:List Ky) (p s:Int) (hR:Ad l) (hl:l.length≤1000000) (hps:PS p s):Ok 109 [bK l,.i p,.i s] (IsQ (Fnd l p s) (fun g=>.tup [.i g.1,.b g.2]) (fun _=>[.var [.i s]])):=by
 refine ok_of lw109 (by simp) ?_
 unfold c109 bK
 simp -implicitDefEqProofs only [rX,↓rY,aA,cells?,↓reduceIte,Nat.reduceEqDiff,Nat.reduceAdd,reduceCtorEq,aC,aK]
 refine eH (Fnd l p s) [0] [] [] [.bro 5 (l.map Ky.enc),.i p,.clo 137 [.ptr 0 0 0]] (fun g=>.tup [.i g.1,.b g.2]) [.var [.i s]] (fun _=>[.var [.i s]]) (acJ l p s hR hl hps) ⟨by simp,by simp [aY]⟩ ⟨rfl,by simp⟩ rfl (by simp [aF,aJ,aW,bP,wkL,wk,wkR,wkB,pos]) ?_
 intro g hg
 simp -implicitDefEqProofs only [rX,↓rY,↓reduceIte,Nat.reduceEqDiff,bU,bD,kill,bN,St.kill,aQ,Wt,bH,cA,cJ,ren]
 refine dO (Q:=Fnd l p s) g hg ?_
 simp -implicitDefEqProofs only [rX,↓reduceIte,Nat.reduceEqDiff,aT,aV,leH,leB,leV,bB,aD,wfB,wfV,wfL,Nat.reduceLeDiff]
def o6 (l:List Ky) (p s:Int):Option Ky:=l.find? fun k=>decide (k.party=p∧k.serial=s)
def zKy:Ky:=⟨0,0,[],0,0⟩
theorem Iw {l:List Ky} {p s:Int} (hR:Ad l) {i:Nat} (hi:i<l.length) (h:l[i].party=p∧l[i].serial=s):o6 l p s=some l[i]:=by
 unfold o6
 rw [List.find?_eq_some_iff_getElem]
 refine ⟨by simpa using h,i,hi,rfl,fun j hj=>?_⟩
 have:=yav.1 hR.ord j i (by omega) hi hj
 unfold Jq at this
 have hn:¬(l[j].party=p∧l[j].serial=s):=by omega
 simp only [decide_eq_false hn,Bool.not_false]
theorem Ix {l:List Ky} {p s:Int} (h:∀ k∈l,¬(k.party=p∧k.serial=s)):o6 l p s=none:=by
 unfold o6
 rw [List.find?_eq_none]
 intro k hk
 have:=h k hk
 simpa using this
theorem adE {q:List Blk} {k:Ky}:wfL q k.enc:=⟨trivial,trivial,trivial,trivial,trivial,trivial⟩
theorem agZ (l:List Ky) (p s:Int) (hR:Ad l) (hl:l.length≤1000000) (hps:PS p s):Ok 79 [bK l,.i p,.i s] (Is (.tup [.agg ((o6 l p s).getD zKy).enc,.i (if (o6 l p s).isSome then 0 else 5)])):=by
 refine ok_of lw79 (by simp) ?_
 unfold c79
 simp -implicitDefEqProofs only [rX,↓rY,aA,cells?,↓reduceIte,Nat.reduceEqDiff,Nat.reduceAdd,reduceCtorEq,aC,aK]
 refine eH (Fnd l p s) [] [] [] [bK l,.i p,.i s] (fun g=>.tup [.i g.1,.b g.2]) [] (fun _=>[.var [.i s]]) (acR l p s hR hl hps) ⟨by simp,by simp⟩ ⟨rfl,by simp⟩ rfl (by simp [aF,aJ,aW,bP,wkL,wk,wkR,wkB,bK]) ?_
 rintro ⟨i,t⟩ hg
 simp -implicitDefEqProofs only [rX,↓rY,aA,cells?,splice,↓reduceIte,Nat.reduceEqDiff,Nat.reduceAdd,reduceCtorEq,bQ,aT,aV,wfV,wfL,bU,bD,kill,bN,St.kill,isC,aY,aQ,Wt,bH,cA,cJ,ren]
 have hle:=hg.le
 simp only at hle
 cases t with
 | true =>
  obtain ⟨h1,h2⟩:=hg.y rfl
  simp only at h1 h2
  simp -implicitDefEqProofs only [rX,↓rY,kill,St.kill,yac,yaa,bK,yag h1,yJ,r3,adF]
  rw [Iw hR h1 h2]
  exact ⟨⟨by omega,by omega⟩,h1,adE,rfl⟩
 | false =>
  have h2:=hg.n rfl
  simp -implicitDefEqProofs only [↓rY]
  rw [Ix h2]
  rfl
set_option maxRecDepth 20000
theorem Rh {a b:UInt8} {K:Bool→Prop}:eqC (.int .u8) (some (u8 a)) (some (u8 b)) K=K (a==b):=by
 have e:eqK (.int .u8 a.toNat) (.int .u8 b.toNat)=(a==b):=by
  show ((a.toNat:Int)==(b.toNat:Int))=(a==b)
  by_cases h:a=b
  ·subst h;simp
  ·have h2:a.toNat≠b.toNat:=fun h3=>h (UInt8.toNat_inj.1 h3)
   have h3:(a==b)=false:=by simpa using h
   rw [h3];simp;omega
 show ((_∧_)∧K (eqK _ _))=_
 rw [e]
 exact propext ⟨fun h=>h.2,fun h=>⟨⟨rfl,rfl⟩,h⟩⟩
theorem yX {l1 l2:Bs} {xs ys:List V} (hx:∀ i (h:i<l1.length),xs[i]?=some (u8 l1[i])) (hy:∀ i (h:i<l2.length),ys[i]?=some (u8 l2[i])):∀ {m a:Nat} {K:Bool→Prop},a+m≤l1.length→a+m≤l2.length →
  gE xs ys ((List.range' a m).map fun i=>(i,.int .u8)) K=K ((l1.drop a).take m==(l2.drop a).take m)
 | 0,a,K,_,_=>by simp [gE]
 | m+1,a,K,h1,h2=>by
  rw [List.range'_succ,List.map_cons,gE,hx a (by omega),hy a (by omega),Rh,yX hx hy (by omega) (by omega),yaY (show a<l1.length by omega),yaY (show a<l2.length by omega),yaZ,yaZ]
  rfl
theorem Wc {l:Bs} {i:Nat} (h:i<l.length):(us l)[i]?=some (u8 l[i]):=by
 rw [Xn h];unfold bn;rw [yaf,yag h];rfl
theorem Zu {a b:Bs} (ha:a.length=16) (hb:b.length=16) {K:Bool→Prop}:(dL (vD (.agg (us a))) fun xs=>dL (vD (.agg (us b))) fun ys=>gE xs ys ((List.range' 0 16).map fun i=>(i,.int .u8)) K)=K (a==b):=by
 show gE (us a) (us b) _ K=_
 rw [yX (fun i h=>Wc h) (fun i h=>Wc h) (by omega) (by omega)]
 simp only [List.drop_zero]
 rw [yao (by omega),yao (by omega)]
def Rz (l:List Ky) (p s tag:Int) (ps:List Bs) (sg:Bs) (a b:Int):Int :=
 match o6 l p s with
 | none=>5
 | some k=>if Rw k a b=false then 9 else if mP k tag ps=sg then 0 else 8
theorem Na {l:List Ky} {p s:Int} {k:Ky} (h:o6 l p s=some k):k∈l:=List.mem_of_find?_eq_some h
theorem gR {h:List Blk} {g:Nat→Option Nat} {k:Ky}:aJ h g (.agg k.enc)∧wk (.agg k.enc) (bP h g (.agg k.enc)):=⟨⟨trivial,trivial,trivial,trivial,trivial,trivial⟩,⟨rfl,rfl,rfl,rfl,rfl,trivial⟩⟩
theorem aiC:((5:Int) != 0)=true:=rfl
set_option maxHeartbeats 1000000 in
theorem ahK (l:List Ky) (p s tag:Int) (ps:List Bs) (sg:Bs) (a b:Int) (hR:Ad l) (hl:l.length≤1000000) (hps:PS p s) (hsg:sg.length=16) (hS:∀ k∈l,aaL k ps):Ok 58 [bK l,.i p,.i s,.i tag,rS ps,.agg (us sg),.agg [.i a,.i b]] (Is (.i (Rz l p s tag ps sg a b))):=by
 refine ok_of lw58 (by simp) ?_
 unfold c58
 obtain ⟨u1,u2,u3⟩:=Of hsg
 have o79:=agZ l p s hR hl hps
 simp -implicitDefEqProofs only [rX,↓rY,aA,cells?,↓reduceIte,Nat.reduceEqDiff,Nat.reduceAdd,reduceCtorEq,aC,aK]
 unfold Rz
 cases hf:o6 l p s with
 | none =>
  rw [hf] at o79
  refine aE o79 (by simp [aF,aJ,aW,bP,wkL,wk,wkR,wkB,bK]) rfl trivial ?_
  simp -implicitDefEqProofs only [rX,↓rY,aA,cells?,splice,↓reduceIte,Nat.reduceEqDiff,Nat.reduceAdd,aC,aT,aV,wfV,isC,aY,Ky.enc,zKy,yar,aiC]
 | some k =>
  rw [hf] at o79
  have hk:=hS k (Na hf)
  refine aE o79 (by simp [aF,aJ,aW,bP,wkL,wk,wkR,wkB,bK]) rfl trivial ?_
  simp -implicitDefEqProofs only [rX,↓rY,aA,cells?,splice,↓reduceIte,Nat.reduceEqDiff,Nat.reduceAdd,aC,aT,aV,wfV,aY,yJ,r3,adF,yaz,bne_self_eq_false]
  refine aE (agY k a b) ⟨⟨gR.1,⟨trivial,trivial,trivial⟩,trivial⟩,gR.2,⟨rfl,rfl,trivial⟩,trivial⟩ rfl trivial ?_
  cases hc:Rw k a b with
  | false=>simp -implicitDefEqProofs only [rX,↓rY,aA,↓reduceIte,Nat.reduceAdd,aT,aV,wfV]
  | true =>
   simp -implicitDefEqProofs only [rX,↓rY,rdK,↓reduceIte,Nat.reduceEqDiff,Nat.reduceAdd,reduceCtorEq,aQ,yJ,r3,u1,u2]
   refine aE (acB k tag ps hk) ⟨⟨gR.1,trivial,trivial,trivial⟩,gR.2,rfl,⟨rfl,rfl⟩,trivial⟩ (by simp [ren,mI]) trivial ?_
   simp -implicitDefEqProofs only [rX,aA,↓reduceIte,Nat.reduceEqDiff,Nat.reduceAdd,aT,aV,wfV,↓Zu (dW (k:=k) (tag:=tag) (l:=ps)) hsg]
   by_cases hq:mP k tag ps=sg
   ·rw [hq,beq_self_eq_true,if_pos rfl];exact ⟨(fun h=>by cases h),fun _=>rfl⟩
   ·rw [if_neg hq,beq_eq_false_iff_ne.2 hq];exact ⟨fun _=>rfl,(fun h=>by cases h)⟩
set_option maxRecDepth 20000
open Go.Fx.P (Arc)
theorem p9 {q:List Blk}:∀ {a b:List Blk},wfB q (a++b)=(wfB q a∧wfB q b)
 | [],b=>by simp [wfB]
 | x::a,b=>by
  rw [List.cons_append]
  cases x<;>simp only [wfB,p9,and_assoc]
theorem Mx {h tl:List Blk} {k:Nat} (hk:aB h k):aB (h++tl) k:=by
 unfold aB at hk ⊢
 by_cases hl:k<h.length
 ·rw [yaS hl];exact hk
 ·rw [yat (by omega)] at hk;exact hk.elim
theorem lZ {h tl:List Blk}:∀ {fx:List Nat},aD fx h→aD fx (h++tl)
 | [],_=>trivial
 | _::_,hk=>⟨Mx hk.1,lZ hk.2⟩
def inR (N:Nat) (cut:List Int) (j:Nat):List (List V):=(List.range N).map fun x:Nat=>[V.b (decide ((x:Int)∈cut.take j))]
theorem mX {N:Nat} {cut:List Int} {j:Nat}:(inR N cut j).length=N:=by simp [inR]
theorem Zc {N:Nat} {cut:List Int} {j x:Nat} (h:x<N):(inR N cut j)[x]?=some [.b (decide ((x:Int)∈cut.take j))]:=by
 unfold inR;rw [List.getElem?_map,List.getElem?_range h];rfl
theorem vP {N:Nat} {cut:List Int} {j x:Nat} {h:x<(inR N cut j).length}:(inR N cut j)[x]=[.b (decide ((x:Int)∈cut.take j))]:=by
 have:=Zc (N:=N) (cut:=cut) (j:=j) (x:=x) (by rw [mX] at h;exact h)
 rw [yag h] at this
 exact Option.some.inj this
theorem Un {N:Nat} {cut:List Int} {j x:Nat} (hj:j<cut.length) (hx:cut[j]=(x:Int)):(inR N cut j).set x [.b true]=inR N cut (j+1):=by
 have hs:cut.take (j+1)=cut.take j++[(x:Int)]:=by rw [←yaT hj,hx]
 apply List.ext_getElem
 ·rw [yaw,mX,mX]
 ·intro i h1 h2
  rw [List.getElem_set,vP,vP,hs]
  by_cases e:x=i
  ·subst e;simp
  ·rw [if_neg e]
   have:((i:Int)∈cut.take j++[(x:Int)])↔(i:Int)∈cut.take j:=by
    rw [yaJ,yas]
    constructor
    ·rintro (h|h)
     ·exact h
     ·omega
    ·exact .inl
   simp only [this]
theorem adK {N:Nat} {cut:List Int}:inR N cut 0=yab N [.b false]:=by
 unfold inR
 apply List.ext_getElem
 ·simp
 ·intro i h1 h2;simp
structure E83 (N:Nat) (arcs:List Arc) (L k i:Nat) (e:Env):Prop where
 e0:get e 0=.itr k
 e4:get e 4=.sl L 0 N
 e23:get e 23=.ro 4 (arcs.map Arc.enc)
 e24:get e 24=.i arcs.length
 e25:get e 25=.i i
 e43:get e 43=.b true
structure aaO {G:Type} (hp:G→List Blk) (L:Nat) (N:Nat) (arcs:List Arc) (cut:List Int) (k a c:Nat) (fx:List Nat):Prop where
 len:∀ g,(hp g).length=L
 ha:∀ g tl,(hp g++tl)[a]?=some (.var [.i N,.ro 4 (arcs.map Arc.enc)])
 hc:∀ g tl,(hp g++tl)[c]?=some (.var [.ro 1 (cut.map P.encI)])
 kp:∀ g,aD fx (hp g)
 wf:∀ g tl,wfB (hp g++tl) (hp g)
 lk:∀ g tl,∃ t e,(hp g++tl)[k]?=some (.rcd t e)
def gV (cut:List Int) (a:Arc):Bool:=decide (a.from_∈cut)&&!decide (a.to∈cut)
section
variable {G:Type} {hp:G→List Blk} {L N:Nat} {arcs:List Arc} {cut:List Int} {k a c:Nat} {fx:List Nat} {Y:Yt} {K:List Blk→Prop} {Inv:Nat→G→Prop}
abbrev Pp {G:Type} (hp:G→List Blk) (L N:Nat) (arcs:List Arc) (cut:List Int) (k:Nat) (g:Nat × G):St :=
 ⟨[(25,.i g.1),(24,.i arcs.length),(23,.ro 4 (arcs.map Arc.enc)),(4,.sl L 0 N),(0,.itr k)],hp g.2++[.arr 1 (inR N cut cut.length)],0⟩
theorem adJ (H:aaO hp L N arcs cut k a c fx) (hN:N≤1000000) (hal:arcs.length≤1000000) (hcl:cut.length≤1000000)
  (hcut:∀ x∈cut,0≤x∧x<N) (hv:∀ x∈arcs,(0≤x.from_∧x.from_<N)∧(0≤x.to∧x.to<N))
  (hskip:∀ i g (hi:i<arcs.length),Inv i g→gV cut arcs[i]=false→Inv (i+1) g)
  (hY:∀ i g (hi:i<arcs.length),Inv i g→gV cut arcs[i]=true→∀ (e:Env) (bb:Nat) (Z:V→St→Prop),E83 N arcs L k i e →
   (∀ e' g' tl,E83 N arcs L k i e'→Inv (i+1) g'→Z (.b true) ⟨e',hp g'++.arr 1 (inR N cut cut.length)::tl,bb⟩)→Y [.i i,.agg arcs[i].enc] ⟨e,hp g++[.arr 1 (inR N cut cut.length),.var arcs[i].enc],bb⟩ Z)
  (hK:∀ g,Inv arcs.length g→K (hp g++[.arr 1 (inR N cut cut.length)])) (g:G) (hg:Inv 0 g) :
  I0 Tryz.prog 83 [.itr k,.ptr a 0 0,.ptr c 0 0] fx k Y (hp g) K:=by
 refine Qo pol fx lw83 (by simp) ?_
 have go:∀ g j tl,(hp g++tl)[L+j]?=tl[j]?:=fun g j tl=>by
  rw [yaA (by rw [H.len];omega),H.len];congr 1;omega
 have go0:∀ g tl,(hp g++tl)[L]?=tl[0]?:=fun g=>go g 0
 have gs:∀ g j tl B,(hp g++tl).set (L+j) B=hp g++tl.set j B:=fun g j tl B=>by
  rw [yaW _ _ (by rw [H.len];omega),H.len];congr 2;omega
 have gs0:∀ g tl B,(hp g++tl).set L B=hp g++tl.set 0 B:=fun g=>gs g 0
 have a0:=H.ha g []
 have c0:=H.hc g []
 rw [yaB] at a0 c0
 unfold c83
 simp -implicitDefEqProofs only [rX,↓rY,aA,↓reduceIte,Nat.reduceEqDiff,Nat.reduceAdd,reduceCtorEq,aC,yaa,aK,H.ha,H.hc,H.len,go0,gs0]
 refine ⟨⟨⟨by omega,by omega⟩,by omega,by omega⟩,fun hcm=>?_⟩
 refine dB (fun j:Nat=>(⟨[(14,.i j),(13,.i cut.length),(12,.ro 1 (cut.map P.encI)),(4,.sl L 0 N),(0,.itr k),(1,.ptr a 0 0)],hp g++[.arr 1 (inR N cut j)],0⟩:St)) (fun j=>j≤cut.length) (fun j=>cut.length-j) 0 (yak _) ?_ ?_
 ·obtain ⟨tk,ek,lk⟩:=H.lk g [.arr 1 (yab N [V.b false])]
  simp -implicitDefEqProofs only [rX,↓reduceIte,Nat.reduceEqDiff,reduceCtorEq,leE,aB,wfE,wfB,wfV,adK,go0,H.ha,lk,eq_true (lZ (H.kp g)),p9,eq_true (H.wf g _)]
  exact ⟨rfl,bT _⟩
 intro j hj N1 hN1
 simp only [c83l0]
 simp -implicitDefEqProofs only [rX,↓rY,aA,cells?,splice,↓reduceIte,Nat.reduceEqDiff,cR,reduceCtorEq,isD,isC,yac,yaa,H.len,go0,gs0]
 cases h1:decide ((j:Int)<(cut.length:Int)) with
 | true =>
  have h1':=of_decide_eq_true h1
  have hj':j<cut.length:=by omega
  have hx:=hcut _ (yad hj')
  obtain ⟨x,hxe⟩:∃ x:Nat,cut[j]=x:=⟨cut[j].toNat,by omega⟩
  simp -implicitDefEqProofs only [rX,↓rY,yaa,yag hj',hxe,P.cP]
  refine ⟨by omega,hj',by omega,by rw [mX];omega,⟨by simp only [lo];omega,by simp only [Fx.hi];omega⟩,hN1 _ (j+1) (by omega) (by omega) ?_⟩
  have hset:(inR N cut j).set x (V.v (Value.bool true)::List.drop 1 ((inR N cut j)[x]'(by rw [mX];omega)))=inR N cut (j+1):=by
   rw [vP];exact Un hj' hxe
  rw [hset]
  obtain ⟨tk,ek,lk⟩:=H.lk g [.arr 1 (inR N cut (j+1))]
  simp -implicitDefEqProofs only [rX,↓reduceIte,Nat.reduceEqDiff,reduceCtorEq,leE,aB,wfE,wfB,wfV,go0,H.ha,lk,eq_true (lZ (H.kp g)),p9,eq_true (H.wf g _)]
  exact ⟨rfl,bT _⟩
 | false =>
  have h1':=of_decide_eq_false h1
  have:j=cut.length:=by omega
  subst this
  simp -implicitDefEqProofs only [rX,↓rY,H.ha]
  intro ham
  refine dB (Pp hp L N arcs cut k) (fun g=>g.1≤arcs.length∧Inv g.1 g.2) (fun g=>arcs.length-g.1) (0,g) ⟨yak _,hg⟩ ?_ ?_
  ·obtain ⟨tk,ek,lk⟩:=H.lk g [.arr 1 (inR N cut cut.length)]
   simp -implicitDefEqProofs only [rX,↓reduceIte,Nat.reduceEqDiff,reduceCtorEq,leE,aB,wfE,wfB,wfV,go0,lk,eq_true (lZ (H.kp g)),p9,eq_true (H.wf g _)]
   exact ⟨rfl,bT _⟩
  rintro ⟨i,g⟩ ⟨hi,hI⟩ N2 hN2
  simp only at hi hI
  simp only [c83l1]
  unfold Pp
  simp -implicitDefEqProofs only [rX,↓rY,rZ,↓rW,aA,cells?,splice,↓reduceIte,Nat.reduceEqDiff,cR,Nat.reduceAdd,reduceCtorEq,aC,yac,yaa,H.len,go,go0,gs,yah]
  cases h2:decide ((i:Int)<(arcs.length:Int)) with
  | true =>
   have h2':=of_decide_eq_true h2
   have hi':i<arcs.length:=by omega
   obtain ⟨⟨f1,f2⟩,f3,f4⟩:=hv _ (yad hi')
   obtain ⟨u,hu⟩:∃ u:Nat,arcs[i].from_=u:=⟨arcs[i].from_.toNat,by omega⟩
   obtain ⟨v,hw⟩:∃ v:Nat,arcs[i].to=v:=⟨arcs[i].to.toNat,by omega⟩
   have lu:u<(inR N cut cut.length).length:=by rw [mX];omega
   have lv:v<(inR N cut cut.length).length:=by rw [mX];omega
   have b0:lo IntKind.i64≤(i:Int)+1∧(i:Int)+1≤Fx.hi IntKind.i64:=⟨by simp only [lo];omega,by simp only [Fx.hi];omega⟩
   have fin:∀ (e:Env) (b:Nat) (g':G) (tl:List Blk),get e 0=.itr k→get e 4=.sl L 0 N→get e 23=.ro 4 (arcs.map Arc.enc)→get e 24=.i arcs.length→get e 25=.v (.int .i64 ((i:Int)+1))→leS fx ⟨e,hp g'++.arr 1 (inR N cut cut.length)::tl,b⟩ (Pp hp L N arcs cut k (i+1,g')):=by
    intro e b g' tl q0 q4 q23 q24 q25
    obtain ⟨tk,ek,lk⟩:=H.lk g' [.arr 1 (inR N cut cut.length)]
    simp -implicitDefEqProofs only [rX,leE,aB,wfE,wfB,wfV,go0,lk,eq_true (lZ (H.kp g')),p9,eq_true (H.wf g' _),q0,q4,q23,q24,q25]
    refine ⟨rfl,?_⟩
    rw [show hp g'++.arr 1 (inR N cut cut.length)::tl=(hp g'++[.arr 1 (inR N cut cut.length)])++tl by simp]
    exact P.K.leH_app _ _
   have hop:gV cut arcs[i]=(decide ((u:Int)∈cut)&&!decide ((v:Int)∈cut)):=by unfold gV;rw [hu,hw]
   simp -implicitDefEqProofs only [rX,↓rY,↓reduceIte,yaa,hu,hw,vP,List.take_length,yag hi',P.enc_len,P.eV,P.fG,P.oG,P.oF]
   refine ⟨⟨by omega,by omega⟩,hi',by omega,lu,?_⟩
   cases d1:decide ((u:Int)∈cut) with
   | false =>
    rw [d1] at hop
    simp -implicitDefEqProofs only [↓rY]
    exact ⟨b0,hN2 _ (i+1,g) ⟨by simp only;omega,hskip i g hi' hI hop⟩ (by simp only;omega) (fin _ _ _ _ rfl rfl rfl rfl rfl)⟩
   | true =>
    simp -implicitDefEqProofs only [↓rY]
    refine ⟨by omega,lv,?_⟩
    cases d2:decide ((v:Int)∈cut) with
    | true =>
     rw [d1,d2] at hop
     simp -implicitDefEqProofs only [rX,↓rY]
     exact ⟨b0,hN2 _ (i+1,g) ⟨by simp only;omega,hskip i g hi' hI hop⟩ (by simp only;omega) (fin _ _ _ _ rfl rfl rfl rfl rfl)⟩
    | false =>
     rw [d1,d2] at hop
     simp -implicitDefEqProofs only [rX,↓rY]
     refine ⟨rfl,?_⟩
     refine hY i g hi' hI hop _ _ _ ⟨rfl,rfl,rfl,rfl,rfl,rfl⟩ ?_
     intro e' g' tl he' hI'
     simp -implicitDefEqProofs only [rX,↓rY,rZ,aA,↓reduceIte,Nat.reduceEqDiff,he'.e25,he'.e43]
     exact ⟨b0,hN2 _ (i+1,g') ⟨by simp only;omega,hI'⟩ (by simp only;omega) (fin _ _ _ _ (by simp -implicitDefEqProofs only [rX,↓reduceIte,reduceCtorEq,he'.e0]) (by simp -implicitDefEqProofs only [rX,↓reduceIte,Nat.reduceEqDiff,he'.e4]) (by simp -implicitDefEqProofs only [rX,↓reduceIte,Nat.reduceEqDiff,he'.e23]) (by simp -implicitDefEqProofs only [rX,↓reduceIte,Nat.reduceEqDiff,he'.e24]) rfl)⟩
  | false =>
   have h2':=of_decide_eq_false h2
   have:i=arcs.length:=by omega
   subst this
   have:=hK g hI
   simp -implicitDefEqProofs only [↓rY]
   exact this
end
set_option maxRecDepth 20000
open Go.Fx.P (Arc)
def sH (arcs:List Arc) (cut:List Int) (i:Nat):Int:=(((arcs.take i).filter (gV cut)).map (·.cap)).sum
def bnd (arcs:List Arc) (cut:List Int):Int:=sH arcs cut arcs.length
theorem Si {arcs:List Arc} {cut:List Int}:sH arcs cut 0=0:=rfl
theorem Sf {arcs:List Arc} {cut:List Int} {i:Nat} (h:i<arcs.length) (ho:gV cut arcs[i]=true):sH arcs cut (i+1)=sH arcs cut i+arcs[i].cap:=by
 unfold sH
 rw [←yaT h,List.filter_append,yaK,List.sum_append,List.filter_cons_of_pos ho]
 simp
theorem Sg {arcs:List Arc} {cut:List Int} {i:Nat} (h:i<arcs.length) (ho:gV cut arcs[i]=false):sH arcs cut (i+1)=sH arcs cut i:=by
 unfold sH
 rw [←yaT h,List.filter_append,yaK,List.sum_append,List.filter_cons_of_neg (by simp [ho])]
 simp
theorem Sh {arcs:List Arc} {cut:List Int} (hc:∀ a∈arcs,0≤a.cap∧a.cap≤1073741824):∀ {i:Nat},i≤arcs.length→0≤sH arcs cut i∧sH arcs cut i≤1073741824*i
 | 0,_=>by rw [Si];omega
 | i+1,h=>by
  have:=Sh (cut:=cut) hc (i:=i) (by omega)
  have:=hc _ (yad (show i<arcs.length by omega))
  cases ho:gV cut arcs[i] with
  | true=>rw [Sf (by omega) ho];omega
  | false=>rw [Sg (by omega) ho];omega
attribute [irreducible] sH
theorem abY (N:Nat) (arcs:List Arc) (cut:List Int):Ok 61 [P.net N arcs,P.li cut] (IsA (.clo 83 [.ptr 0 0 0,.ptr 1 0 0]) [.var [.i N,.ro 4 (arcs.map Arc.enc)],.var [P.li cut]]):=by
 refine ok_of lw61 (by simp) ?_
 unfold c61 P.net P.li
 simp -implicitDefEqProofs only [rX,↓rY,aA,cells?,↓reduceIte,Nat.reduceEqDiff,Nat.reduceAdd,reduceCtorEq,aC,aT,aV,leH,leB,leV,bB,aD,aB,wfB,wfV,wfL,Nat.reduceLeDiff,aK,cO]
abbrev Ze (N:Nat) (arcs:List Arc) (cut:List Int) (s:Int):List Blk:=[.var [.i N,.ro 4 (arcs.map Arc.enc)],.var [.i s],.var [.i N,.ro 4 (arcs.map Arc.enc)],.var [.ro 1 (cut.map P.encI)],.rcd .ready [(5,.ptr 1 0 0)]]
theorem aiE (N:Nat) (arcs:List Arc) (cut:List Int):aaO (Ze N arcs cut) 5 N arcs cut 4 2 3 [4]:=by
 refine ⟨fun g=>rfl,fun g tl=>rfl,fun g tl=>rfl,fun g=>⟨trivial,trivial⟩,fun g tl=>?_,fun g tl=>⟨_,_,rfl⟩⟩
 simp -implicitDefEqProofs only [rX,aB,wfE,wfB,wfV,wfL]
theorem abZ (N:Nat) (arcs:List Arc) (cut:List Int) (hV:P.K.Val N arcs) (hcl:cut.length≤1000000) (hcut:∀ x∈cut,0≤x∧x<N):Ok 54 [P.net N arcs,P.li cut] (Is (.i (bnd arcs cut))):=by
 have hN:=hV.hn
 have hal:=hV.hl
 refine tJ (ok_of lw54 (by simp) ?_)
 unfold c54 P.net
 simp -implicitDefEqProofs only [rX,↓rY,aA,cells?,splice,↓reduceIte,Nat.reduceEqDiff,Nat.reduceAdd,reduceCtorEq,aC,isC,aY,aK]
 refine eW [P.net N arcs,P.li cut] (.clo 83 [.ptr 0 0 0,.ptr 1 0 0]) (.clo 83 [.ptr 2 0 0,.ptr 3 0 0]) [.var [.i N,.ro 4 (arcs.map Arc.enc)],.var [P.li cut]] [.var [.i N,.ro 4 (arcs.map Arc.enc)],.var [P.li cut]] (abY N arcs cut) (by simp [aF,aJ,aW,bP,wkL,wk,wkR,P.net,P.li]) rfl rfl trivial ?_
 simp -implicitDefEqProofs only [rX]
 refine Cw 4 rfl rfl trivial ?_
 refine Ss (h':=Ze N arcs cut 0) ?_ ⟨trivial,trivial⟩ ?_ ?_ (adJ (Inv:=fun i g=>g=sH arcs cut i) (aiE N arcs cut) (by omega) (by omega) hcl hcut (fun x hx=>⟨(hV.ha x hx).1,(hV.ha x hx).2.1⟩) ?_ ?_ ?_ _ Si.symm)
 ·simp -implicitDefEqProofs only [rX,↓reduceIte,Nat.reduceEqDiff,leE,leH,leB,leV,bB]
  repeat' first|rfl|trivial|apply And.intro|exact Or.inr trivial
 ·simp -implicitDefEqProofs only [rX,aB,wfE,wfB,wfV,wfL]
 ·simp -implicitDefEqProofs only [rX,aB,wfV,wfL]
 ·rintro i g hi rfl ho
  exact (Sg hi ho).symm
 ·rintro i g hi rfl ho e bb Z he hZ
  refine Jr 7 rfl rfl rfl ?_
  have hcap:=hV.ha _ (yad hi)
  have hb:=Sh (cut:=cut) (fun a ha=>(hV.ha a ha).2.2.2.1) (Nat.le_of_lt hi)
  unfold c54a0
  simp -implicitDefEqProofs only [rX,↓rY,rZ,↓rW,aA,cells?,splice,↓reduceIte,Nat.reduceEqDiff,Nat.reduceAdd,aC,aY,aQ,lF,P.enc_len,P.fG]
  unfold c54r0
  simp -implicitDefEqProofs only [rX,↓rY,rZ,↓rW,cells?,splice,↓reduceIte,Nat.reduceEqDiff,Nat.reduceAdd,isC,P.sB]
  refine ⟨⟨by simp only [lo];omega,by simp only [Fx.hi];omega⟩,?_⟩
  exact hZ e _ _ he (Sf hi ho).symm
 ·rintro g rfl
  unfold Ze
  simp -implicitDefEqProofs only [rX,↓rY,rZ,↓rW,↓reduceIte,Nat.reduceAdd,aB,wfE,wfB,wfV,wfL]
  exact rK ⟨trivial,rfl⟩
abbrev bI' (l:List Int):V:=.bro 1 (l.map P.encI)
def uC (n:Int) (cut:List Int):Prop:=(∀ x∈cut,0≤x∧x<n∧x≠1)∧cut.Pairwise (·<·)∧cut.head?=some 0
instance (n:Int) (cut:List Int):Decidable (uC n cut):=by unfold uC;infer_instance
def oJ (n:Int) (cut:List Int):Bool:=decide (uC n cut)
structure CuI (n:Int) (cut:List Int) (j:Nat):Prop where
 le:j≤cut.length
 ok:∀ i (h:i<cut.length),i<j→0≤cut[i]∧cut[i]<n∧cut[i]≠1
 ord:∀ i (h:i+1<cut.length),i+1<j→cut[i]<cut[i+1]
theorem CuI.all {n:Int} {cut:List Int} (h:CuI n cut cut.length):(∀ x∈cut,0≤x∧x<n∧x≠1)∧cut.Pairwise (·<·):=by
 refine ⟨fun k hk=>?_,yav.2 fun i j hi hj hij=>?_⟩
 ·obtain ⟨j,hj,rfl⟩:=yai hk
  exact h.ok j hj hj
 ·obtain ⟨d,rfl⟩:∃ d,j=i+1+d:=⟨j-(i+1),by omega⟩
  induction d with
  | zero=>exact h.ord i (by omega) (by omega)
  | succ d ih =>
   have h1:=ih (by omega) (by omega)
   have h2:=h.ord (i+1+d) (by omega) (by omega)
   exact Int.lt_trans h1 h2
theorem Ec {n:Int} {cut:List Int} {j:Nat} (hj:j<cut.length) (h:¬(0≤cut[j]∧cut[j]<n∧cut[j]≠1)):false=oJ n cut:=(decide_eq_false fun q=>h (q.1 _ (yad hj))).symm
theorem Vd {n:Int} {cut:List Int} {j:Nat} (hj:j+1<cut.length) (h:¬cut[j]<cut[j+1]):false=oJ n cut:=(decide_eq_false fun q=>h (yav.1 q.2.1 j (j+1) (by omega) hj (by omega))).symm
theorem Ym (n:Int) (cut:List Int) (hcl:cut.length≤1000000):Ok 53 [.agg [.i n,.any],bI' cut] (Is (.b (oJ n cut))):=by
 refine ok_of lw53 (by simp) ?_
 unfold c53
 simp -implicitDefEqProofs only [rX,↓rY,aA,cells?,↓reduceIte,Nat.reduceEqDiff,reduceCtorEq,aC,aQ,aK]
 intro hml
 refine dB (fun j:Nat=>(⟨[(9,.i j),(8,.i cut.length),(7,bI' cut),(2,.ptr 0 0 0),(1,bI' cut)],[.var [.i n,.any]],1⟩:St)) (CuI n cut) (fun j=>cut.length-j) 0 ⟨yak _,fun i _ h=>by omega,fun i _ h=>by omega⟩ ?_ ?_
 ·exact ⟨by simp -implicitDefEqProofs only [rX,↓reduceIte,Nat.reduceEqDiff,reduceCtorEq,leE];rfl,bT _,trivial,by simp -implicitDefEqProofs only [rX,aB,wfE,wfV],by simp -implicitDefEqProofs only [rX,wfB,wfV,wfL]⟩
 intro j hI N hN
 have hle:=hI.le
 have b0:lo IntKind.i64≤(j:Int)+1∧(j:Int)+1≤Fx.hi IntKind.i64:=⟨by simp only [lo];omega,by simp only [Fx.hi];omega⟩
 simp only [c53l0]
 simp -implicitDefEqProofs only [rX,↓rY,aA,↓reduceIte,Nat.reduceEqDiff,aT,aV,wfV,yac,yaa]
 cases h1:decide ((j:Int)<(cut.length:Int)) with
 | true =>
  have h1':=of_decide_eq_true h1
  have hj:j<cut.length:=by omega
  have fin:∀ (e:Env) (b:Nat),(0≤cut[j]∧cut[j]<n∧cut[j]≠1)→(∀ i (h:i+1<cut.length),i+1=j→cut[i]<cut[i+1])→get e 9=.v (.int .i64 ((j:Int)+1))→get e 8=.i cut.length→get e 7=bI' cut→get e 2=.ptr 0 0 0→get e 1=bI' cut→N ⟨e,[.var [.i n,.any]],b⟩:=by
   intro e b q1 q2 q9 q8 q7 q22 q11
   refine hN _ (j+1) ⟨by omega,fun i hi hlt=>?_,fun i hi hlt=>?_⟩ (by omega) ?_
   ·by_cases e:i=j
    ·subst e;exact q1
    ·exact hI.ok i hi (by omega)
   ·by_cases e:i+1=j
    ·exact q2 i hi e
    ·exact hI.ord i hi (by omega)
   ·simp -implicitDefEqProofs only [rX,leE,leH,leB,leV,bB,aD,aB,wfE,wfB,wfV,wfL,q9,q8,q7,q22,q11]
    rfl
  simp -implicitDefEqProofs only [rX,↓rY,yag hj,P.cP]
  refine ⟨⟨by omega,by omega⟩,hj,?_⟩
  cases d1:decide (cut[j]<0) with
  | true =>
   have d1':=of_decide_eq_true d1
   simp -implicitDefEqProofs only [↓rY]
   exact Ec hj (by omega)
  | false =>
   have d1':=of_decide_eq_false d1
   simp -implicitDefEqProofs only [↓rY]
   cases d2:decide (n≤cut[j]) with
   | true =>
    have d2':=of_decide_eq_true d2
    simp -implicitDefEqProofs only [↓rY]
    exact Ec hj (by omega)
   | false =>
    have d2':=of_decide_eq_false d2
    simp -implicitDefEqProofs only [↓rY]
    cases d3:(cut[j]==1) with
    | true =>
     have d3':=eq_of_beq d3
     simp -implicitDefEqProofs only [↓rY]
     exact Ec hj (by omega)
    | false =>
     have d3':=ne_of_beq_false d3
     simp -implicitDefEqProofs only [↓rY]
     have q1:0≤cut[j]∧cut[j]<n∧cut[j]≠1:=⟨by omega,by omega,d3'⟩
     cases d4:decide (0<(j:Int)) with
     | false =>
      have d4':=of_decide_eq_false d4
      simp -implicitDefEqProofs only [↓rY]
      exact ⟨b0,fin _ _ q1 (fun i h e=>by omega) rfl rfl rfl rfl rfl⟩
     | true =>
      have d4':=of_decide_eq_true d4
      obtain ⟨m,rfl⟩:∃ m,j=m+1:=⟨j-1,by omega⟩
      have hm:m<cut.length:=by omega
      have em:((m+1:Nat):Int)-1=(m:Int):=by omega
      simp -implicitDefEqProofs only [↓rY,yaa,em]
      refine ⟨⟨by simp only [lo];omega,by simp only [Fx.hi];omega⟩,⟨by omega,by omega⟩,hm,?_⟩
      cases d5:decide (cut[m+1]≤cut[m]) with
      | true =>
       have d5':=of_decide_eq_true d5
       simp -implicitDefEqProofs only [↓rY]
       exact Vd hj (by omega)
      | false =>
       have d5':=of_decide_eq_false d5
       simp -implicitDefEqProofs only [↓rY]
       refine ⟨b0,fin _ _ q1 (fun i h e=>?_) rfl rfl rfl rfl rfl⟩
       obtain rfl:i=m:=by omega
       omega
 | false =>
  have h1':=of_decide_eq_false h1
  have:j=cut.length:=by omega
  subst this
  obtain ⟨a1,a2⟩:=hI.all
  simp -implicitDefEqProofs only [↓rY]
  intro _
  cases hc:cut with
  | nil =>
   have:oJ n []=false:=decide_eq_false fun q=>by have:=q.2.2;simp at this
   simp -implicitDefEqProofs only [rX,this]
   exact ⟨fun h=>by simp at h,fun _=>trivial⟩
  | cons x r =>
   rw [hc] at a1 a2
   have hx:oJ n (x::r)=(x==0):=by
    rw [yaR]
    unfold oJ uC
    simp only [decide_eq_true_eq,List.head?_cons,Option.some.injEq,beq_iff_eq]
    exact ⟨fun h=>h.2.2,fun h=>⟨a1,a2,h⟩⟩
   rw [hx]
   have hd:decide ((0:Int)<((x::r).length:Int))=true:=decide_eq_true (by simp)
   simp only [hd,wc]
   simp -implicitDefEqProofs only [rX,↓rY,P.cP]
   exact ⟨⟨by omega,by omega⟩,by simp,rfl⟩
set_option maxRecDepth 20000
open Go.Fx.P (Arc aG)
def hasB (l:List Int) (x:Int):Bool:=decide (x∈l)
structure NoI (l:List Int) (x:Int) (j:Nat):Prop where
 le:j≤l.length
 no:∀ i (h:i<l.length),i<j→l[i]≠x
theorem NoI.next {l:List Int} {x:Int} {j:Nat} (h:NoI l x j) (hj:j<l.length) (hx:l[j]≠x):NoI l x (j+1):=⟨by omega,fun i hi hlt=>by
 by_cases e:i=j
 ·subst e;exact hx
 ·exact h.no i hi (by omega)⟩
theorem adM {l:List Int} {x:Int} {j:Nat} (hj:j<l.length) (h:l[j]=x):hasB l x=true:=decide_eq_true (h▸yad hj)
theorem NoI.none {l:List Int} {x:Int} (h:NoI l x l.length):hasB l x=false:=decide_eq_false fun hm=>by
 obtain ⟨i,hi,rfl⟩:=yai hm
 exact h.no i hi hi rfl
theorem ahA (l:List Int) (x:Int):Ok 78 [bI' l,.i x] (IsQ (fun k:Int=>decide (k≥0)=hasB l x) (fun k=>.i k) (fun _=>[])):=by
 refine ok_of lw78 (by simp) ?_
 unfold c78
 simp -implicitDefEqProofs only [rX,↓rY,aA,↓reduceIte,reduceCtorEq,aQ,aK]
 intro hml
 simp only [maxLen] at hml
 refine dB (fun j:Nat=>(⟨[(8,.i j),(7,.i l.length),(1,.i x),(0,bI' l)],[],0⟩:St)) (NoI l x) (fun j=>l.length-j) 0 ⟨yak _,fun i _ h=>by omega⟩ ?_ ?_
 ·exact ⟨by simp -implicitDefEqProofs only [rX,↓reduceIte,Nat.reduceEqDiff,reduceCtorEq,leE];rfl,bT _,trivial,by simp -implicitDefEqProofs only [rX,wfE,wfV],by simp -implicitDefEqProofs only [wfB]⟩
 intro j hI N hN
 have hle:=hI.le
 simp only [c78l0]
 simp -implicitDefEqProofs only [rX,↓rY,aA,↓reduceIte,Nat.reduceEqDiff,reduceCtorEq,yac,yaa]
 cases h1:decide ((j:Int)<(l.length:Int)) with
 | true =>
  have h1':=of_decide_eq_true h1
  have hj:j<l.length:=by omega
  simp -implicitDefEqProofs only [rX,↓rY,yag hj,P.cP]
  refine ⟨⟨by omega,by omega⟩,hj,?_⟩
  cases h2:(x==l[j]) with
  | true =>
   have h2':=eq_of_beq h2
   simp -implicitDefEqProofs only [↓rY]
   refine dO (Q:=fun k:Int=>decide (k≥0)=hasB l x) (j:Int) (by rw [adM hj h2'.symm];exact decide_eq_true (by omega)) ?_
   simp -implicitDefEqProofs only [rX,↓reduceIte,aT,aV,leH,aD,wfB,wfV]
  | false =>
   have h2':=ne_of_beq_false h2
   simp -implicitDefEqProofs only [↓rY]
   refine ⟨⟨by simp only [lo];omega,by simp only [Fx.hi];omega⟩,hN _ (j+1) (hI.next hj (fun h=>h2' h.symm)) (by omega) ?_⟩
   exact ⟨by simp -implicitDefEqProofs only [rX,↓reduceIte,Nat.reduceEqDiff,reduceCtorEq,leE];rfl,bT _,trivial,by simp -implicitDefEqProofs only [rX,wfE,wfV],by simp -implicitDefEqProofs only [wfB]⟩
 | false =>
  have h1':=of_decide_eq_false h1
  have:j=l.length:=by omega
  subst this
  simp -implicitDefEqProofs only [↓rY]
  refine dO (Q:=fun k:Int=>decide (k≥0)=hasB l x) (-1:Int) (by rw [hI.none];rfl) ?_
  simp -implicitDefEqProofs only [rX,↓reduceIte,aT,aV,leH,aD,wfB,wfV]
theorem ahL (l:List Int) (x:Int):Ok 56 [bI' l,.i x] (Is (.b (hasB l x))):=by
 refine ok_of lw56 (by simp) ?_
 unfold c56
 simp -implicitDefEqProofs only [rX,aA,↓reduceIte,Nat.reduceEqDiff,reduceCtorEq,aK]
 refine sG _ _ _ (ahA l x) (by simp [aF,aJ,aW,bP,wkL,wk,wkR,wkB]) (fun g=>rfl) trivial ?_
 intro k hk
 simp -implicitDefEqProofs only [rX,↓rY,aA,↓reduceIte,aT,aV,wfV,hk]
def f6 (ps:List aG) (p:Int):Option aG:=if 0≤p then (ps[p.toNat]?).filter (fun x=>x.kind==1) else none
theorem Ts {ps:List aG} {p:Int} (h:p<0):f6 ps p=none:=if_neg (by omega)
theorem Tt {ps:List aG} {p:Int} (h:(ps.length:Int)≤p):f6 ps p=none:=by
 unfold f6
 rw [if_pos (by omega),yat (by omega)];rfl
theorem Xw {ps:List aG} {k:Nat} (h:k<ps.length):f6 ps (k:Int)=if ps[k].kind=1 then some ps[k] else none:=by
 unfold f6
 rw [if_pos (by omega),yaa,yag h,Option.filter_some]
 by_cases e:ps[k].kind=1
 ·simp [e]
 ·simp [e]
theorem sY {ps:List aG} {p:Int} {x:aG} (h:f6 ps p=some x):∃ (k:Nat) (hk:k<ps.length),p=k∧ps[k]=x∧x.kind=1:=by
 unfold f6 at h
 split at h
 ·rename_i h0
  obtain ⟨h1,h2⟩:=Option.filter_eq_some_iff.1 h
  obtain ⟨h3,h4⟩:=List.getElem?_eq_some_iff.1 h1
  exact ⟨p.toNat,h3,by omega,h4,by simpa using h2⟩
 ·cases h
def zSp:aG:=⟨0,0,0⟩
theorem Yo (ps:List aG) (rs:List P.Road) (p:Int) (hl:ps.length≤1000):Ok 34 [P.bG ps rs,.i p] (Is (.tup [.agg ((f6 ps p).getD zSp).enc,.b (f6 ps p).isSome])):=by
 refine ok_of lw34 (by simp) ?_
 unfold c34 P.bG P.sps P.rds
 simp -implicitDefEqProofs only [rX,↓rY,aA,cells?,splice,↓reduceIte,Nat.reduceEqDiff,Nat.reduceAdd,reduceCtorEq,aC,bQ,aT,aV,wfV,wfL,isC,yac,aY,aK]
 cases d1:decide (p<0) with
 | true =>
  have d1':=of_decide_eq_true d1
  simp -implicitDefEqProofs only [rX,↓rY,Ts d1',yar]
  rfl
 | false =>
  have d1':=of_decide_eq_false d1
  simp -implicitDefEqProofs only [↓rY]
  intro hml
  cases d2:decide ((ps.length:Int)≤p) with
  | true =>
   have d2':=of_decide_eq_true d2
   simp -implicitDefEqProofs only [rX,↓rY,Tt d2',yar]
   rfl
  | false =>
   have d2':=of_decide_eq_false d2
   obtain ⟨k,rfl⟩:∃ k:Nat,p=k:=⟨p.toNat,by omega⟩
   have hk:k<ps.length:=by omega
   have hs:=Xw hk
   simp -implicitDefEqProofs only [rX,↓rY,yaa,P.mN,P.iL,P.u4,P.nS]
   refine ⟨⟨by omega,by omega⟩,hk,?_⟩
   by_cases e:ps[k].kind=1
   ·rw [if_pos e] at hs
    simp -implicitDefEqProofs only [rX,↓rY,hs,e,bne_self_eq_false,yaz]
    exact ⟨⟨by omega,by omega⟩,hk,⟨trivial,trivial,trivial,trivial⟩⟩
   ·rw [if_neg e] at hs
    have e2:(ps[k].kind != 1)=true:=bne_iff_ne.2 e
    simp -implicitDefEqProofs only [rX,↓rY,hs,e2,yar]
    rfl
set_option maxRecDepth 20000
open Go.Fx.P (Arc aG)
structure CuS (n:Int) (cut:List Int) (j:Nat):Prop where
 le:j≤cut.length
 ok:∀ i (h:i<cut.length),i<j→0≤cut[i]∧cut[i]<n
 ord:∀ i (h:i+1<cut.length),i+1<j→cut[i]<cut[i+1]
theorem CuS.all {n:Int} {cut:List Int} (h:CuS n cut cut.length):oJ n cut=(hasB cut 0&&!hasB cut 1):=by
 have h1:∀ x∈cut,0≤x∧x<n:=fun k hk=>by
  obtain ⟨j,hj,rfl⟩:=yai hk
  exact h.ok j hj hj
 have h2:cut.Pairwise (·<·):=yav.2 fun i j hi hj hij=>by
  obtain ⟨d,rfl⟩:∃ d,j=i+1+d:=⟨j-(i+1),by omega⟩
  induction d with
  | zero=>exact h.ord i (by omega) (by omega)
  | succ d ih=>exact Int.lt_trans (ih (by omega) (by omega)) (h.ord (i+1+d) (by omega) (by omega))
 have e1:oJ n cut=true↔uC n cut:=decide_eq_true_iff
 have e2:(hasB cut 0&&!hasB cut 1)=true↔(0:Int)∈cut∧¬(1:Int)∈cut:=by
  unfold hasB
  rw [Bool.and_eq_true,Bool.not_eq_true',decide_eq_false_iff_not,decide_eq_true_eq]
 rw [yaR,e1,e2]
 constructor
 ·rintro ⟨a,b,c⟩
  exact ⟨List.mem_of_mem_head? c,fun h=>(a 1 h).2.2 rfl⟩
 ·rintro ⟨a,b⟩
  refine ⟨fun x hx=>⟨(h1 x hx).1,(h1 x hx).2,fun e=>b (e▸hx)⟩,h2,?_⟩
  cases cut with
  | nil=>simp at a
  | cons x r =>
   rw [List.head?_cons]
   rcases yaL.1 a with e|e
   ·rw [←e]
   ·have:=(List.pairwise_cons.1 h2).1 0 e
    have:=(h1 x List.mem_cons_self).1
    omega
structure fQ (ps:List aG) (rs:List P.Road):Prop where
 ok:P.fI ps rs=0
 pl:ps.length≤6
 rl:rs.length≤20
theorem fQ.net {ps:List aG} {rs:List P.Road} (h:fQ ps rs):P.K.Val (P.nN ps) (P.cC ps rs):=P.Dc h.ok
theorem fQ.e25 {ps:List aG} {rs:List P.Road} (h:fQ ps rs):Ok 25 [P.bG ps rs] (Is (P.net (P.nN ps) (P.cC ps rs))):=by
 have:=P.ahU ps rs (by have:=h.pl;omega) (by have:=h.rl;omega) (P.g0 h.ok).2.2
 rw [P.Ku] at this
 exact this
theorem fQ.e51 {ps:List aG} {rs:List P.Road} (h:fQ ps rs):Ok 51 [P.bG ps rs] (Is (P.net (P.nN ps) (P.cC ps rs))):=by
 have:=P.Yn ps rs (by have:=h.pl;omega) (by have:=h.rl;omega) (P.g0 h.ok).2.2
 rw [P.Ku] at this
 exact this
theorem aZ {h:List Blk} {g:Nat→Option Nat} {ps:List aG} {rs:List P.Road}:aJ h g (.agg [P.sps ps,P.rds rs])∧wk (P.bG ps rs) (bP h g (.agg [P.sps ps,P.rds rs])):=⟨⟨trivial,trivial,trivial⟩,⟨⟨rfl,rfl⟩,⟨rfl,rfl⟩,trivial⟩⟩
theorem ahY (ps:List aG) (rs:List P.Road) (cut:List Int) (hF:fQ ps rs) (hcl:cut.length≤1000000):Ok 18 [P.bG ps rs,P.li cut] (Is (.tup (if oJ (P.nN ps) cut then [.i (bnd (P.cC ps rs) cut),.i 0] else [.i 0,.i 110]))):=by
 refine ok_of lw18 (by simp) ?_
 unfold c18 P.bG
 simp -implicitDefEqProofs only [rX,↓rY,aA,cells?,↓reduceIte,Nat.reduceEqDiff,Nat.reduceAdd,aC,aK]
 refine aE hF.e51 ⟨⟨aZ.1,trivial⟩,aZ.2,trivial⟩ rfl trivial ?_
 have hV:=hF.net
 unfold P.net
 simp -implicitDefEqProofs only [rX,↓rY,aA,cells?,splice,↓reduceIte,Nat.reduceEqDiff,Nat.reduceAdd,reduceCtorEq,aC,isC,aY]
 refine aE (Ym (P.nN ps) cut hcl) (by simp [aF,aJ,aW,bP,wkL,wk,wkR,wkB,P.li]) rfl trivial ?_
 cases hc:oJ (P.nN ps) cut with
 | false=>simp -implicitDefEqProofs only [rX,↓rY,aA,↓reduceIte,Nat.reduceEqDiff,Nat.reduceAdd,aT,aV,wfV,wfL]
 | true =>
  have hcP:uC (P.nN ps) cut:=of_decide_eq_true hc
  simp -implicitDefEqProofs only [rX,↓rY,↓reduceIte,Nat.reduceEqDiff,Nat.reduceAdd,reduceCtorEq]
  refine aE (abZ (P.nN ps) (P.cC ps rs) cut hV hcl (fun x hx=>⟨(hcP.1 x hx).1,(hcP.1 x hx).2.1⟩)) (by simp [aF,aJ,aW,bP,wkL,wk,wkR,wkB,P.net,P.li]) rfl trivial ?_
  simp -implicitDefEqProofs only [rX,aA,↓reduceIte,Nat.reduceEqDiff,aT,aV,wfV,wfL]
set_option maxRecDepth 20000
open Go.Fx.P (Arc aG)
def i4 (ps:List aG) (rs:List P.Road) (r:Rf):Bool:=oJ (P.nN ps) r.cut&&(bnd (P.cC ps rs) r.cut==r.sent)&&decide (r.sent<P.dem ps)&&hasB r.cut (2+2*r.place)
theorem fQ.e55 {ps:List aG} {rs:List P.Road} (h:fQ ps rs):Ok 55 [P.bG ps rs] (Is (.i (P.dem ps))):=P.Yl ps rs (by have:=h.pl;omega) (P.g0 h.ok).2.1
theorem fQ.e28 {ps:List aG} {rs:List P.Road} (h:fQ ps rs):Ok 28 [P.bG ps rs] (Is (.i (P.dem ps))):=P.ahT ps rs (by have:=h.pl;omega) (P.g0 h.ok).2.1
theorem Ez {r:Rf}:r.enc.all isC=true:=by unfold Rf.enc P.li;simp [isC,isD,Lx]
set_option maxHeartbeats 1000000 in
theorem ahM (ps:List aG) (rs:List P.Road) (r:Rf) (hF:fQ ps rs) (hcl:r.cut.length≤1000000) (hp:0≤r.place∧r.place≤1000) :
  OkN Tryz.prog 52 [.ptr 0 0 0,.ptr 1 0 0,.ptr 2 0 0] [.var [.i (P.nN ps),.ro 4 ((P.cC ps rs).map Arc.enc)],.var r.enc,.var [P.sps ps,P.rds rs]] [] (IsA (.b (i4 ps rs r)) [.var [.i (P.nN ps),.ro 4 ((P.cC ps rs).map Arc.enc)],.var r.enc,.var [P.sps ps,P.rds rs]]):=by
 refine eL pol [0,1,2] lw52 (by simp) ⟨trivial,trivial,trivial,trivial⟩ (by intro k hk _;simp at hk ⊢;omega) ?_
 have hV:=hF.net
 unfold c52 Rf.enc i4 P.li P.sps P.rds
 have ul:∀ l:Bs,bB (us l) (us l)=True:=fun l=>eq_true aaX
 simp -implicitDefEqProofs only [rX,↓rY,rdK,aA,↓reduceIte,Nat.reduceEqDiff,Nat.reduceAdd,reduceCtorEq,aQ,aK]
 refine aE (Ym (P.nN ps) r.cut hcl) (by simp [aF,aJ,aW,bP,wkL,wk,wkR,wkB,P.li]) rfl ⟨trivial,trivial,trivial,trivial⟩ ?_
 cases hc:oJ (P.nN ps) r.cut with
 | false =>
  simp -implicitDefEqProofs only [rX,↓rY,rdK,aA,↓reduceIte,Nat.reduceEqDiff,Nat.reduceAdd,reduceCtorEq,aT,aV,leH,leB,leV,bB,aD,aB,wfB,wfV,wfL,yaU,cO,ul,gT]
 | true =>
  have hcP:uC (P.nN ps) r.cut:=of_decide_eq_true hc
  simp -implicitDefEqProofs only [rX,↓rY,rdK,↓reduceIte,Nat.reduceEqDiff,Nat.reduceAdd,reduceCtorEq,aQ]
  refine aE (abZ (P.nN ps) (P.cC ps rs) r.cut hV hcl (fun x hx=>⟨(hcP.1 x hx).1,(hcP.1 x hx).2.1⟩)) (by simp [aF,aJ,aW,bP,wkL,wk,wkR,wkB,P.net,P.li]) rfl ⟨trivial,trivial,trivial,trivial⟩ ?_
  cases hb:(bnd (P.cC ps rs) r.cut==r.sent) with
  | false =>
   simp -implicitDefEqProofs only [rX,↓rY,rdK,aA,↓reduceIte,Nat.reduceEqDiff,Nat.reduceAdd,reduceCtorEq,aT,aV,leH,leB,leV,bB,aD,aB,wfB,wfV,wfL,yaU,yaV,cO,hb,ul,gT]
  | true =>
   simp -implicitDefEqProofs only [rX,↓rY,rdK,↓reduceIte,Nat.reduceEqDiff,Nat.reduceAdd,reduceCtorEq,aQ,hb]
   refine aE hF.e55 ⟨⟨aZ.1,trivial⟩,aZ.2,trivial⟩ rfl ⟨trivial,trivial,trivial,trivial⟩ ?_
   cases hd:decide (r.sent<P.dem ps) with
   | false =>
    simp -implicitDefEqProofs only [rX,↓rY,rdK,aA,↓reduceIte,Nat.reduceEqDiff,Nat.reduceAdd,aT,aV,leH,leB,leV,bB,aD,aB,wfB,wfV,wfL,yaU,yaV,cO,hd,ul,gT]
   | true =>
    simp -implicitDefEqProofs only [rX,↓rY,rdK,aA,↓reduceIte,Nat.reduceEqDiff,reduceCtorEq,aQ,hd]
    refine ⟨⟨by simp only [lo];omega,by simp only [Fx.hi];omega⟩,⟨by simp only [lo];omega,by simp only [Fx.hi];omega⟩,?_⟩
    refine aE (ahL r.cut (2+2*r.place)) (by simp [aF,aJ,aW,bP,wkL,wk,wkR,wkB,P.li]) rfl ⟨trivial,trivial,trivial,trivial⟩ ?_
    simp -implicitDefEqProofs only [rX,↓rY,↓reduceIte,Nat.reduceEqDiff,Nat.reduceAdd,aT,aV,leH,leB,leV,bB,aD,aB,wfB,wfV,wfL,yaV,cO,ul,gT]
def tV (ps:List aG) (rs:List P.Road) (r:Rf):Int :=
 match f6 ps r.place with
 | none=>5
 | some x=>if r.n<0∨x.cap≤r.n∨Gc r.win=false then 1 else if i4 ps rs r then 0 else 110
set_option maxHeartbeats 1000000 in
theorem Yp (ps:List aG) (rs:List P.Road) (r:Rf) (hF:fQ ps rs) (hcl:r.cut.length≤1000000):Ok 14 [P.bG ps rs,.agg r.enc] (Is (.i (tV ps rs r))):=by
 refine ok_of lw14 (by simp) ?_
 have o34:=Yo ps rs r.place (by have:=hF.pl;omega)
 unfold c14 P.bG Rf.enc
 simp -implicitDefEqProofs only [rX,↓rY,aA,cells?,↓reduceIte,Nat.reduceEqDiff,Nat.reduceAdd,reduceCtorEq,aC,aK]
 unfold tV
 cases hs:f6 ps r.place with
 | none =>
  rw [hs] at o34
  refine aE o34 ⟨⟨aZ.1,trivial,trivial⟩,aZ.2,rfl,trivial⟩ rfl trivial ?_
  simp -implicitDefEqProofs only [rX,↓rY,aA,cells?,splice,↓reduceIte,Nat.reduceEqDiff,Nat.reduceAdd,aC,aT,aV,wfV,isC,aY,P.aG.enc,zSp,yar]
 | some x =>
  rw [hs] at o34
  obtain ⟨k,hk,hpk,hx,hkind⟩:=sY hs
  refine aE o34 ⟨⟨aZ.1,trivial,trivial⟩,aZ.2,rfl,trivial⟩ rfl trivial ?_
  simp -implicitDefEqProofs only [rX,↓rY,aA,cells?,splice,↓reduceIte,Nat.reduceEqDiff,Nat.reduceAdd,aC,aT,aV,wfV,isC,aY,P.aG.enc,yaz]
  cases d1:decide (r.n<0) with
  | true =>
   have d1':=of_decide_eq_true d1
   simp -implicitDefEqProofs only [↓rY]
   rw [if_pos (.inl d1')]
  | false =>
   have d1':=of_decide_eq_false d1
   simp -implicitDefEqProofs only [↓rY]
   cases d2:decide (x.cap≤r.n) with
   | true =>
    have d2':=of_decide_eq_true d2
    simp -implicitDefEqProofs only [↓rY]
    rw [if_pos (.inr (.inl d2'))]
   | false =>
    have d2':=of_decide_eq_false d2
    simp -implicitDefEqProofs only [↓rY]
    refine aE (acD r.win) ⟨⟨trivial,trivial⟩,rfl,trivial⟩ rfl trivial ?_
    cases d3:Gc r.win with
    | false =>
     simp -implicitDefEqProofs only [rX,↓rY,aA,↓reduceIte,Nat.reduceEqDiff,Nat.reduceAdd,aT,aV,wfV]
     rw [if_pos (.inr (.inr trivial))]
    | true =>
     rw [if_neg (by simp;omega)]
     simp -implicitDefEqProofs only [rX,↓rY,↓reduceIte,Nat.reduceEqDiff,Nat.reduceAdd]
     refine aE hF.e51 ⟨⟨aZ.1,trivial⟩,aZ.2,trivial⟩ rfl trivial ?_
     unfold P.net
     simp -implicitDefEqProofs only [rX,↓rY,aA,cells?,splice,↓reduceIte,Nat.reduceEqDiff,Nat.reduceAdd,aC,isC,aY]
     refine cX [3,1,0] [.ptr 0 0 0,.ptr 1 0 0,.ptr 2 0 0] (.b (i4 ps rs r)) (.b (i4 ps rs r)) [.var [.i (P.nN ps),.ro 4 ((P.cC ps rs).map Arc.enc)],.var r.enc,.var [P.sps ps,P.rds rs]] [.var [.i (P.nN ps),.ro 4 ((P.cC ps rs).map Arc.enc)],.var r.enc,.var [P.sps ps,P.rds rs]] [.var [P.sps ps,P.rds rs],.var r.enc,.var [.i x.kind,.i x.num,.i x.cap],.var [.i (P.nN ps),.ro 4 ((P.cC ps rs).map Arc.enc)]]
      (ahM ps rs r hF hcl (by have:=hF.pl;omega)) (by simp [aY]) (by simp [blk,cA,cJ,ren,mI,P.li,P.sps,P.rds,Rf.enc]) (by simp [aF,aJ,aW,bP,wkL,wk,wkR,pos]) (by simp) (by simp [bH,cA,cJ,ren,mI,P.li,P.sps,P.rds,Rf.enc]) rfl trivial ?_
     cases hq:i4 ps rs r with
     | false=>simp -implicitDefEqProofs only [rX,↓rY,aA,↓reduceIte,Nat.reduceAdd,aT,aV,wfV]
     | true=>simp -implicitDefEqProofs only [rX,↓rY,aA,↓reduceIte,Nat.reduceAdd,aT,aV,wfV]
set_option maxRecDepth 20000
open Go.Fx.P (Arc aG)
theorem Ke {k:Ky} {r:Rf} (hk:k.sec.length≤1000) (hr:r.Ok):aaL k (partsOf r):=by
 have h1:=Ql hr.n7 (by simp)
 have h2:=Ql hr.cut (by have:=hr.len;omega)
 have h3:=hr.len
 simp only [yaD,List.length_nil] at h1
 have t1:=Hp (t:=k.sec) (by omega)
 have t2:=Hp (t:=lB [r.place,r.n,r.win,r.sent,r.lo,r.hi,r.serial]) (by omega)
 have t3:=Hp (t:=lB r.cut) (by omega)
 refine ⟨?_,by simp [partsOf]⟩
 unfold inB partsOf
 simp only [yaD,yaq,List.map_cons,List.map_nil,List.cons_append,List.nil_append,List.flatten_cons,List.flatten_nil,List.length_nil]
 omega
def Vg (ring:List Ky) (ps:List aG) (r:Rf):Int :=
 match f6 ps r.place with
 | none=>5
 | some x=>Rz ring (1000+x.num) r.serial 410 (partsOf r) r.sg r.lo r.hi
theorem Nh {ps:List aG} {rs:List P.Road} (h:P.fI ps rs=0):∀ i (hi:i<ps.length),P.j0 ps[i]:=by
 unfold P.fI at h
 by_cases h1:100<ps.length∨1500<rs.length
 ·rw [if_pos h1] at h;cases h
 rw [if_neg h1] at h
 by_cases h2:P.iE (P.eAt ps) ps.length 0≠0
 ·rw [if_pos h2] at h;exact absurd h h2
 simp only [ne_eq,Classical.not_not] at h2
 have key:∀ n i,i≤n→i<ps.length→P.eAt ps i=0:=by
  intro n
  induction n with
  | zero =>
   intro i hi hil
   by_cases h4:P.eAt ps i=0
   ·exact h4
   ·exact absurd (P.iR (n:=ps.length) (k:=0) (by omega) (by omega) (fun j _ hj=>by omega) h4) (by rw [h2];exact fun h5=>h4 h5.symm)
  | succ n ih =>
   intro i hi hil
   by_cases h4:P.eAt ps i=0
   ·exact h4
   ·exact absurd (P.iR (n:=ps.length) (k:=0) (by omega) (by omega) (fun j _ hj=>ih j (by omega) (by omega)) h4) (by rw [h2];exact fun h5=>h4 h5.symm)
 intro i hi
 have:=key i i (yan _) hi
 rw [P.Eb hi] at this
 by_cases h4:P.fT ps[i]=false
 ·rw [if_pos h4] at this;cases this
 ·simpa [P.fT] using h4
theorem Et {ps:List aG} {rs:List P.Road} (hF:fQ ps rs) {p:Int} {x:aG} (h:f6 ps p=some x):0≤x.num∧x.num<64:=by
 obtain ⟨k,hk,_,rfl,hkind⟩:=sY h
 have h1:=Nh hF.ok k hk
 unfold P.j0 at h1
 omega
theorem fF {h:List Blk} {g:Nat→Option Nat} {r:Rf} {s:List V} (hs:s=r.enc):aJ h g (.agg s)∧wk (.agg r.enc) (bP h g (.agg s)):=by
 subst hs
 exact ⟨⟨trivial,trivial,trivial,trivial,trivial,trivial,trivial,trivial,(dK _ oO).1⟩,⟨rfl,rfl,rfl,rfl,⟨rfl,rfl⟩,rfl,rfl,rfl,(dK _ oO).2⟩⟩
theorem Ub {r:Rf} (h:r.sg.length=16):yaj 24 (.i r.place::.i r.n::.i r.win::.i r.sent::P.li r.cut::.i r.lo::.i r.hi::.i r.serial::us r.sg)=r.enc:=yao (by simp [oY,h])
set_option maxHeartbeats 1000000 in
theorem ahZ (ring:List Ky) (ps:List aG) (rs:List P.Road) (r:Rf) (hF:fQ ps rs) (hr:r.Ok) (hR:Ad ring) (hl:ring.length≤1000000) (hsg:r.sg.length=16):Ok 16 [bK ring,P.bG ps rs,.agg r.enc] (Is (.i (Vg ring ps r))):=by
 refine ok_of lw16 (by simp) ?_
 have o34:=Yo ps rs r.place (by have:=hF.pl;omega)
 have hser:=hr.n7 r.serial (by simp)
 obtain ⟨u1,u2,u3⟩:=Of hsg
 unfold c16 P.bG Rf.enc
 simp -implicitDefEqProofs only [rX,↓rY,aA,cells?,↓reduceIte,Nat.reduceEqDiff,Nat.reduceAdd,reduceCtorEq,aC,aK]
 unfold Vg
 cases hs:f6 ps r.place with
 | none =>
  rw [hs] at o34
  refine aE o34 ⟨⟨aZ.1,trivial,trivial⟩,aZ.2,rfl,trivial⟩ rfl trivial ?_
  simp -implicitDefEqProofs only [rX,↓rY,aA,cells?,splice,↓reduceIte,Nat.reduceEqDiff,Nat.reduceAdd,aC,aT,aV,wfV,isC,aY,P.aG.enc,zSp,yar]
 | some x =>
  rw [hs] at o34
  have hnum:=Et hF hs
  have o58:=ahK ring (1000+x.num) r.serial 410 (partsOf r) r.sg r.lo r.hi hR hl ⟨by omega,hser⟩ hsg (fun k hk=>Ke (by have:=(hR.ok k hk).2.2.1;omega) hr)
  refine aE o34 ⟨⟨aZ.1,trivial,trivial⟩,aZ.2,rfl,trivial⟩ rfl trivial ?_
  simp -implicitDefEqProofs only [rX,↓rY,rdK,aA,cells?,splice,↓reduceIte,Nat.reduceEqDiff,Nat.reduceAdd,reduceCtorEq,aC,isC,Nat.reduceLeDiff,aY,aQ,P.aG.enc,yaz,oY,u2,hsg,Ub hsg]
  refine ⟨⟨by simp only [lo];omega,by simp only [Fx.hi];omega⟩,?_⟩
  refine aE (acA r hr) ⟨⟨(fF rfl).1,trivial⟩,(fF rfl).2,trivial⟩ rfl trivial ?_
  simp -implicitDefEqProofs only [rX,aA,↓reduceIte,Nat.reduceEqDiff,aQ]
  refine aE o58 ⟨⟨trivial,trivial,trivial,trivial,trivial,(dK _ oO).1,⟨trivial,trivial,trivial⟩,trivial⟩,⟨rfl,rfl⟩,rfl,rfl,rfl,⟨rfl,rfl⟩,(dK _ oO).2,⟨rfl,rfl,trivial⟩,trivial⟩ rfl trivial ?_
  simp -implicitDefEqProofs only [rX,↓reduceIte,aT,aV,wfV]
set_option maxRecDepth 20000
open Go.Fx.P (Arc aG)
theorem ahN (l:List Int) (hl:l.length≤1000000):Ok 39 [P.li l] (Is (P.li l)):=by
 refine tJ (ok_of lw39 (by simp) ?_)
 unfold c39 P.li
 simp -implicitDefEqProofs only [rX,↓rY,aA,↓reduceIte,Nat.reduceEqDiff,reduceCtorEq,aC,cI,bU,bD,kill,St.kill,aY,aQ,aK]
 refine ⟨fun _=>⟨.inr trivial,by omega,Ig rfl rfl (by simp)⟩,fun he=>⟨?_,.inr trivial,by omega,Ig rfl rfl (by simp)⟩⟩
 rw [he]
 exact Ud rfl
theorem u16:us z16=[.v (.int .u8 0),.v (.int .u8 0),.v (.int .u8 0),.v (.int .u8 0),.v (.int .u8 0),.v (.int .u8 0),.v (.int .u8 0),.v (.int .u8 0),.v (.int .u8 0),.v (.int .u8 0),.v (.int .u8 0),.v (.int .u8 0),.v (.int .u8 0),.v (.int .u8 0),.v (.int .u8 0),.v (.int .u8 0)]:=by
 unfold us z16;rfl
theorem afS {x0 x1 x2 x3 x4 x5 x6 x7 x8 x9 x10 x11 x12 x13 x14 x15 x16 x17 x18 x19 x20 x21 x22 x23:V}:yaj 24 [x0,x1,x2,x3,x4,x5,x6,x7,x8,x9,x10,x11,x12,x13,x14,x15,x16,x17,x18,x19,x20,x21,x22,x23]=[x0,x1,x2,x3,x4,x5,x6,x7,x8,x9,x10,x11,x12,x13,x14,x15,x16,x17,x18,x19,x20,x21,x22,x23]:=rfl
theorem At {x0 x1 x2 x3 x4 x5 x6 x7 x8 x9 x10 x11 x12 x13 x14 x15 x16 x17 x18 x19 x20 x21 x22 x23:V} {r:List V}:List.drop 24 (x0::x1::x2::x3::x4::x5::x6::x7::x8::x9::x10::x11::x12::x13::x14::x15::x16::x17::x18::x19::x20::x21::x22::x23::r)=r:=rfl
theorem Kb {M:Nat→Bool} {h:List Blk}:∀ {l:List V},(∀ x∈l,∃ u,x=.v u)→wkL l (gvL M h l)
 | [],_=>trivial
 | x::r,q=>by
  obtain ⟨u,rfl⟩:=q x List.mem_cons_self
  exact ⟨rfl,Kb fun y hy=>q y (List.mem_cons_of_mem _ hy)⟩
def zRf:Rf:=⟨0,0,0,0,[],0,0,0,z16⟩
def rf0 (k:Ky) (fr:P.Fr) (place n w a b:Int):Rf:=⟨place,n,w,fr.sent,fr.cut,a,b,k.serial,z16⟩
def rf1 (k:Ky) (fr:P.Fr) (place n w a b:Int):Rf:={ rf0 k fr place n w a b with sg:=mP k 410 (partsOf (rf0 k fr place n w a b)) }
theorem j5 {h:List Blk} {g:Nat→Option Nat} {fr:P.Fr}:aJ h g (.agg [.i fr.sent,.i fr.cost,P.li fr.flow,P.li fr.price,P.li fr.cut])∧wk fr.enc (bP h g (.agg [.i fr.sent,.i fr.cost,P.li fr.flow,P.li fr.price,P.li fr.cut])):=⟨⟨trivial,trivial,trivial,trivial,trivial,trivial⟩,⟨rfl,rfl,⟨rfl,rfl⟩,⟨rfl,rfl⟩,⟨rfl,rfl⟩,trivial⟩⟩
theorem Vo {ps:List aG} {rs:List P.Road} {fr:P.Fr} (hF:fQ ps rs) (h:P.sL ps rs fr=0):P.K.OkAc (P.nN ps) (P.cC ps rs) 0 1 (P.dem ps) fr∧ps.length≤fr.flow.length:=by
 have hc:=hF.ok
 unfold P.sL P.K.accI at h
 rw [if_neg (by simp [hc])] at h
 by_cases hA:P.K.OkAc (P.nN ps) (P.cC ps rs) 0 1 (P.dem ps) fr
 ·refine ⟨hA,?_⟩
  rw [hA.fl.hl]
  unfold P.cC P.nA4 P.nA3
  simp only [yaq,P.vN]
  omega
 ·rw [if_neg hA] at h;cases h
def vE (k:Ky) (ps:List aG) (place n w a b:Int):Prop:=∃ x,f6 ps place=some x∧KyP k∧k.party=1000+x.num∧PeP a b∧Gc w=true∧0≤n∧n<x.cap
open Classical in
noncomputable def mkE (k:Ky) (ps:List aG) (rs:List P.Road) (fr:P.Fr) (place n w a b:Int):Int :=
 if vE k ps place n w a b then if P.sL ps rs fr=0 then if n<fr.flow.getD place.toNat 0 then 4 else 0 else 110 else 1
open Classical in
noncomputable def mkR (k:Ky) (ps:List aG) (rs:List P.Road) (fr:P.Fr) (place n w a b:Int):Rf:=if mkE k ps rs fr place n w a b=0 then rf1 k fr place n w a b else zRf
theorem Ui {k:Ky} {ps:List aG} {rs:List P.Road} {fr:P.Fr} {place n w a b:Int} (h:¬vE k ps place n w a b):mkE k ps rs fr place n w a b=1∧mkR k ps rs fr place n w a b=zRf:=by
 have e:mkE k ps rs fr place n w a b=1:=by unfold mkE;rw [if_neg h]
 exact ⟨e,by unfold mkR;rw [e,if_neg (by decide)]⟩
theorem Qb {k:Ky} {ps:List aG} {rs:List P.Road} {fr:P.Fr} {place n w a b:Int} (h:vE k ps place n w a b) (h2:P.sL ps rs fr≠0):mkE k ps rs fr place n w a b=110∧mkR k ps rs fr place n w a b=zRf:=by
 have e:mkE k ps rs fr place n w a b=110:=by unfold mkE;rw [if_pos h,if_neg h2]
 exact ⟨e,by unfold mkR;rw [e,if_neg (by decide)]⟩
theorem adB {k:Ky} {ps:List aG} {rs:List P.Road} {fr:P.Fr} {place n w a b:Int} (h:vE k ps place n w a b) (h2:P.sL ps rs fr=0) (h3:n<fr.flow.getD place.toNat 0):mkE k ps rs fr place n w a b=4∧mkR k ps rs fr place n w a b=zRf:=by
 have e:mkE k ps rs fr place n w a b=4:=by unfold mkE;rw [if_pos h,if_pos h2,if_pos h3]
 exact ⟨e,by unfold mkR;rw [e,if_neg (by decide)]⟩
theorem Yw {k:Ky} {ps:List aG} {rs:List P.Road} {fr:P.Fr} {place n w a b:Int} (h:vE k ps place n w a b) (h2:P.sL ps rs fr=0) (h3:¬n<fr.flow.getD place.toNat 0):mkE k ps rs fr place n w a b=0∧mkR k ps rs fr place n w a b=rf1 k fr place n w a b:=by
 have e:mkE k ps rs fr place n w a b=0:=by unfold mkE;rw [if_pos h,if_pos h2,if_neg h3]
 exact ⟨e,by unfold mkR;rw [e,if_pos rfl]⟩
set_option maxHeartbeats 4000000 in
theorem Yr (k:Ky) (ps:List aG) (rs:List P.Road) (fr:P.Fr) (place n w a b:Int) (hF:fQ ps rs) (hr:(rf0 k fr place n w a b).Ok) (hsec:k.sec.length≤1000) :
  Ok 10 [.agg k.enc,P.bG ps rs,fr.enc,.i place,.i n,.i w,.agg [.i a,.i b]] (Is (.tup [.agg (mkR k ps rs fr place n w a b).enc,.i (mkE k ps rs fr place n w a b)])):=by
 refine tJ (ok_of lw10 (by simp) ?_)
 have o34:=Yo ps rs place (by have:=hF.pl;omega)
 unfold c10 P.bG Ky.enc P.Fr.enc
 simp -implicitDefEqProofs only [rX,↓rY,aA,cells?,↓reduceIte,Nat.reduceEqDiff,Nat.reduceAdd,reduceCtorEq,aC,aK]
 have zret:∀ (e:Env) (h:List Blk) (b:Nat) (E:Int),get e 14=.ptr 4 0 0→h[4]?=some (.var [.i 0,.i 0,.i 0,.i 0,.v (.slice none 0 0),.i 0,.i 0,.i 0,.v (.int .u8 0),.v (.int .u8 0),.v (.int .u8 0),.v (.int .u8 0),.v (.int .u8 0),.v (.int .u8 0),.v (.int .u8 0),.v (.int .u8 0),.v (.int .u8 0),.v (.int .u8 0),.v (.int .u8 0),.v (.int .u8 0),.v (.int .u8 0),.v (.int .u8 0),.v (.int .u8 0),.v (.int .u8 0)])→get e 15=.i E →
   eS [] 0 [.cell 14 (some 24),.tmp 15] (Gv (.tup [.agg zRf.enc,.i E])) ⟨e,h,b⟩:=by
  intro e h b E h1 h2 h3
  refine rK ?_
  simp -implicitDefEqProofs only [rX,↓rY,Nat.reduceAdd,aT,aV,wfV,wfL,h1,h2,h3,zRf,Rf.enc,P.li,u16]
  exact ⟨by simp [wfL,wfV],by simp [Gv,gvV,gvL,wk,wkL,wkR]⟩
 cases hs:f6 ps place with
 | none =>
  rw [hs] at o34
  have hno:¬vE k ps place n w a b:=by rintro ⟨x,hx,_⟩;rw [hs] at hx;cases hx
  rw [(Ui hno).1,(Ui hno).2]
  refine aE o34 ⟨⟨aZ.1,trivial,trivial⟩,aZ.2,rfl,trivial⟩ rfl trivial ?_
  simp -implicitDefEqProofs only [rX,↓rY,aA,cells?,splice,↓reduceIte,Nat.reduceEqDiff,Nat.reduceAdd,aC,bQ,isC,aY,P.aG.enc,zSp,yar]
  exact zret _ _ _ 1 rfl rfl rfl
 | some x =>
  rw [hs] at o34
  refine aE o34 ⟨⟨aZ.1,trivial,trivial⟩,aZ.2,rfl,trivial⟩ rfl trivial ?_
  simp -implicitDefEqProofs only [rX,↓rY,aA,cells?,splice,↓reduceIte,Nat.reduceEqDiff,Nat.reduceAdd,aC,isC,aY,P.aG.enc,yaz]
  have bad:∀ (e:Env) (h:List Blk) (b':Nat),¬vE k ps place n w a b→get e 14=.ptr 4 0 0→h[4]?=some (.var [.i 0,.i 0,.i 0,.i 0,.v (.slice none 0 0),.i 0,.i 0,.i 0,.v (.int .u8 0),.v (.int .u8 0),.v (.int .u8 0),.v (.int .u8 0),.v (.int .u8 0),.v (.int .u8 0),.v (.int .u8 0),.v (.int .u8 0),.v (.int .u8 0),.v (.int .u8 0),.v (.int .u8 0),.v (.int .u8 0),.v (.int .u8 0),.v (.int .u8 0),.v (.int .u8 0),.v (.int .u8 0)])→get e 15=.i 1 →
    eS [] 0 [.cell 14 (some 24),.tmp 15] (Gv (.tup [.agg (mkR k ps rs fr place n w a b).enc,.i (mkE k ps rs fr place n w a b)])) ⟨e,h,b'⟩:=by
   intro e h b' hno h1 h2 h3
   rw [(Ui hno).1,(Ui hno).2]
   exact zret e h b' 1 h1 h2 h3
  have hA:∀ {q:Prop},(vE k ps place n w a b→q)→¬q→¬vE k ps place n w a b:=fun f g h=>g (f h)
  have arg:vE k ps place n w a b→KyP k∧k.party=1000+x.num∧PeP a b∧Gc w=true∧0≤n∧n<x.cap:=by
   rintro ⟨y,hy,q⟩
   rw [hs] at hy;cases hy;exact q
  have hnum:=Et hF hs
  obtain ⟨pk,hpk,rfl,hpx,hkind⟩:=sY hs
  refine aE (ahP k) ⟨⟨gR.1,trivial⟩,gR.2,trivial⟩ rfl trivial ?_
  cases d1:kyB k with
  | false =>
   have d1':=of_decide_eq_false d1
   simp -implicitDefEqProofs only [rX,↓rY,aA,cells?,splice,↓reduceIte,Nat.reduceEqDiff,Nat.reduceAdd,bQ,isC,aY]
   exact bad _ _ _ (hA arg fun q=>d1' q.1) rfl rfl rfl
  | true =>
  have d1':KyP k:=of_decide_eq_true d1
  simp -implicitDefEqProofs only [rX,↓rY,aA,cells?,splice,↓reduceIte,Nat.reduceEqDiff,Nat.reduceAdd,bQ,isC,aY]
  refine ⟨⟨by simp only [lo];omega,by simp only [Fx.hi];omega⟩,?_⟩
  cases d2:(k.party != 1000+x.num) with
  | true =>
   have d2':=bne_iff_ne.1 d2
   simp -implicitDefEqProofs only [↓rY]
   exact bad _ _ _ (hA arg fun q=>d2' q.2.1) rfl rfl rfl
  | false =>
  have d2':k.party=1000+x.num:=by simpa using d2
  simp -implicitDefEqProofs only [↓rY]
  refine aE (ahO a b) ⟨⟨⟨trivial,trivial,trivial⟩,trivial⟩,⟨rfl,rfl,trivial⟩,trivial⟩ rfl trivial ?_
  cases d3:peB a b with
  | false =>
   have d3':=of_decide_eq_false d3
   simp -implicitDefEqProofs only [rX,↓rY,aA,cells?,splice,↓reduceIte,Nat.reduceEqDiff,Nat.reduceAdd,bQ,isC,aY]
   exact bad _ _ _ (hA arg fun q=>d3' q.2.2.1) rfl rfl rfl
  | true =>
  have d3':PeP a b:=of_decide_eq_true d3
  simp -implicitDefEqProofs only [rX,↓rY,↓reduceIte,Nat.reduceEqDiff,reduceCtorEq]
  refine aE (acD w) ⟨⟨trivial,trivial⟩,rfl,trivial⟩ rfl trivial ?_
  cases d4:Gc w with
  | false =>
   simp -implicitDefEqProofs only [rX,↓rY,aA,cells?,splice,↓reduceIte,Nat.reduceEqDiff,Nat.reduceAdd,bQ,isC,aY]
   exact bad _ _ _ (hA arg fun q=>by rw [d4] at q;exact absurd q.2.2.2.1 (by simp)) rfl rfl rfl
  | true =>
  simp -implicitDefEqProofs only [rX,↓rY,aA,cells?,splice,↓reduceIte,Nat.reduceEqDiff,Nat.reduceAdd,reduceCtorEq,bQ,isC,aY]
  cases d5:decide (n<0) with
  | true =>
   have d5':=of_decide_eq_true d5
   simp -implicitDefEqProofs only [↓rY]
   exact bad _ _ _ (hA arg fun q=>by omega) rfl rfl rfl
  | false =>
  have d5':=of_decide_eq_false d5
  simp -implicitDefEqProofs only [↓rY]
  cases d6:decide (x.cap≤n) with
  | true =>
   have d6':=of_decide_eq_true d6
   simp -implicitDefEqProofs only [↓rY]
   exact bad _ _ _ (hA arg fun q=>by omega) rfl rfl rfl
  | false =>
  have d6':=of_decide_eq_false d6
  have hArg:vE k ps (pk:Int) n w a b:=⟨x,hs,d1',d2',d3',d4,by omega,by omega⟩
  simp -implicitDefEqProofs only [↓rY]
  by_cases h2:P.sL ps rs fr=0
  ·have hfl:=(Vo hF h2).2
   refine aE (P.acC ps rs fr) ⟨⟨aZ.1,j5.1,trivial⟩,aZ.2,j5.2,trivial⟩ rfl trivial ?_
   simp -implicitDefEqProofs only [rX,↓rY,aA,cells?,splice,↓reduceIte,Nat.reduceEqDiff,Nat.reduceAdd,reduceCtorEq,bQ,isC,aY,h2,bne_self_eq_false]
   refine aE (P.ahS ps rs fr pk hpk hfl) ⟨⟨aZ.1,j5.1,trivial,trivial⟩,aZ.2,j5.2,rfl,trivial⟩ rfl trivial ?_
   cases d7:decide (n<fr.flow.getD pk 0) with
   | true =>
    have d7':=of_decide_eq_true d7
    obtain ⟨e1,e2⟩:=adB hArg h2 (by rw [yaa];exact d7')
    rw [e1,e2]
    rw [yaf] at d7
    simp -implicitDefEqProofs only [rX,↓rY,aA,cells?,splice,↓reduceIte,Nat.reduceEqDiff,Nat.reduceAdd,bQ,isC,aY,d7]
    exact zret _ _ _ 4 rfl rfl rfl
   | false =>
    have d7':=of_decide_eq_false d7
    obtain ⟨e1,e2⟩:=Yw hArg h2 (by rw [yaa];exact d7')
    rw [e1,e2]
    rw [yaf] at d7
    simp -implicitDefEqProofs only [rX,↓rY,rdK,aA,cells?,↓reduceIte,Nat.reduceEqDiff,Nat.reduceAdd,reduceCtorEq,aC,aQ,d7]
    have hz:[.i (pk:Int),.i n,.i w,.i fr.sent,P.li fr.cut,.i a,.i b,.i k.serial,.v (.int .u8 0),.v (.int .u8 0),.v (.int .u8 0),.v (.int .u8 0),.v (.int .u8 0),.v (.int .u8 0),.v (.int .u8 0),.v (.int .u8 0),.v (.int .u8 0),.v (.int .u8 0),.v (.int .u8 0),.v (.int .u8 0),.v (.int .u8 0),.v (.int .u8 0),.v (.int .u8 0),.v (.int .u8 0)]=(rf0 k fr (pk:Int) n w a b).enc:=by unfold Rf.enc rf0;simp only [u16]
    have o41:=acA (rf0 k fr (pk:Int) n w a b) hr
    have o39:=ahN fr.cut hr.len
    have o40:=acB k 410 (partsOf (rf0 k fr (pk:Int) n w a b)) (Ke hsec hr)
    obtain ⟨v1,v2,v3⟩:=Of (dW (k:=k) (tag:=410) (l:=partsOf (rf0 k fr (pk:Int) n w a b)))
    have hv:∀ {c0 c1 c2 c3 c4 c5 c6 c7:V},yaj 24 (c0::c1::c2::c3::c4::c5::c6::c7::us (mP k 410 (partsOf (rf0 k fr (pk:Int) n w a b))))=c0::c1::c2::c3::c4::c5::c6::c7::us (mP k 410 (partsOf (rf0 k fr (pk:Int) n w a b))):=yao (by simp [v1])
    simp only [P.li] at hz o39 ⊢
    refine ⟨?_,?_⟩
    all_goals
     refine aE o39 ⟨⟨trivial,trivial⟩,⟨rfl,rfl⟩,trivial⟩ rfl trivial ?_
     simp -implicitDefEqProofs only [rX,↓rY,rdK,aA,cells?,splice,↓reduceIte,Nat.reduceEqDiff,Nat.reduceAdd,aC,bQ,isC,Nat.reduceLeDiff,aQ,afS,At]
     refine aE o41 ⟨⟨(fF hz).1,trivial⟩,(fF hz).2,trivial⟩ rfl trivial ?_
     simp -implicitDefEqProofs only [rX,aA,↓reduceIte,Nat.reduceEqDiff,aQ]
     refine aE o40 ⟨⟨gR.1,trivial,trivial,trivial⟩,gR.2,rfl,⟨rfl,rfl⟩,trivial⟩ (by simp [ren,mI]) trivial ?_
     simp -implicitDefEqProofs only [rX,↓rY,aA,cells?,splice,↓reduceIte,Nat.reduceEqDiff,Nat.reduceAdd,isC,Nat.reduceLeDiff,aY,aQ,At,v1,Lx,hv]
     refine rK ?_
     simp -implicitDefEqProofs only [rX,↓rY,↓reduceIte,Nat.reduceEqDiff,Nat.reduceAdd,aT,aV,wfV,wfL,v1,hv,gT]
     exact ⟨⟨rfl,rfl,rfl,rfl,⟨rfl,rfl⟩,rfl,rfl,rfl,Kb oO⟩,rfl,trivial⟩
  ·have h2':(P.sL ps rs fr != 0)=true:=bne_iff_ne.2 h2
   refine aE (P.acC ps rs fr) ⟨⟨aZ.1,j5.1,trivial⟩,aZ.2,j5.2,trivial⟩ rfl trivial ?_
   simp -implicitDefEqProofs only [rX,↓rY,aA,cells?,splice,↓reduceIte,Nat.reduceEqDiff,Nat.reduceAdd,reduceCtorEq,bQ,isC,aY,h2']
   rw [(Qb hArg h2).1,(Qb hArg h2).2]
   exact zret _ _ _ 110 rfl rfl rfl
set_option maxRecDepth 20000
open Go.Fx.P (Arc aG)
end Go.Fx.E
namespace Go.Proofs
open Go.Shelf
def Tryz.lays189_ren:Go.Shelf.Ren:=⟨fun|189=>63|125=>85|257=>84|128=>119|129=>120|294=>110|295=>111|296=>112|297=>113|298=>114|299=>115|216=>116|300=>117|301=>118|328=>138|329=>139|330=>140|331=>141|332=>142|215=>143|343=>153|n=>n,fun|28=>28|3=>3|46=>135|0=>0|51=>149|53=>152|4=>4|183=>170|182=>169|131=>166|5=>5|9=>9|218=>198|222=>202|228=>215|229=>107|n=>n,fun|n=>n⟩
theorem Tryz.lays189:Go.Proofs.Lays.n189 Tryz.prog Tryz.lays189_ren:={
 mixed:=by kernel_rfl
 f125:=Tryz.func85.trans (congrArg some (by kernel_rfl))
 f128:=Tryz.func119.trans (congrArg some (by kernel_rfl))
 f129:=Tryz.func120.trans (congrArg some (by kernel_rfl))
 f189:=Tryz.func63.trans (congrArg some (by kernel_rfl))
 f215:=Tryz.func143.trans (congrArg some (by kernel_rfl))
 f216:=Tryz.func116.trans (congrArg some (by kernel_rfl))
 f257:=Tryz.func84.trans (congrArg some (by kernel_rfl))
 f294:=Tryz.func110.trans (congrArg some (by kernel_rfl))
 f295:=Tryz.func111.trans (congrArg some (by kernel_rfl))
 f296:=Tryz.func112.trans (congrArg some (by kernel_rfl))
 f297:=Tryz.func113.trans (congrArg some (by kernel_rfl))
 f298:=Tryz.func114.trans (congrArg some (by kernel_rfl))
 f299:=Tryz.func115.trans (congrArg some (by kernel_rfl))
 f300:=Tryz.func117.trans (congrArg some (by kernel_rfl))
 f301:=Tryz.func118.trans (congrArg some (by kernel_rfl))
 f328:=Tryz.func138.trans (congrArg some (by kernel_rfl))
 f329:=Tryz.func139.trans (congrArg some (by kernel_rfl))
 f330:=Tryz.func140.trans (congrArg some (by kernel_rfl))
 f331:=Tryz.func141.trans (congrArg some (by kernel_rfl))
 f332:=Tryz.func142.trans (congrArg some (by kernel_rfl))
 f343:=Tryz.func153.trans (congrArg some (by kernel_rfl))
 t0:=Tryz.underlying0
 a0:=Tryz.isAgg0
 z0:=Tryz.sizeOf0
 v0:=Tryz.zeroValue0
 t3:=Tryz.underlying3
 a3:=Tryz.isAgg3
 z3:=Tryz.sizeOf3
 v3:=Tryz.zeroValue3
 t4:=Tryz.underlying4
 a4:=Tryz.isAgg4
 z4:=Tryz.sizeOf4
 v4:=Tryz.zeroValue4
 t5:=Tryz.underlying5
 a5:=Tryz.isAgg5
 z5:=Tryz.sizeOf5
 v5:=Tryz.zeroValue5
 t9:=Tryz.underlying9
 a9:=Tryz.isAgg9
 z9:=Tryz.sizeOf9
 v9:=Tryz.zeroValue9
 t28:=Tryz.underlying28
 a28:=Tryz.isAgg28
 z28:=Tryz.sizeOf28
 v28:=Tryz.zeroValue28
 t46:=Tryz.underlying135
 a46:=Tryz.isAgg135
 z46:=Tryz.sizeOf135
 v46:=Tryz.zeroValue135
 t51:=Tryz.underlying149
 a51:=Tryz.isAgg149
 z51:=Tryz.sizeOf149
 v51:=Tryz.zeroValue149
 t53:=Tryz.underlying152
 a53:=Tryz.isAgg152
 z53:=Tryz.sizeOf152
 v53:=Tryz.zeroValue152
 t131:=Tryz.underlying166
 a131:=Tryz.isAgg166
 z131:=Tryz.sizeOf166
 v131:=Tryz.zeroValue166
 t182:=Tryz.underlying169
 a182:=Tryz.isAgg169
 z182:=Tryz.sizeOf169
 v182:=Tryz.zeroValue169
 t183:=Tryz.underlying170
 a183:=Tryz.isAgg170
 z183:=Tryz.sizeOf170
 v183:=Tryz.zeroValue170
 t218:=Tryz.underlying198
 a218:=Tryz.isAgg198
 z218:=Tryz.sizeOf198
 v218:=Tryz.zeroValue198
 t222:=Tryz.underlying202
 a222:=Tryz.isAgg202
 z222:=Tryz.sizeOf202
 v222:=Tryz.zeroValue202
 t228:=Tryz.underlying215
 a228:=Tryz.isAgg215
 z228:=Tryz.sizeOf215
 v228:=Tryz.zeroValue215
 t229:=Tryz.underlying107
 a229:=Tryz.isAgg107
 z229:=Tryz.sizeOf107
 v229:=Tryz.zeroValue107 }
open Go.Sort Go.RowKit in
theorem Tryz.slices_Sort_int (blk off cap:Nat) (zs:List Int) (w:World) (hH:Holds (Value.int .i64) w blk off zs.toArray) (hblk:blk<w.heap.size) (hsz:zs.length<4611686018427387904) :
  Calls Tryz.prog 63 #[.slice (some ⟨blk,off,none⟩) zs.length cap] w fun e w' =>
   e=.returned (.tuple #[])∧∃ n os,w'=grow (putRow (Value.int .i64) (Sort.ahead w n) blk off (zs.mergeSort fun x y=>decide (x≤y)).toArray) os:=Any.slices_Sort_int Tryz.lays189 blk off cap zs w hH hblk hsz
open Go.RowKit Go.Sort in
theorem Tryz.slices_Sort_int_none (p:Option Addr) (cap:Nat) (w:World) :
  Calls Tryz.prog 63 #[.slice p 0 cap] w fun e w'=>e=.returned (.tuple #[])∧w'=w:=Any.slices_Sort_int_none Tryz.lays189 p cap w
end Go.Proofs
namespace Go.Fx.E
open Go Go.Fx Go.Proofs Go.RowKit
set_option maxRecDepth 20000
def srt (l:List Int):List Int:=l.mergeSort fun x y=>decide (x≤y)
theorem Kd {l:List Int}:(srt l).length=l.length:=List.length_mergeSort ..
theorem Xt {l:List Int}:(srt l).Pairwise (·≤·):=by
 have:=List.pairwise_mergeSort (le:=fun x y:Int=>decide (x≤y)) (fun a b c h1 h2=>by simp at *;omega) (fun a b=>by simp;omega) l
 exact this.imp fun h=>by simpa using h
theorem Uj {l:List Int} {x:Int}:x∈srt l↔x∈l:=List.mem_mergeSort
theorem xM {S:Nat→Prop} {w:World} {b:Nat}:∀ {l:List Int} {off:Nat},cZ S w 1 b off (l.map P.encI)→∀ j (h:j<l.length),w.cell? ⟨b,off+j,none⟩=some (.int .i64 l[j])
 | [],_,_,j,h=>by simp at h
 | x::r,off,hr,j,h=>by
  obtain ⟨⟨_,⟨val,h1,h2⟩,_⟩,h3⟩:=hr
  cases j with
  | zero =>
   have:val=.int .i64 x:=h2.1
   subst this;exact h1
  | succ j =>
   have:=xM h3 j (by simpa using h)
   rw [show off+(j+1)=off+1+j by omega]
   exact this
theorem Bk {S:Nat→Prop} {w:World} {b:Nat}:∀ {l:List Int} {off:Nat},(∀ j (h:j<l.length),w.cell? ⟨b,off+j,none⟩=some (.int .i64 l[j]))→cZ S w 1 b off (l.map P.encI)
 | [],_,_=>trivial
 | x::r,off,h=>⟨⟨rfl,⟨_,h 0 (by simp),rfl,rfl⟩,trivial⟩,Bk fun j hj=>by
   have:=h (j+1) (by simpa using hj)
   rw [show off+1+j=off+(j+1) by omega]
   exact this⟩
theorem ahI (l:List Int) (hl:l.length<4611686018427387904):OkN Tryz.prog 63 [.sl 0 0 l.length] [.arr 1 (l.map P.encI)] [] (IsA (.tup []) [.arr 1 ((srt l).map P.encI)]):=by
 refine ⟨cal Tryz.func63 (by kernel_rfl) (by kernel_rfl),?_⟩
 intro ρ X w vals hr ha
 match vals,ha with
 | [val],⟨hv,_⟩ =>
 obtain ⟨cap,h1,h2,h3⟩:=hv
 rcases h3 with ⟨h4,a,rfl⟩|⟨hre,rfl,hroom⟩
 ·have hl0:l=[]:=yaX.1 (by omega)
  subst hl0
  refine (Tryz.slices_Sort_int_none a 0 w).mono ?_
  rintro e w' ⟨rfl,rfl⟩
  exact ⟨_,.tup [],[.arr 1 []],ρ,rfl,⟨⟨rfl,by simp [srt]⟩,yan _⟩,Fr.refl _ _,hr,⟨#[],rfl,trivial⟩,fun _ _ _=>rfl⟩
 ·have hb:=hr.blk 0 _ rfl
  obtain ⟨⟨hsz,_⟩,hb|⟨_,c,T,hc,hcs,hlen,hels⟩⟩:=hb
  ·rw [hb.1] at hre;cases hre
  have hoff:(ρ 0).off+0*(ρ 0).sz=(ρ 0).off:=by omega
  rw [hoff]
  rw [yau] at hlen
  have hg:=fun j hj=>xM hels j hj
  have hH:Sort.Holds (Value.int .i64) w (ρ 0).blk (ρ 0).off l.toArray:=by
   intro j hj
   have hj':j<l.length:=by simpa using hj
   refine ⟨?_,by simp [World.frozen?,hc]⟩
   rw [hg j hj']
   simp [hj']
  refine (Tryz.slices_Sort_int (ρ 0).blk (ρ 0).off cap l w hH (hr.lt 0 hre) hl).mono ?_
  rintro e w' ⟨rfl,n,os,rfl⟩
  have hbl:=hr.lt 0 hre
  have hsl:(srt l).length=l.length:=Kd
  have hw1:(Sort.grow (Sort.putRow (Value.int .i64) (Sort.ahead w n) (ρ 0).blk (ρ 0).off (srt l).toArray) os).heap[(ρ 0).blk]?=some (.cells (Sort.putCells (Value.int .i64) (ρ 0).off (srt l).toArray c) T (0,0)):=by
   simp only [Sort.grow,Sort.putRow,Sort.mapBlock,Sort.ahead]
   rw [yba (by simpa using hbl),ybb,if_pos rfl,hc]
   rfl
  have hw2:∀ b,b<w.heap.size→b≠(ρ 0).blk→(Sort.grow (Sort.putRow (Value.int .i64) (Sort.ahead w n) (ρ 0).blk (ρ 0).off (srt l).toArray) os).heap[b]?=w.heap[b]?:=by
   intro b hb hne
   simp only [Sort.grow,Sort.putRow,Sort.mapBlock,Sort.ahead]
   rw [yba (by simpa using hb),ybb,if_neg (fun h=>hne h.symm)]
  have hsize:w.heap.size≤(Sort.grow (Sort.putRow (Value.int .i64) (Sort.ahead w n) (ρ 0).blk (ρ 0).off (srt l).toArray) os).heap.size:=by
   simp [Sort.grow,Sort.putRow,Sort.mapBlock,Sort.ahead]
  have hfr:Fr ρ w ρ (Sort.grow (Sort.putRow (Value.int .i64) (Sort.ahead w n) (ρ 0).blk (ρ 0).off (srt l).toArray) os):=⟨rfl,rfl,rfl,hsize,fun b hb ho=>⟨hw2 b hb fun h=>ho ⟨0,hre,h.symm⟩,ho⟩⟩
  have hcell:∀ j (hj:j<l.length),(Sort.grow (Sort.putRow (Value.int .i64) (Sort.ahead w n) (ρ 0).blk (ρ 0).off (srt l).toArray) os).cell? ⟨(ρ 0).blk,(ρ 0).off+j,none⟩=some (.int .i64 ((srt l)[j]'(by rw [hsl];exact hj))):=by
   intro j hj
   have hjc:(ρ 0).off+j<c.size:=by rw [hcs];rw [hsz] at hroom;omega
   simp only [World.cell?,hw1]
   simp [Sort.putCells,hjc,hsl,hj]
  refine ⟨_,.tup [],[.arr 1 ((srt l).map P.encI)],ρ,rfl,⟨⟨rfl,rfl⟩,yan _⟩,hfr,⟨hr.inj,hr.out,fun k b hk=>?_,hr.disj,fun k hk=>Nat.lt_of_lt_of_le (hr.lt k hk) hsize,hr.xfr hfr⟩,⟨#[],rfl,trivial⟩,fun _ _ _=>rfl⟩
  cases k with
  | succ k=>simp at hk
  | zero =>
   simp only [List.getElem?_cons_zero,Option.some.injEq] at hk
   subst hk
   refine ⟨⟨hsz,by omega⟩,.inr ⟨hre,_,T,hw1,by simp [Sort.putCells,hcs],by rw [yau,hsl];exact hlen,Bk fun j hj=>?_⟩⟩
   rw [hsl] at hj
   exact hcell j hj
theorem ahH (l:List Int) (hl:l.length≤1000000) (ho:l.Pairwise (·<·)):OkN Tryz.prog 64 [.sl 0 0 l.length] [.arr 1 (l.map P.encI)] [] (IsA (.sl 0 0 l.length) [.arr 1 (l.map P.encI)]):=by
 refine eL pol [0] lw64 (by simp) ⟨trivial,trivial⟩ (by simp) ?_
 unfold c64
 simp -implicitDefEqProofs only [rX,↓rY,aA,↓reduceIte,reduceCtorEq,aQ,aK]
 cases h0:decide ((l.length:Int)<2) with
 | true =>
  have h0':=of_decide_eq_true h0
  simp -implicitDefEqProofs only [rX,↓rY,↓reduceIte,aT,aV,leH,leB,aD,aB,wfB,wfV,cO]
  exact fun _=>trivial
 | false =>
  have h0':=of_decide_eq_false h0
  simp -implicitDefEqProofs only [↓rY]
  intro _
  refine dB (fun k:Nat=>(⟨[(3,.i ((k:Int)+1)),(0,.sl 0 0 l.length)],[.arr 1 (l.map P.encI)],0⟩:St)) (fun k=>k+1≤l.length) (fun k=>l.length-k) 0 (by omega) ?_ ?_
  ·exact ⟨by simp -implicitDefEqProofs only [rX,↓reduceIte,reduceCtorEq,leE];simp,⟨bA _,trivial⟩,⟨trivial,trivial⟩,by simp -implicitDefEqProofs only [rX,aB,wfE,wfV],by simp -implicitDefEqProofs only [wfB]⟩
  intro k hk N hN
  simp only [c64l0]
  simp -implicitDefEqProofs only [rX,↓rY,aA,↓reduceIte,Nat.reduceEqDiff,cR,reduceCtorEq,dN,yac,yaa,aQ]
  cases h1:decide ((k:Int)+1<(l.length:Int)) with
  | true =>
   have h1':=of_decide_eq_true h1
   have hk1:k+1<l.length:=by omega
   have hlt:=yav.1 ho k (k+1) (by omega) hk1 (by omega)
   have e1:((k:Int)+1).toNat=k+1:=by omega
   have e2:(k:Int)+1-1=(k:Int):=by omega
   have hne:(l[k+1]==l[k])=false:=by simp;omega
   simp -implicitDefEqProofs only [rX,↓rY,yaa,e1,e2,P.cP,hne]
   refine fun _=>⟨⟨by omega,by omega⟩,hk1,⟨by simp only [lo];omega,by simp only [Fx.hi];omega⟩,⟨by omega,by omega⟩,by omega,⟨by simp only [lo];omega,by simp only [Fx.hi];omega⟩,hN _ (k+1) (by omega) (by omega) ?_⟩
   exact ⟨by simp -implicitDefEqProofs only [rX,↓reduceIte,reduceCtorEq,leE];rfl,⟨bA _,trivial⟩,⟨trivial,trivial⟩,by simp -implicitDefEqProofs only [rX,aB,wfE,wfV],by simp -implicitDefEqProofs only [wfB]⟩
  | false =>
   have h1':=of_decide_eq_false h1
   simp -implicitDefEqProofs only [rX,↓rY,↓reduceIte,aT,aV,leH,leB,aD,aB,wfB,wfV,cO]
   exact fun _=>trivial
def pM (ps:List P.aG) (rs:List P.Road):List (Int × Int):=(List.range ps.length).map (fun i:Nat=>((i:Int),(0:Int)))++(P.ofN ps 1 ps.length).map (fun i:Nat=>((i:Int),(0:Int)))++(P.ofN ps 3 ps.length).map (fun i:Nat=>((i:Int),(0:Int)))++(List.range rs.length).map (fun j:Nat=>((-1:Int),(j:Int)))
def gone (ps:List P.aG) (q j:Nat):List Nat:=if q=0 then P.ofN ps 1 j else if q=1 then P.ofN ps 1 ps.length++P.ofN ps 3 j else P.ofN ps 1 ps.length++P.ofN ps 3 ps.length
theorem Mr {ps:List P.aG} {rs:List P.Road} {k:Nat} (h:k<ps.length):(pM ps rs)[k]?=some ((k:Int),0):=by
 unfold pM
 rw [yah,yah,yaS (by simpa using h)]
 simp [h]
theorem Pq {ps:List P.aG} {rs:List P.Road} {a:Nat} (h:a<rs.length):(pM ps rs)[ps.length+(gone ps 2 0).length+a]?=some (-1,(a:Int)):=by
 unfold pM gone
 rw [yaA (by simp<;>omega)]
 simp only [yaq,yau,List.length_range]
 rw [show (if 2=0 then P.ofN ps 1 0 else if 2=1 then P.ofN ps 1 ps.length++P.ofN ps 3 0 else P.ofN ps 1 ps.length++P.ofN ps 3 ps.length)=P.ofN ps 1 ps.length++P.ofN ps 3 ps.length from rfl,yaq]
 rw [show ps.length+((P.ofN ps 1 ps.length).length+(P.ofN ps 3 ps.length).length)+a-(ps.length+(P.ofN ps 1 ps.length).length+(P.ofN ps 3 ps.length).length)=a by omega]
 simp [h]
theorem Pr {ps:List P.aG} {rs:List P.Road} {k a:Nat} (h:(gone ps 2 0)[k]?=some a):(pM ps rs)[ps.length+k]?=some ((a:Int),0):=by
 unfold gone at h
 have h2:(P.ofN ps 1 ps.length++P.ofN ps 3 ps.length)[k]?=some a:=h
 have hk:k<(P.ofN ps 1 ps.length++P.ofN ps 3 ps.length).length:=by
  rcases yam k (P.ofN ps 1 ps.length++P.ofN ps 3 ps.length).length with c|c
  ·exact c
  ·rw [yat c] at h2;cases h2
 unfold pM
 rw [yah,yah,yaA (by simp),←yah]
 simp only [yau,List.length_range]
 rw [show ps.length+k-ps.length=k by omega,←yaK,yaS (by rw [yau];exact hk),List.getElem?_map,h2]
 rfl
theorem Zf {ps:List P.aG} {q j:Nat} (hq:q<2) (hj:j<ps.length):gone ps q (j+1)=gone ps q j++(if ps[j].kind=(if q=0 then 1 else 3) then [j] else []):=by
 have hk:∀ kind:Int,P.ofN ps kind (j+1)=P.ofN ps kind j++(if ps[j].kind=kind then [j] else []):=by
  intro kind
  rw [P.lQ]
  congr 1
  have:P.isK ps kind j=(ps[j].kind==kind):=by rw [P.isK,yag hj]
  rw [this]
  simp
 unfold gone
 rcases (by omega:q=0∨q=1) with rfl|rfl
 ·simp only [if_pos];exact hk 1
 ·simp only [Nat.one_ne_zero,if_false,if_pos]
  rw [hk 3,yah]
theorem Zg {ps:List P.aG} {q:Nat} (hq:q<2):gone ps q ps.length=gone ps (q+1) 0:=by
 unfold gone
 rcases (by omega:q=0∨q=1) with rfl|rfl
 ·simp [P.ofN]
 ·simp
theorem Ur {ps:List P.aG} {q j:Nat} (hq:q<2) (hj:j≤ps.length):∃ r,gone ps 2 0=gone ps q j++r:=by
 have key:∀ kind:Int,∀ d j,j+d=ps.length→∃ r,P.ofN ps kind ps.length=P.ofN ps kind j++r:=by
  intro kind d
  induction d with
  | zero=>intro j h;exact ⟨[],by rw [show j=ps.length by omega];simp⟩
  | succ d ih =>
   intro j h
   obtain ⟨r,hr⟩:=ih (j+1) (by omega)
   rw [hr,P.lQ,yah]
   exact ⟨_,rfl⟩
 rcases (by omega:q=0∨q=1) with rfl|rfl
 ·obtain ⟨r,hr⟩:=key 1 (ps.length-j) j (by omega)
  refine ⟨r++P.ofN ps 3 ps.length,?_⟩
  show P.ofN ps 1 ps.length++P.ofN ps 3 ps.length=P.ofN ps 1 j++_
  rw [hr,yah]
 ·obtain ⟨r,hr⟩:=key 3 (ps.length-j) j (by omega)
  refine ⟨r,?_⟩
  show P.ofN ps 1 ps.length++P.ofN ps 3 ps.length=(P.ofN ps 1 ps.length++P.ofN ps 3 j)++_
  rw [hr,yah]
end Go.Fx.E
