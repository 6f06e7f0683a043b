import Derived.Test.YtebjeeogjepcaaaGreatDoorHLow0
import Derived.Test.YtebjeeogjepcaaaGreatDoorHLow
import Derived.Sort.Walk0
import Derived.Shelf.Small.Bits
import Derived.Ground.Names2Prog
import Derived.Ground.NamesProg
import Derived.Test.YtebjeeogjepcaaaGreatDoorProg
import Derived.Shelf.SlSortCmp.WholeK
import Derived.Shelf.SlSortCmp.NoneTotal
import Derived.Shelf.Sort.Plain
import Derived.Shelf.Slices.CompactI
import Derived.Shelf.Slices.In.SortNone
import Derived.Shelf.SlGeneric
import Derived.Shelf.SlLaysF0
import Derived.Ground.SlsfProg
import Derived.Lib.AppendZerosOnto
import Derived.Lib.SliceRun
import Derived.Lib.Walk
import Derived.Lib.SlicesCompact
set_option linter.unusedVariables false
set_option linter.unusedSimpArgs false
set_option linter.unusedSectionVars false
open Nat renaming le_refl → yaa, zero_le → yai, mul_one → yal, lt_or_ge → yax, log2 → yaD, zero_add → yaE, min_eq_left → yaZ, add_zero → ybe, not_lt_zero → ybg, le_trans → ybx, strongRecOn → yby, mul_comm → ybz, sub_self → ybR, add_mul → ybX, lt_of_lt_of_le → ybY, shiftRight_eq_div_pow → ycd, le_mul_of_pos_right → ycp
open List renaming take_of_length_le → yab, take → yac, length_append → yad, map → yae, replicate → yah, length_map → yaj, append_nil → yak, getElem?_eq_getElem → yan, mem_append → yao, mem_singleton → yap, map_append → yaq, getElem_map → yar, length_cons → yas, getD_eq_getElem?_getD → yat, drop_of_length_le → yau, drop → yav, mem_cons → yaw, range → yay, replicate_succ → yaz, length_nil → yaA, getElem?_cons_zero → yaB, take_append_of_le_length → yaF, not_mem_nil → yaG, cons_append → yaH, map_cons → yaI, length_take → yaJ, take_add_one → yaK, map_take → yaO, length_drop → yaP, append_assoc → yaQ, map_nil → yaS, set_cons_zero → yaT, foldl → yaX, getElem?_cons_succ → yaY, all_cons → yba, mem_map → ybb, nil_append → ybc, drop_zero → ybf, length_eq_zero_iff → ybh, pairwise_iff_getElem → ybi, getElem_mem → ybk, map_drop → ybo, drop_append_of_le_length → ybp, getElem?_append_right → ybq, map_map → ybr, mem_of_mem_take → ybt, set_append_right → ybu, getElem_of_mem → ybB, map_set → ybE, getElem?_map → ybF, take_zero → ybH, drop_left → ybI, mem_cons_self → ybJ, mem_cons_of_mem → ybK, pairwise_cons → ybL, foldl_cons → ybM, flatMap_cons → ybN, eq_nil_or_concat → ybO, concat_eq_append → ybP, dropLast_concat → ybQ, all_nil → ybS, take_length → ybT, flatten_append → ybV, drop_eq_getElem_cons → ybW, mem_filter → ybZ, set_eq_take_append_cons_drop → yce, take_length_add_append → ycf, pairwise_append → ycg, length_replicate → ych, getElem?_append_left → yci, take_append_drop → ycj, length_singleton → yck, getLastD_concat → ycl, getElem_toArray → ycn, length_filter_le → yco, take_succ_cons → ycq
open Int renaming toNat_natCast → yaf, toNat → yam, natCast_zero → yaL, natCast_nonneg → yaN, reduceToNat → yaV, reduceLE → ybd, fdiv_eq_ediv_of_nonneg → ybn, reduceLT → ybw, natCast_ediv → ybD, mul_le_mul_of_nonneg_left → ycm
open BitVec renaming ofInt → yag, ofNat → yaM, ofNat_toNat → ybl, setWidth_eq → ybm, toNat_ofNat → ybC, toNat_ofInt → ybU, ofInt_natCast → yca, eq_of_toNat_eq → ycb, toNat_ushiftRight → ycc
open Option renaming getD_some → yaC
open Bool renaming and_eq_true → yaR, and_self → yaU, eq_iff_iff → ybs, and_true → ybv
open Array renaming getElem?_modify → yaW, getElem?_append_left → ybA, replicate → ybG
open Option.some renaming injEq → ybj
namespace Go.Fx.H
open Go Go.Fx
abbrev W:=BitVec 32
abbrev w (x:W):V:=.v (.int .u32 (x.toNat:Int))
abbrev u8 (b:UInt8):V:=.v (.int .u8 (b.toNat:Int))
abbrev n64 (n:Nat):V:=.v (.int .u64 (n:Int))
theorem ofI (x:W):yag 32 (x.toNat:Int)=x:=by
 rw [yca,ybl,ybm]
theorem wrapN (n:Nat):IntKind.u32.wrap (n:Int)=((yaM 32 n).toNat:Int):=by
 rw [ybC]
 simp [IntKind.wrap,IntKind.bits,IntKind.signed]
theorem Kl (x:W):IntKind.u32.wrap (x.toNat:Int)=(x.toNat:Int):=by
 rw [wrapN,ybl,ybm]
section
variable {x y:W} {K:V→Prop}
theorem Bf:b6 .add false .u32 (x.toNat:Int) (y.toNat:Int) K=K (w (x+y)):=by
 show K (.v (.int .u32 (IntKind.u32.wrap (x.toNat+y.toNat))))=_
 rw [←Int.natCast_add,wrapN,BitVec.ofNat_add,ybl,ybl,ybm,ybm]
theorem oL:b6 .xor false .u32 (x.toNat:Int) (y.toNat:Int) K=K (w (x ^^^ y)):=by
 show K (.v (.int .u32 (IntKind.u32.wrap ((yag 32 (x.toNat:Int) ^^^ yag 32 (y.toNat:Int)).toNat:Int))))=_
 rw [ofI,ofI,Kl]
theorem Ou:b6 .and false .u32 (x.toNat:Int) (y.toNat:Int) K=K (w (x &&& y)):=by
 show K (.v (.int .u32 (IntKind.u32.wrap ((yag 32 (x.toNat:Int) &&& yag 32 (y.toNat:Int)).toNat:Int))))=_
 rw [ofI,ofI,Kl]
theorem Tk:b6 .or false .u32 (x.toNat:Int) (y.toNat:Int) K=K (w (x ||| y)):=by
 show K (.v (.int .u32 (IntKind.u32.wrap ((yag 32 (x.toNat:Int) ||| yag 32 (y.toNat:Int)).toNat:Int))))=_
 rw [ofI,ofI,Kl]
theorem Xe:x ^^^ (4294967295#32) = ~~~x:=by
 rw [show (4294967295#32)=BitVec.allOnes 32 from rfl,BitVec.xor_allOnes]
theorem Wy:b6 .xor false .u32 (if IntKind.signed .u32 then -1 else IntKind.max .u32) (x.toNat:Int) K=K (w (~~~x)):=by
 have h:(if IntKind.signed .u32 then -1 else IntKind.max .u32:Int)=((4294967295#32).toNat:Int):=rfl
 rw [h,oL,BitVec.xor_comm,Xe]
theorem Ot {n:Nat} (hn:n≤32):cF .shl .u32 (x.toNat:Int) (n:Int) K=K (w (x <<< n)):=by
 have h:cF .shl .u32 (x.toNat:Int) (n:Int) K=(0≤(n:Int)∧K (.v (.int .u32 (IntKind.u32.wrap (x.toNat*2 ^ (min (n:Int).toNat 32)))))):=rfl
 rw [h,yaf,yaZ hn]
 have e:((x.toNat:Int)*2 ^ n)=((x.toNat*2 ^ n:Nat):Int):=by simp
 rw [e,wrapN]
 have e2:yaM 32 (x.toNat*2 ^ n)=x <<< n:=by
  apply ycb
  rw [ybC,BitVec.toNat_shiftLeft,Nat.shiftLeft_eq]
 rw [e2]
 exact propext ⟨fun h=>h.2,fun h=>⟨yaN n,h⟩⟩
theorem Be {n:Nat} (hn:n≤32):cF .shr .u32 (x.toNat:Int) (n:Int) K=K (w (x >>> n)):=by
 have h:cF .shr .u32 (x.toNat:Int) (n:Int) K=(0≤(n:Int)∧K (.v (.int .u32 (Int.fdiv (x.toNat:Int) (2 ^ (min (n:Int).toNat 32)))))):=rfl
 rw [h,yaf,yaZ hn]
 have e:Int.fdiv (x.toNat:Int) (2 ^ n)=((x >>> n).toNat:Int):=by
  have h2:(2:Int) ^ n=((2 ^ n:Nat):Int):=by simp
  rw [ycc,ycd,h2,ybn _ (yaN _),ybD]
 rw [e]
 exact propext ⟨fun h=>h.2,fun h=>⟨yaN n,h⟩⟩
end
def rr (x:W) (n:Nat):W:=(x >>> n) ||| (x <<< (32-n))
theorem Yk:∀ n:Fin 32,n.val≠0→IntKind.u64.wrap (-(n.val:Int))=18446744073709551616-n.val:=by decide
theorem Yj:∀ n:Fin 32,n.val≠0→(IntKind.u64.wrap ((yag 64 (18446744073709551616-(n.val:Int)) &&& yag 64 31).toNat:Int))=((32-n.val:Nat):Int):=by decide
structure S8 where
 a:W
 b:W
 c:W
 d:W
 e:W
 f:W
 g:W
 h:W
def S8.l (s:S8):List W:=[s.a,s.b,s.c,s.d,s.e,s.f,s.g,s.h]
def S8.enc (s:S8):List V:=[w s.a,w s.b,w s.c,w s.d,w s.e,w s.f,w s.g,w s.h]
def S8.add (s t:S8):S8:=⟨s.a+t.a,s.b+t.b,s.c+t.c,s.d+t.d,s.e+t.e,s.f+t.f,s.g+t.g,s.h+t.h⟩
def t1 (s:S8) (k x:W):W:=s.h+(rr s.e 6 ^^^ rr s.e 11 ^^^ rr s.e 25)+((s.e &&& s.f) ^^^ (~~~s.e &&& s.g))+k+x
def t2 (s:S8):W:=(rr s.a 2 ^^^ rr s.a 13 ^^^ rr s.a 22)+((s.a &&& s.b) ^^^ (s.a &&& s.c) ^^^ (s.b &&& s.c))
def S8.rnd (s:S8) (k x:W):S8:=⟨t1 s k x+t2 s,s.a,s.b,s.c,s.d+t1 s k x,s.e,s.f,s.g⟩
def kW (i:Nat):W:=yaM 32 (Fj.getD i 0)
def tA (ws:Nat→W) (s:S8):Nat→S8
 | 0=>s
 | i+1=>(tA ws s i).rnd (kW i) (ws i)
def B32 (b:UInt8):W:=b.toBitVec.setWidth 32
theorem abN (b:UInt8):(B32 b).toNat=b.toNat:=by
 unfold B32
 rw [BitVec.toNat_setWidth]
 have:b.toBitVec.toNat=b.toNat:=rfl
 rw [this]
 have:=b.toNat_lt
 omega
theorem Wx {x:W} {b:UInt8} {K:V→Prop}:b6 .or false .u32 (x.toNat:Int) (b.toNat:Int) K=K (w (x ||| B32 b)):=by
 rw [show (b.toNat:Int)=((B32 b).toNat:Int) by rw [abN],Tk]
def word (b0 b1 b2 b3:UInt8):W:=(B32 b0 <<< 24) ||| (B32 b1 <<< 16) ||| (B32 b2 <<< 8) ||| B32 b3
theorem Qa (b0 b1 b2 b3:UInt8):(((((0#32 <<< 8 ||| B32 b0) <<< 8) ||| B32 b1) <<< 8 ||| B32 b2) <<< 8 ||| B32 b3)=word b0 b1 b2 b3:=by
 unfold word
 have h:(0#32 <<< 8 ||| B32 b0)=B32 b0:=by simp
 rw [h]
 simp only [BitVec.shiftLeft_or_distrib,←BitVec.shiftLeft_add]
def wn (l:List W) (i:Nat):W:=l.getD i 0
def next (ws:List W):W :=
 let i:=ws.length
 let x:=wn ws (i-15)
 let y:=wn ws (i-2)
 wn ws (i-16)+(rr x 7 ^^^ rr x 18 ^^^ (x >>> 3))+wn ws (i-7)+(rr y 17 ^^^ rr y 19 ^^^ (y >>> 10))
def bn (bs:List UInt8) (i:Nat):UInt8:=bs.getD i 0
def p9 (bs:List UInt8) (i:Nat):W:=word (bn bs (4*i)) (bn bs (4*i+1)) (bn bs (4*i+2)) (bn bs (4*i+3))
def wds (bs:List UInt8):Nat→List W
 | 0=>[]
 | i+1=>wds bs i++[if i<16 then p9 bs i else next (wds bs i)]
theorem f9 (bs:List UInt8):∀ i,(wds bs i).length=i
 | 0=>rfl
 | i+1=>by simp [wds,f9 bs i]
def gJ (bs:List UInt8) (i:Nat):List W:=wds bs i++yah (64-i) 0
def comp (s:S8) (bs:List UInt8):S8:=s.add (tA (fun i=>wn (wds bs 64) i) s 64)
def iv:S8:=⟨1779033703,3144134277,1013904242,2773480762,1359893119,2600822924,528734635,1541459225⟩
def ws (l:List W):List V:=l.map w
theorem yU {l:List W}:(ws l).length=l.length:=by simp [ws]
theorem Xg {l:List W}:(ws l).all isC=true:=by simp [ws,isC,isD]
theorem gM {l:List W} {q:List Blk}:wfL q (ws l):=by
 unfold ws
 induction l with
 | nil=>trivial
 | cons x r ih=>exact ⟨trivial,ih⟩
theorem Py {l:List W} {n:Nat}:(ws l).take n=ws (l.take n):=by simp [ws,yaO]
theorem Pz {l:List W} {n:Nat}:(ws l).drop n=ws (l.drop n):=by simp [ws,ybo]
theorem Tz {l:List W} {f:Nat→Option Nat}:b9 f (ws l)=ws l:=by
 unfold ws
 induction l with
 | nil=>rfl
 | cons x r ih=>exact congrArg (w x::·) ih
theorem Ty {l:List W} {i:Nat} {x:W} (hi:i<l.length):(ws l).take i++w x::(ws l).drop (i+1)=ws (l.set i x):=by
 unfold ws
 rw [ybE,yce,if_pos (by simpa using hi)]
theorem Kk {l:List W} {i:Nat} {x:W} (hi:i<l.length):(ws l).take i++[w x]++(ws l).drop (i+1)=ws (l.set i x):=by
 rw [←Ty hi]
 simp
theorem x8 {l:List W} {i:Nat} (hi:i<l.length):(ws l)[i]?=some (w (wn l i)):=by
 unfold ws wn
 rw [ybF,yan hi,yat,yan hi]
 rfl
def z64:List W:=yah 64 0
theorem tF:z64.length=64:=rfl
theorem w0:yae V.v (ybG 64 (Value.int IntKind.u32 0)).toList=ws z64:=rfl
theorem Xh {l:List W} (h:l.length=64):(ws l).take 64=ws l:=by rw [Py,yab (by omega)]
theorem Sn {l:List W} (h:l.length=64):(ws l).drop 64=[]:=by rw [Pz,yau (by omega)];rfl
attribute [irreducible] ws z64
def by1 (b:UInt8):List V:=[u8 b]
theorem abE {b:UInt8}:(by1 b)[0]?=some (u8 b):=rfl
end Go.Fx.H
namespace Go.Fx.H
open Go Go.Fx
abbrev Bs:=List UInt8
def lR (s:S8) (m:Bs):Nat→S8
 | 0=>s
 | k+1=>comp (lR s m k) ((m.drop (64*k)).take 64)
theorem oM {s:S8} {m c:Bs}:∀ {k:Nat},64*k≤m.length→lR s (m++c) k=lR s m k
 | 0,_=>rfl
 | k+1,h=>by
  rw [lR,lR,oM (by omega),ybp (by omega),yaF (by simp;omega)]
structure Stm where
 st:S8
 blk:Bs
 n:Nat
structure Rp (S:Stm) (m:Bs):Prop where
 n:S.n=m.length
 len:S.blk.length=64
 st:S.st=lR iv m (m.length/64)
 blk:S.blk.take (m.length%64)=m.drop (64*(m.length/64))
def jU (blk c:Bs) (j:Nat):Bs:=blk.take j++c++blk.drop (j+c.length)
theorem Cm {blk c:Bs} {j:Nat} (h:j+c.length≤blk.length):(jU blk c j).length=blk.length:=by
 unfold jU;simp;omega
theorem Rp.step {S:Stm} {m c:Bs} (h:Rp S m) (hc:S.n%64+c.length≤64) :
  Rp ⟨if S.n%64+c.length=64 then comp S.st (jU S.blk c (S.n%64)) else S.st,jU S.blk c (S.n%64),S.n+c.length⟩ (m++c):=by
 have hn:=h.n
 have hl:=h.len
 have hb:=h.blk
 have hdl:(m.drop (64*(m.length/64))).length=m.length%64:=by rw [yaP];omega
 rw [hn] at hc ⊢
 have hpl:(jU S.blk c (m.length%64)).length=64:=by rw [Cm (by omega),hl]
 have htk:(jU S.blk c (m.length%64)).take (m.length%64+c.length)=m.drop (64*(m.length/64))++c:=by
  unfold jU
  rw [hb,yaF (by rw [yad,hdl];exact yaa _),yab (by rw [yad,hdl];exact yaa _)]
 by_cases h64:m.length%64+c.length=64
 ·have e1:(m++c).length/64=m.length/64+1:=by rw [yad];omega
  have e2:(m++c).length%64=0:=by rw [yad];omega
  refine ⟨by simp,hpl,?_,?_⟩
  ·simp only [if_pos h64]
   rw [e1,lR,oM (by omega),h.st]
   congr 1
   rw [ybp (by omega),←htk,h64,List.take_take,Nat.min_self,yab (by omega)]
  ·rw [e2,e1]
   simp only [ybH]
   rw [yau (by rw [yad];omega)]
 ·have e1:(m++c).length/64=m.length/64:=by rw [yad];omega
  have e2:(m++c).length%64=m.length%64+c.length:=by rw [yad];omega
  refine ⟨by simp,hpl,?_,?_⟩
  ·simp only [if_neg h64]
   rw [e1,oM (by omega),h.st]
  ·rw [e1,e2]
   show (jU S.blk c (m.length%64)).take _=_
   rw [htk,ybp (by omega)]
def len8 (n:Nat):Bs:=(yay 8).map fun i=>UInt8.ofNat (8*n/2 ^ (56-8*i))
def zeros (n:Nat):Nat:=(119-n%64)%64
def pad (n:Nat):Bs:=128::(yah (zeros n) 0++len8 n)
theorem Kc (n:Nat):(n+1+zeros n)%64=56:=by unfold zeros;omega
def Xq (m:Bs):S8:=lR iv (m++pad m.length) ((m++pad m.length).length/64)
def y6 (s:S8) (i:Nat):UInt8:=UInt8.ofNat ((wn s.l (i/4)).toNat/2 ^ (24-8*(i%4)))
def sha (m:Bs):Bs:=(yay 32).map (y6 (Xq m))
def sC (st:S8) (blk:Bs) (n:Nat):List V:=st.enc++(blk.map u8++[n64 n])
section
variable {s:S8} {b:Bs} {n:Nat}
theorem dZ (h:b.length=64):(sC s b n).length=73:=by simp [sC,S8.enc,h]
theorem rB (h:b.length=64):(b.map u8).length=64:=by simpa using h
theorem Qo (h:b.length=64):(sC s b n)[72]?=some (n64 n):=by
 unfold sC
 rw [ybq (by simp [S8.enc]),ybq (by simp [S8.enc,h])]
 simp [S8.enc,h]
theorem Xs:(sC s b n).take 8=s.enc:=by
 unfold sC
 rw [yaF (by simp [S8.enc]),yab (by simp [S8.enc])]
theorem Ur {m:Nat} (h:b.length=64):(sC s b n).take 72++[n64 m]++(sC s b n).drop 73=sC s b m:=by
 rw [yau (by rw [dZ h];exact yaa _),yak]
 unfold sC
 rw [show (72:Nat)=s.enc.length+64 from rfl,ycf,yaF (by rw [rB h];exact yaa _),yab (by rw [rB h];exact yaa _),yaQ]
theorem Uq {t:S8}:t.enc++(sC s b n).drop 8=sC t b n:=by
 unfold sC
 rw [show (8:Nat)=s.enc.length from rfl,ybI]
theorem Qp {c:Bs} {j:Nat} (h:b.length=64) (hj:j+c.length≤64):(sC s b n).take (8+j)++c.map u8++(sC s b n).drop (8+j+c.length)=sC s (jU b c j) n:=by
 unfold sC jU
 have e8:(8:Nat)=s.enc.length:=rfl
 rw [show 8+j=s.enc.length+j from rfl,ycf,Nat.add_assoc,List.drop_length_add_append]
 rw [yaF (by simp;omega),ybp (by simp;omega)]
 simp [yaO,ybo,yaQ]
theorem Qn (h:b.length=64):(((sC s b n).drop 8).take 64).map (fun c=>[c])=b.map by1:=by
 unfold sC
 rw [show (8:Nat)=s.enc.length from rfl,ybI,yaF (by rw [rB h];exact yaa _),yab (by rw [rB h];exact yaa _),ybr]
 rfl
theorem Lr (h:b.length=64):(((sC s b n).drop 8).take 64).all isD=true:=by
 unfold sC
 rw [show (8:Nat)=s.enc.length from rfl,ybI,yaF (by rw [rB h];exact yaa _),yab (by rw [rB h];exact yaa _)]
 simp [isD]
theorem Qq:(sC s b n).all isC=true:=by simp [sC,S8.enc,isC,isD]
theorem iG {q:List Blk}:wfL q (sC s b n):=by
 have:∀ l:List V,l.all isD=true→wfL q l:=by
  intro l
  induction l with
  | nil=>intro _;trivial
  | cons x r ih =>
   intro h
   simp only [yba,yaR] at h
   refine ⟨?_,ih h.2⟩
   cases x<;>simp [isD] at h<;>trivial
 exact this _ (by simp [sC,S8.enc,isD])
theorem iU (h:b.length=64):(sC s b n).take 73=sC s b n:=yab (by rw [dZ h];exact yaa _)
theorem uD (h:b.length=64):(sC s b n).drop 73=[]:=yau (by rw [dZ h];exact yaa _)
theorem tN {f:Nat→Option Nat}:b9 f (sC s b n)=sC s b n:=by
 have:∀ l:List V,l.all isD=true→(∀ x∈l,∃ u,x=.v u)→b9 f l=l:=by
  intro l
  induction l with
  | nil=>intro _ _;rfl
  | cons x r ih =>
   intro h hx
   obtain ⟨u,rfl⟩:=hx x ybJ
   simp only [yba,yaR] at h
   show V.v u::b9 f r=_
   rw [ih h.2 fun y hy=>hx y (ybK _ hy)]
 refine this _ (by simp [sC,S8.enc,isD]) ?_
 intro x hx
 simp only [sC,S8.enc,yao,ybb,yaw,yaG,or_false] at hx
 rcases hx with (rfl|rfl|rfl|rfl|rfl|rfl|rfl|rfl)|⟨u,_,rfl⟩|rfl<;>exact ⟨_,rfl⟩
end
attribute [irreducible] sC
end Go.Fx.H

namespace Go.Fx.R
abbrev Sp:=Int × Int
def Sep (l:List Sp):Prop:=(∀ s∈l,s.1<s.2)∧l.Pairwise (fun s t=>s.2<t.1)
def inS (l:List Sp) (x:Int):Prop:=∃ s∈l,s.1≤x∧x<s.2
theorem iT:Sep []:=⟨by simp,.nil⟩
theorem eK {s:Sp} {l:List Sp}:Sep (s::l)↔s.1<s.2∧(∀ t∈l,s.2<t.1)∧Sep l:=by
 unfold Sep
 rw [ybL]
 simp only [yaw,forall_eq_or_imp]
 constructor
 ·rintro ⟨⟨h1,h2⟩,h3,h4⟩;exact ⟨h1,h3,h2,h4⟩
 ·rintro ⟨h1,h3,h2,h4⟩;exact ⟨⟨h1,h2⟩,h3,h4⟩
theorem gQ {l m:List Sp}:Sep (l++m)↔Sep l∧Sep m∧∀ s∈l,∀ t∈m,s.2<t.1:=by
 unfold Sep
 rw [ycg]
 simp only [yao]
 constructor
 ·rintro ⟨h1,h2,h3,h4⟩
  exact ⟨⟨fun s h=>h1 s (.inl h),h2⟩,⟨fun s h=>h1 s (.inr h),h3⟩,h4⟩
 ·rintro ⟨⟨h1,h2⟩,⟨h3,h4⟩,h5⟩
  exact ⟨fun s h=>h.elim (h1 s) (h3 s),h2,h4,h5⟩
theorem fD {s:Sp}:Sep [s]↔s.1<s.2:=by simp [Sep]
theorem dE {x:Int}:inS [] x↔False:=by simp [inS]
theorem b5 {s:Sp} {l:List Sp} {x:Int}:inS (s::l) x↔(s.1≤x∧x<s.2)∨inS l x:=by
 simp [inS]
theorem lM {l m:List Sp} {x:Int}:inS (l++m) x↔inS l x∨inS m x:=by
 simp only [inS,yao]
 constructor
 ·rintro ⟨s,h|h,h1⟩
  ·exact .inl ⟨s,h,h1⟩
  ·exact .inr ⟨s,h,h1⟩
 ·rintro (⟨s,h,h1⟩|⟨s,h,h1⟩)
  ·exact ⟨s,.inl h,h1⟩
  ·exact ⟨s,.inr h,h1⟩
theorem Nl {l:List Sp} {b x:Int} (h:∀ t∈l,b<t.1) (hx:inS l x):b<x:=by
 obtain ⟨t,h1,h2,_⟩:=hx
 have:=h t h1
 omega
theorem Sep.ext:∀ {l m:List Sp},Sep l→Sep m→(∀ x,inS l x↔inS m x)→l=m
 | [],[],_,_,_=>rfl
 | [],t::m,_,h,e=>by
  rw [eK] at h
  have:=(e t.1).2 (b5.2 (.inl ⟨by omega,h.1⟩))
  exact (dE.1 this).elim
 | s::l,[],h,_,e=>by
  rw [eK] at h
  have:=(e s.1).1 (b5.2 (.inl ⟨by omega,h.1⟩))
  exact (dE.1 this).elim
 | s::l,t::m,hl,hm,e=>by
  rw [eK] at hl hm
  obtain ⟨a1,a2,a3⟩:=hl
  obtain ⟨b1,b2,b3⟩:=hm
  have lb:∀ x,inS l x→s.2<x:=fun x h=>Nl a2 h
  have mb:∀ x,inS m x→t.2<x:=fun x h=>Nl b2 h
  have e':∀ x,((s.1≤x∧x<s.2)∨inS l x)↔((t.1≤x∧x<t.2)∨inS m x):=fun x=>by
   rw [←b5,←b5];exact e x
  have h1:s.1=t.1:=by
   have p:=(e' s.1).1 (.inl ⟨by omega,a1⟩)
   have q:=(e' t.1).2 (.inl ⟨by omega,b1⟩)
   have p':t.1≤s.1:=by
    rcases p with p|p
    ·exact p.1
    ·have:=mb _ p;omega
   have q':s.1≤t.1:=by
    rcases q with q|q
    ·exact q.1
    ·have:=lb _ q;omega
   omega
  have h2:s.2=t.2:=by
   rcases Int.lt_trichotomy s.2 t.2 with c|c|c
   ·have p:=(e' s.2).2 (.inl ⟨by omega,c⟩)
    rcases p with p|p
    ·omega
    ·have:=lb _ p;omega
   ·exact c
   ·have p:=(e' t.2).1 (.inl ⟨by omega,c⟩)
    rcases p with p|p
    ·omega
    ·have:=mb _ p;omega
  have h3:s=t:=Prod.ext h1 h2
  subst h3
  congr 1
  refine Sep.ext a3 b3 fun x=>⟨fun h=>?_,fun h=>?_⟩
  ·have:=lb x h
   rcases (e' x).1 (.inr h) with p|p
   ·omega
   ·exact p
  ·have:=mb x h
   rcases (e' x).2 (.inr h) with p|p
   ·omega
   ·exact p
def iX (st:List Sp × Bool × Sp) (t:Sp):List Sp × Bool × Sp :=
 if t.2<st.2.2.1 then (st.1++[t],st.2.1,st.2.2)
 else if st.2.2.2<t.1 then ((if st.2.1 then st.1 else st.1++[st.2.2])++[t],true,st.2.2)
 else (st.1,st.2.1,(min st.2.2.1 t.1,max st.2.2.2 t.2))
def oO (st:List Sp × Bool × Sp):List Sp:=if st.2.1 then st.1 else st.1++[st.2.2]
def xD (l:List Sp) (s:Sp):List Sp:=if s.2≤s.1 then l else oO (l.foldl iX ([],false,s))
theorem Bk:∀ (q:List Sp) (o:List Sp) (t:Sp) (S:Int→Prop),Sep q→Sep (o++[t])→(∀ u∈o,∀ v∈q,u.2<v.1)→(∀ x,inS (o++[t]) x↔S x) →
  Sep (oO (q.foldl iX (o,false,t)))∧∀ x,inS (oO (q.foldl iX (o,false,t))) x↔S x∨inS q x
 | [],o,t,S,_,h2,_,h4=>by
  refine ⟨by simpa [oO] using h2,fun x=>?_⟩
  rw [dE,or_false,←h4];simp [oO]
 | v::q,o,t,S,h1,h2,h3,h4=>by
  obtain ⟨v1,v2,v3⟩:=eK.1 h1
  obtain ⟨o1,o2,o3⟩:=gQ.1 h2
  have t1:t.1<t.2:=fD.1 o2
  have o4:∀ u∈o,u.2<t.1:=fun u hu=>o3 u hu t (by simp)
  rw [ybM]
  by_cases c1:v.2<t.1
  ·have e:iX (o,false,t) v=(o++[v],false,t):=if_pos c1
   rw [e]
   have r:=Bk q (o++[v]) t (fun x=>S x∨inS [v] x) v3 (by
    rw [yaQ]
    refine gQ.2 ⟨o1,eK.2 ⟨v1,by simpa using c1,fD.2 t1⟩,fun u hu w hw=>?_⟩
    simp only [yaH,ybc,yaw,yaG,or_false] at hw
    rcases hw with rfl|rfl
    ·exact h3 u hu _ (by simp)
    ·exact o4 u hu) (fun u hu w hw=>by
    rw [yao,yap] at hu
    rcases hu with hu|rfl
    ·exact h3 u hu w (by simp [hw])
    ·exact v2 w hw) (fun x=>by
    rw [←h4]
    simp only [lM,b5,dE,or_false]
    constructor
    ·rintro ((h|h)|h)<;>simp [h]
    ·rintro ((h|h)|h)<;>simp [h])
   refine ⟨r.1,fun x=>(r.2 x).trans ?_⟩
   simp only [b5,dE,or_false,or_assoc]
  ·by_cases c2:t.2<v.1
   ·have e:iX (o,false,t) v=(o++[t]++[v],true,t):=by
     show (if v.2<t.1 then _ else if t.2<v.1 then ((if false=true then o else o++[t])++[v],true,t) else _)=_
     rw [if_neg c1,if_pos c2];rfl
    rw [e]
    have tl:∀ (q o:List Sp),(∀ w∈q,t.2<w.1∧w.1<w.2)→q.foldl iX (o,true,t)=(o++q,true,t):=by
     intro q
     induction q with
     | nil=>intro o _;simp
     | cons w q ih =>
      intro o hq
      have hw:=hq w (by simp)
      rw [ybM]
      have e:iX (o,true,t) w=(o++[w],true,t):=by
       show (if w.2<t.1 then _ else if t.2<w.1 then ((if true=true then o else o++[t])++[w],true,t) else _)=_
       rw [if_neg (by omega),if_pos hw.1];rfl
      rw [e,ih _ fun w hw=>hq w (by simp [hw])]
      simp
    rw [tl q _ fun w hw=>⟨by have:=v2 w hw;omega,v3.1 w hw⟩]
    have e2:oO (o++[t]++[v]++q,true,t)=(o++[t])++(v::q):=by simp [oO]
    rw [e2]
    refine ⟨gQ.2 ⟨h2,h1,fun u hu w hw=>?_⟩,fun x=>by rw [lM,h4]⟩
    rw [yao,yap] at hu
    rcases hu with hu|rfl
    ·exact h3 u hu w hw
    ·rw [yaw] at hw
     rcases hw with rfl|hw
     ·exact c2
     ·have:=v2 w hw;omega
   ·have e:iX (o,false,t) v=(o,false,(min t.1 v.1,max t.2 v.2)):=by
     show (if v.2<t.1 then _ else if t.2<v.1 then _ else (o,false,(min t.1 v.1,max t.2 v.2)))=_
     rw [if_neg c1,if_neg c2]
    rw [e]
    have r:=Bk q o (min t.1 v.1,max t.2 v.2) (fun x=>S x∨inS [v] x) v3 (by
     refine gQ.2 ⟨o1,fD.2 (by show min t.1 v.1<max t.2 v.2;omega),fun u hu w hw=>?_⟩
     rw [yap] at hw
     subst hw
     have:=o4 u hu
     have:=h3 u hu v (by simp)
     show u.2<min t.1 v.1
     omega) (fun u hu w hw=>h3 u hu w (by simp [hw])) (fun x=>by
     rw [←h4]
     simp only [lM,b5,dE,or_false]
     constructor
     ·rintro (h|h)
      ·exact .inl (.inl h)
      ·by_cases c:t.1≤x∧x<t.2
       ·exact .inl (.inr c)
       ·exact .inr (by omega)
     ·rintro ((h|h)|h)
      ·exact .inl h
      ·exact .inr (by omega)
      ·exact .inr (by omega))
    refine ⟨r.1,fun x=>(r.2 x).trans ?_⟩
    simp only [b5,dE,or_false,or_assoc]
theorem oY {l:List Sp} {s:Sp} (h:Sep l):Sep (xD l s):=by
 unfold xD
 split
 ·exact h
 ·exact (Bk l [] s (inS [s]) h (by simpa [fD] using Int.not_le.1 ‹_›) (by simp) (by simp)).1
theorem Ak {l:List Sp} {s:Sp} {x:Int} (h:Sep l):inS (xD l s) x↔inS l x∨(s.1≤x∧x<s.2):=by
 unfold xD
 split
 ·constructor
  ·exact .inl
  ·rintro (h|h)
   ·exact h
   ·omega
 ·rw [(Bk l [] s (inS [s]) h (by simpa [fD] using Int.not_le.1 ‹_›) (by simp) (by simp)).2]
  rw [b5,dE,or_false,or_comm]
def vT (a b:List Sp):List Sp:=b.foldl xD a
theorem xO:∀ {b a:List Sp},Sep a→Sep (vT a b)
 | [],_,h=>h
 | _::b,_,h=>xO (b:=b) (oY h)
theorem Dh {x:Int}:∀ {b a:List Sp},Sep a→(inS (vT a b) x↔inS a x∨inS b x)
 | [],_,_=>by simp [vT,dE]
 | s::b,a,h=>by
  have:=Dh (x:=x) (b:=b) (oY (s:=s) h)
  show inS (vT (xD a s) b) x↔_
  rw [this,Ak h,b5,or_assoc]
def ofS (l:List Sp):List Sp:=vT [] l
theorem fE {l:List Sp}:Sep (ofS l):=xO iT
theorem oF {l:List Sp} {x:Int}:inS (ofS l) x↔inS l x:=by
 unfold ofS
 rw [Dh iT,dE,false_or]
theorem Qx {l:List Sp} (h:Sep l):ofS l=l:=Sep.ext fE h fun _=>oF
theorem Qy {l m:List Sp}:ofS (l++m)=vT (ofS l) m:=by simp [ofS,vT]
theorem Sf {l:List Sp} {s:Sp} (h:Sep l):ofS (l++[s])=xD l s:=by
 rw [Qy,Qx h];rfl
def vM (s t:Sp):List Sp:=(if min t.2 s.1≤t.1 then [] else [(t.1,min t.2 s.1)])++(if t.2≤max t.1 s.2 then [] else [(max t.1 s.2,t.2)])
def Fu (l:List Sp) (s:Sp):List Sp:=if s.2≤s.1 then l else l.flatMap (vM s)
theorem Ax {s t u:Sp} (h:u∈vM s t):t.1≤u.1∧u.2≤t.2∧u.1<u.2:=by
 unfold vM at h
 rw [yao] at h
 rcases h with h|h
 ·split at h
  ·simp at h
  ·rw [yap] at h;subst h;simp only;omega
 ·split at h
  ·simp at h
  ·rw [yap] at h;subst h;simp only;omega
theorem Oj {s t:Sp} (hs:s.1<s.2):Sep (vM s t):=by
 unfold vM
 refine gQ.2 ⟨?_,?_,?_⟩
 ·split
  ·exact iT
  ·exact fD.2 (by simp only;omega)
 ·split
  ·exact iT
  ·exact fD.2 (by simp only;omega)
 ·intro a ha b hb
  split at ha
  ·simp at ha
  ·split at hb
   ·simp at hb
   ·rw [yap] at ha hb;subst ha hb;simp only;omega
theorem Ol {s t:Sp} {x:Int}:inS (vM s t) x↔(t.1≤x∧x<t.2)∧¬(s.1≤x∧x<s.2)∨(t.1≤x∧x<t.2∧s.2≤s.1)∧inS (vM s t) x:=by
 constructor
 ·intro h
  by_cases c:s.2≤s.1
  ·obtain ⟨u,h1,h2,h3⟩:=h
   have:=Ax h1
   exact .inr ⟨⟨by omega,by omega,c⟩,⟨u,h1,h2,h3⟩⟩
  ·refine .inl ?_
   obtain ⟨u,h1,h2,h3⟩:=h
   unfold vM at h1
   rw [yao] at h1
   rcases h1 with h1|h1
   ·split at h1
    ·simp at h1
    ·rw [yap] at h1;subst h1;simp only at h2 h3;omega
   ·split at h1
    ·simp at h1
    ·rw [yap] at h1;subst h1;simp only at h2 h3;omega
 ·rintro (⟨⟨h1,h2⟩,h3⟩|h)
  ·unfold vM
   rw [lM]
   by_cases c:x<s.1
   ·left
    rw [if_neg (by omega)]
    exact b5.2 (.inl ⟨by simp only;omega,by simp only;omega⟩)
   ·right
    rw [if_neg (by omega)]
    exact b5.2 (.inl ⟨by simp only;omega,by simp only;omega⟩)
  ·exact h.2
theorem Dl {s:Sp} (hs:s.1<s.2):∀ {l:List Sp},Sep l→Sep (l.flatMap (vM s))
 | [],_=>iT
 | t::l,h=>by
  obtain ⟨h1,h2,h3⟩:=eK.1 h
  rw [ybN]
  refine gQ.2 ⟨Oj hs,Dl hs h3,fun a ha b hb=>?_⟩
  rw [List.mem_flatMap] at hb
  obtain ⟨u,hu,hb⟩:=hb
  have:=Ax ha
  have:=Ax hb
  have:=h2 u hu
  omega
theorem Ln {l:List Sp} {s:Sp} (h:Sep l):Sep (Fu l s):=by
 unfold Fu
 split
 ·exact h
 ·exact Dl (by omega) h
theorem Rf {l:List Sp} {s:Sp} {x:Int}:inS (Fu l s) x↔inS l x∧¬(s.1≤x∧x<s.2):=by
 unfold Fu
 split
 ·constructor
  ·exact fun h=>⟨h,by omega⟩
  ·exact fun h=>h.1
 ·have hs:¬s.2≤s.1:=‹_›
  have:∀ l:List Sp,inS (l.flatMap (vM s)) x↔inS l x∧¬(s.1≤x∧x<s.2):=by
   intro l
   induction l with
   | nil=>simp [dE]
   | cons t l ih =>
    rw [ybN,lM,ih,b5,Ol]
    constructor
    ·rintro ((h|h)|h)
     ·exact ⟨.inl h.1,h.2⟩
     ·omega
     ·exact ⟨.inr h.1,h.2⟩
    ·rintro ⟨h|h,h'⟩
     ·exact .inl (.inl ⟨h,h'⟩)
     ·exact .inr ⟨h,h'⟩
  exact this l
def i5 (a b:List Sp):List Sp:=b.foldl Fu a
theorem nX:∀ {b a:List Sp},Sep a→Sep (i5 a b)
 | [],_,h=>h
 | _::b,_,h=>nX (b:=b) (Ln h)
theorem nC {x:Int}:∀ {b a:List Sp},inS (i5 a b) x↔inS a x∧¬inS b x
 | [],a=>by simp [i5,dE]
 | s::b,a=>by
  have:=nC (x:=x) (b:=b) (a:=Fu a s)
  show inS (i5 (Fu a s) b) x↔_
  rw [this,Rf,b5,not_or,and_assoc]
def xX (a b:List Sp):List Sp:=i5 a (i5 a b)
theorem xN {a b:List Sp} (h:Sep a):Sep (xX a b):=nX h
theorem Dg {a b:List Sp} {x:Int}:inS (xX a b) x↔inS a x∧inS b x:=by
 unfold xX
 rw [nC,nC]
 constructor
 ·rintro ⟨h1,h2⟩
  exact ⟨h1,Classical.byContradiction fun h=>h2 ⟨h1,h⟩⟩
 ·rintro ⟨h1,h2⟩
  exact ⟨h1,fun h=>h.2 h2⟩
def mrg (o:List Sp) (s:Sp):List Sp :=
 if s.2≤s.1 then o else
  match o.getLast? with
  | none=>[s]
  | some t=>if s.1≤t.2 then o.dropLast++[(t.1,max t.2 s.2)] else o++[s]
theorem My:∀ (d:List Sp) (o:List Sp),d.Pairwise (fun s t=>s.1≤t.1)→Sep o→(∀ s∈o,∀ t∈d,s.1≤t.1) →
  Sep (d.foldl mrg o)∧∀ x,inS (d.foldl mrg o) x↔inS o x∨inS d x
 | [],o,_,h,_=>⟨h,by simp [dE]⟩
 | s::d,o,hp,h,ho=>by
  obtain ⟨hp1,hp2⟩:=ybL.1 hp
  rw [ybM]
  have key:Sep (mrg o s)∧(∀ x,inS (mrg o s) x↔inS o x∨(s.1≤x∧x<s.2))∧∀ u∈mrg o s,∀ t∈d,u.1≤t.1:=by
   unfold mrg
   by_cases c:s.2≤s.1
   ·rw [if_pos c]
    refine ⟨h,fun x=>?_,fun u hu t ht=>ho u hu t (by simp [ht])⟩
    constructor
    ·exact .inl
    ·rintro (h|h)
     ·exact h
     ·omega
   ·rw [if_neg c]
    rcases ybO o with rfl|⟨p,t,rfl⟩
    ·simp only [List.getLast?_nil]
     refine ⟨fD.2 (by omega),fun x=>by rw [b5,dE];simp,fun u hu t ht=>?_⟩
     rw [yap] at hu
     subst hu
     exact hp1 t ht
    ·rw [ybP] at *
     simp only [List.getLast?_append,List.getLast?_singleton,Option.some_or,ybQ]
     obtain ⟨p1,p2,p3⟩:=gQ.1 h
     have t1:=fD.1 p2
     have hts:=ho t (by simp) s (by simp)
     have p4:∀ u∈p,u.2<t.1:=fun u hu=>p3 u hu t (by simp)
     by_cases c2:s.1≤t.2
     ·rw [if_pos c2]
      refine ⟨gQ.2 ⟨p1,fD.2 (by simp only;omega),fun u hu w hw=>by rw [yap] at hw;subst hw;exact p4 u hu⟩,fun x=>?_,fun u hu w hw=>?_⟩
      ·simp only [lM,b5,dE,or_false,or_assoc]
       constructor
       ·rintro (h|h)
        ·exact .inl h
        ·by_cases c3:x<t.2
         ·exact .inr (.inl ⟨h.1,c3⟩)
         ·exact .inr (.inr (by omega))
       ·rintro (h|h|h)
        ·exact .inl h
        ·exact .inr (by omega)
        ·exact .inr (by omega)
      ·rw [yao,yap] at hu
       rcases hu with hu|rfl
       ·exact ho u (by simp [hu]) w (by simp [hw])
       ·exact ho t (by simp) w (by simp [hw])
     ·rw [if_neg c2]
      refine ⟨gQ.2 ⟨h,fD.2 (by omega),fun u hu w hw=>?_⟩,fun x=>by simp only [lM,b5,dE,or_false],fun u hu w hw=>?_⟩
      ·rw [yap] at hw;subst hw
       rw [yao,yap] at hu
       rcases hu with hu|rfl
       ·have:=p4 u hu;omega
       ·omega
      ·rw [yao,yap (b:=s)] at hu
       rcases hu with hu|rfl
       ·exact ho u hu w (by simp [hw])
       ·exact hp1 w hw
  have r:=My d (mrg o s) hp2 key.1 key.2.2
  refine ⟨r.1,fun x=>?_⟩
  rw [r.2,key.2.1,b5,or_assoc]
theorem Vw {d l:List Sp} (hp:d.Pairwise (fun s t=>s.1≤t.1)) (hm:∀ s,s∈d↔s∈l):d.foldl mrg []=ofS l:=by
 have r:=My d [] hp iT (by simp)
 refine Sep.ext r.1 fE fun x=>?_
 rw [r.2,oF,dE,false_or]
 simp only [inS,hm]
end Go.Fx.R
namespace Go.Fx.H
open Go Go.Fx Go.Proofs Go.Fx.R
abbrev Ok (f:FuncId) (xs:List V) (R:V→List Blk→Prop):Prop:=OkN Tryz.prog f xs [] [] R
theorem bW {f:FuncId} {l0 l:LCode} {rs:List eT} {nt:Nat} (hl:rlF Tryz.prog f l0=some (l,rs,nt)) {args:List V} {R:V→List Blk→Prop} (hlen:args.length≤nt)
  (h:aw (cxN Tryz.prog []) l (eJ [] 0 rs R) (fun _ _=>False) (eJ [] 0 rs R) ⟨aL 0 args,[],0⟩):Ok f args R :=
 fR pol [] hl hlen trivial (fun k hk=>by simp at hk) h
theorem afT {a c:Int} {K:V→Prop} {x:Bool}:b6 .and x .u64 a c K=K (.v (.int .u64 (IntKind.u64.wrap ((yag 64 a &&& yag 64 c).toNat:Int)))):=rfl
theorem acQ:Bw 0 64=some tC:=by kernel_rfl
def sb (l:Bs):ByteArray:=⟨l.toArray⟩
abbrev sv (l:Bs):V:=.v (.string (sb l))
theorem bQ {l:Bs}:(sb l).size=l.length:=rfl
theorem fF {l:Bs}:(sb l).toList=l:=(ByteArray.toList_eq _).trans rfl
theorem Xr {b:ByteArray}:∃ l,b=sb l:=⟨b.data.toList,by cases b;simp [sb]⟩
theorem nQ:Value.string ⟨#[]⟩=.string (sb []):=rfl
theorem eQ {l:Bs} {a b:Nat}:(sb l).extract a b=sb ((l.take b).drop a):=by
 apply ByteArray.ext
 show ((sb l).extract a b).data=_
 rw [ByteArray.data_extract]
 apply Array.ext'
 simp [sb,Array.toList_extract,List.extract,List.drop_take]
theorem Wt {P:Program} {fx:List Nat}:(cxN P fx).fx=fx:=rfl
theorem vS {cx:Cx} {f:FuncId} {args:List V} {e:Env} {h:List Blk} {b:Nat} {K:V→St→Prop} {G:Type} (Q:G→Prop) (xs:List V) (x:G→V) (hC:cx.C f xs [] [] (IsQ Q x (fun _=>[])))
  (h1:aM h (fun _=>none) args∧wkL xs (aX h (fun _=>none) args)) (hx:∀ g,ren (fun j=>some (h.length+j)) (x g)=x g) (keep:aC cx.fx h) (h3:∀ g,Q g→K (x g) ⟨e,h,b⟩):eG cx f args ⟨e,h,b⟩ K:=by
 refine oK xs _ h1 hC ?_
 rintro r h' ⟨g,hg,rfl,rfl⟩
 simp only [yaS,yak]
 exact ⟨keep,by rw [hx];exact h3 g hg⟩
theorem gD {fx:List Nat} {f:(St→Prop)→St→Prop} {s:St} {G:Type} (pat:G→St) (I:G→Prop) (μ:G→Nat) (g:G) (h0:I g) (h1:leS fx s (pat g))
  (h:∀ g,I g→∀ N:St→Prop,(∀ s' g',I g'→μ g'<μ g→leS fx s' (pat g')→N s')→f N (pat g)):sQ fx f s :=
 aV pat I μ g h0 h1 fun g hg=>h g hg _ fun s' g' a b c=>⟨g',⟨a,b⟩,c⟩
def enS (s:Sp):List V:=[.i s.1,.i s.2]
def encI (x:Int):List V:=[.i x]
abbrev aG (l:List Sp):V:=.ro 2 (l.map enS)
theorem bE {s:Sp}:(enS s).length=2:=rfl
theorem bR {s:Sp}:yac 2 (enS s)=enS s:=rfl
theorem pT {s:Sp}:(enS s)[0]?=some (.i s.1):=rfl
theorem j0 {s:Sp}:(enS s)[1]?=some (.i s.2):=rfl
theorem fH {s:Sp}:(enS s).all isC=true:=rfl
theorem iL {s:Sp}:(enS s).all isD=true:=rfl
theorem mO {s:Sp}:yav 2 (enS s)=[]:=rfl
theorem dH {s:Sp} {M:List Nat}:a8 M (enS s)=enS s:=rfl
theorem Wr {x:Int}:(encI x)[0]?=some (.i x):=rfl
def enL (a:List Sp):List V:=[aG a]
theorem Ti {a:List Sp}:(enL a)[0]?=some (aG a):=rfl
theorem aaT {s t:Sp} {K:Bool→Prop}:(cR (j6 (V.agg (enS s))) fun xs=>cR (j6 (V.agg (enS t))) fun ys=>eS xs ys [(0,TypeDesc.int IntKind.i64),(1,TypeDesc.int IntKind.i64)] K)=K (s==t):=by
 have e:(s.1==t.1&&(s.2==t.2&&true))=(s==t):=by
  obtain ⟨a,b⟩:=s
  obtain ⟨c,d⟩:=t
  rw [ybs]
  simp
 apply propext
 rw [←e]
 constructor
 ·exact fun h=>h.2.2
 ·exact fun h=>⟨⟨rfl,rfl⟩,⟨rfl,rfl⟩,h⟩
def Bd (l:List Sp):Prop:=∀ s∈l,(0≤s.1∧s.1≤1099511627776)∧0≤s.2∧s.2≤1099511627776
def Vd (l:List Sp):Prop:=Sep l∧Bd l
def vdB:Int→List Sp→Bool
 | _,[]=>true
 | t,s::r=>(decide (0≤s.1)&&decide (s.1<s.2)&&decide (s.2≤1099511627776))&&decide (t<s.1)&&vdB s.2 r
theorem Gw:∀ {l:List Sp} {t:Int},vdB t l=true↔Vd l∧∀ s∈l,t<s.1
 | [],t=>by simp [vdB,Vd,iT,Bd]
 | s::r,t=>by
  have ih:=Gw (l:=r) (t:=s.2)
  simp only [vdB,yaR,decide_eq_true_eq,ih,Vd,eK,Bd,yaw,forall_eq_or_imp]
  constructor
  ·rintro ⟨⟨⟨⟨h1,h2⟩,h3⟩,h4⟩,⟨h5,h6⟩,h7⟩
   exact ⟨⟨⟨h2,h7,h5⟩,⟨⟨h1,by omega⟩,by omega,h3⟩,h6⟩,h4,fun u hu=>by have:=h7 u hu;omega⟩
  ·rintro ⟨⟨⟨h2,h7,h5⟩,⟨⟨h1,_⟩,_,h3⟩,h6⟩,h4,_⟩
   exact ⟨⟨⟨⟨h1,h2⟩,h3⟩,h4⟩,⟨h5,h6⟩,h7⟩
def vd (l:List Sp):Bool:=vdB (-1) l
theorem Kv {l:List Sp}:vd l=true↔Vd l:=by
 unfold vd
 rw [Gw]
 constructor
 ·exact fun h=>h.1
 ·exact fun h=>⟨h,fun s hs=>by have:=(h.2 s hs).1.1;omega⟩
def tot (l:List Sp):Int:=(l.map fun s=>s.2-s.1).sum
theorem Gx:tot []=0:=rfl
theorem jM {s:Sp} {l:List Sp}:tot (s::l)=s.2-s.1+tot l:=by simp [tot]
theorem Gy {l m:List Sp}:tot (l++m)=tot l+tot m:=by simp [tot]
theorem Lc:∀ {l:List Sp} {a b:Int},Sep l→(∀ s∈l,a≤s.1∧s.2≤b)→a≤b→0≤tot l∧tot l≤b-a
 | [],a,b,_,_,h=>by rw [Gx];omega
 | s::l,a,b,h1,h2,h=>by
  obtain ⟨h3,h4,h5⟩:=eK.1 h1
  have hs:=h2 s (by simp)
  have ih:=Lc (l:=l) (a:=s.2) (b:=b) h5 (fun t ht=>⟨by have:=h4 t ht;omega,(h2 t (by simp [ht])).2⟩) hs.2
  rw [jM]
  omega
theorem Vd.tot {l:List Sp} (h:Vd l):0≤tot l∧H.tot l≤1099511627776:=by
 have:=Lc (a:=0) (b:=1099511627776) h.1 (fun s hs=>⟨(h.2 s hs).1.1,(h.2 s hs).2.2⟩) (by omega)
 omega
theorem Vd.tail {s:Sp} {l:List Sp} (h:Vd (s::l)):Vd l:=⟨(eK.1 h.1).2.2,fun t ht=>h.2 t (by simp [ht])⟩
theorem Vd.take {l:List Sp} (h:Vd l) (k:Nat):Vd (l.take k):=⟨⟨fun s hs=>h.1.1 s (ybt hs),h.1.2.sublist (List.take_sublist k l)⟩,fun t ht=>h.2 t (ybt ht)⟩
theorem Vd.len {l:List Sp} (h:Vd l):l.length≤1099511627776:=by
 have key:∀ {l:List Sp},Sep l→(l.length:Int)≤H.tot l:=by
  intro l
  induction l with
  | nil=>intro _;simp [H.tot]
  | cons s l ih =>
   intro h
   obtain ⟨h1,h2,h3⟩:=eK.1 h
   have:=ih h3
   rw [jM,yas]
   omega
 have:=key h.1
 have:=h.tot
 omega
theorem Ku {l:List Sp} (h:Sep l) (hx:∀ x,inS l x→0≤x∧x<1099511627776):Vd l:=by
 refine ⟨h,fun s hs=>?_⟩
 have h1:=h.1 s hs
 have a:=hx s.1 ⟨s,hs,by omega,h1⟩
 have b:=hx (s.2-1) ⟨s,hs,by omega,by omega⟩
 omega
theorem Vd.in {l:List Sp} (h:Vd l) {x:Int} (hx:inS l x):0≤x∧x<1099511627776:=by
 obtain ⟨s,hs,h1,h2⟩:=hx
 have:=h.2 s hs
 omega
theorem abF {l:List Sp} (h:Bd l) {x:Int} (hx:inS l x):0≤x∧x<1099511627776:=by
 obtain ⟨s,hs,h1,h2⟩:=hx
 have:=h s hs
 omega
def BdS (s:Sp):Prop:=(0≤s.1∧s.1≤1099511627776)∧0≤s.2∧s.2≤1099511627776
theorem Vd.add {l:List Sp} {s:Sp} (h:Vd l) (hs:BdS s):Vd (xD l s):=Ku (oY h.1) fun x hx=>by
 rw [Ak h.1] at hx
 rcases hx with hx|hx
 ·exact h.in hx
 ·unfold BdS at hs;omega
theorem Vd.of {l:List Sp} (h:Bd l):Vd (ofS l):=Ku fE fun x hx=>abF h (oF.1 hx)
theorem Ua:Vd []:=⟨iT,by simp [Bd]⟩
theorem Yi:∀ n:Fin 32,n.val≠0→IntKind.u64.wrap (32-((32-n.val:Nat):Int))=(n.val:Int):=by decide
theorem uS (x:W) (n:Nat) (h:1≤n∧n≤31):Ok 211 [w x,.i (-(n:Int))] (Is (w (rr x n))):=by
 have ra:=Yk ⟨n,by omega⟩ (by simp;omega)
 have rb:=Yj ⟨n,by omega⟩ (by simp;omega)
 have rc:=Yi ⟨n,by omega⟩ (by simp;omega)
 simp only at ra rb rc
 refine bW lw211 (by simp) ?_
 unfold c211
 have s1:∀ {K:V→Prop},cF .shl .u32 (x.toNat:Int) ((32-n:Nat):Int) K=K (w (x <<< (32-n))):=Ot (by omega)
 have s2:∀ {K:V→Prop},cF .shr .u32 (x.toNat:Int) (n:Int) K=K (w (x >>> n)):=Be (by omega)
 simp -implicitDefEqProofs only [rX,↓rY,aA,↓reduceIte,Nat.reduceEqDiff,reduceCtorEq,aU,aY,wfV,cxN,aL,↓afT,ra,rb,rc,↓s1,↓s2,↓Tk]
 unfold rr
 rw [BitVec.or_comm]
theorem z6 {a:Nat} (h:a≤31):IntKind.i64.wrap (-(a:Int))=-(a:Int):=by
 have:=(show ∀ n:Fin 32,IntKind.i64.wrap (-(n.val:Int))=-(n.val:Int) by decide) ⟨a,by omega⟩
 simpa using this
theorem Sz (x:W) (a b c:Nat) (ha:1≤a∧a≤31) (hb:1≤b∧b≤31) (hc:1≤c∧c≤31):Ok 183 [w x,.i a,.i b,.i c] (Is (w (rr x a ^^^ rr x b ^^^ rr x c))):=by
 refine bW lw183 (by simp) ?_
 unfold c183
 simp -implicitDefEqProofs only [rX,aA,↓reduceIte,Nat.reduceEqDiff,Nat.reduceAdd,reduceCtorEq,cxN,aL,z6 ha.2,z6 hb.2,z6 hc.2]
 refine aE (uS x a ha) (by simp [aM,bG,aX,cY,wkL,wk,wkR]) rfl trivial ?_
 simp -implicitDefEqProofs only [rX,↓reduceIte,Nat.reduceEqDiff,reduceCtorEq,z6 hb.2,z6 hc.2]
 refine aE (uS x b hb) (by simp [aM,bG,aX,cY,wkL,wk,wkR]) rfl trivial ?_
 simp -implicitDefEqProofs only [rX,↓reduceIte,Nat.reduceEqDiff,reduceCtorEq,z6 hb.2,z6 hc.2,↓oL]
 refine aE (uS x c hc) (by simp [aM,bG,aX,cY,wkL,wk,wkR]) rfl trivial ?_
 simp -implicitDefEqProofs only [rX,↓reduceIte,Nat.reduceEqDiff,aU,aY,wfV,z6 hb.2,z6 hc.2,↓oL]
set_option maxRecDepth 20000
theorem t7 (bs:List UInt8) {i:Nat} (hi:i≤64):(gJ bs i).length=64:=by
 unfold gJ
 rw [yad,f9,ych]
 omega
theorem Ue (bs:List UInt8):gJ bs 0=z64:=by unfold gJ z64;rfl
theorem Qk (bs:List UInt8):gJ bs 64=wds bs 64:=by simp [gJ]
theorem Ld (bs:List UInt8) {i:Nat} (hi:i<64) (x:W) (hx:x=if i<16 then p9 bs i else next (wds bs i)):(gJ bs i).set i x=gJ bs (i+1):=by
 unfold gJ
 rw [ybu _ _ (by rw [f9];exact yaa _),f9,ybR,show 64-i=(64-(i+1))+1 by omega,yaz,yaT]
 subst hx
 simp [wds]
theorem oV (bs:List UInt8) {i j:Nat} (hi:i≤64) (hj:j<i):wn (gJ bs i) j=wn (wds bs i) j:=by
 unfold gJ wn
 rw [yat,yat,yci (by rw [f9];exact hj)]
def part (bs:List UInt8) (i:Nat):Nat→W
 | 0=>0
 | j+1=>part bs i j <<< 8 ||| B32 (bn bs (4*i+j))
theorem Vk (bs:List UInt8) (i:Nat):part bs i 4=p9 bs i:=by
 unfold p9
 rw [←Qa]
 rfl
def lF (bs:List UInt8) (i j:Nat):List W:=(gJ bs i).set i (part bs i j)
theorem Uf (bs:List UInt8) {i:Nat} (hi:i<64):lF bs i 0=gJ bs i:=by
 unfold lF gJ
 rw [ybu _ _ (by rw [f9];exact yaa _),f9,ybR,show 64-i=(64-(i+1))+1 by omega,yaz,yaT]
 rfl
theorem Lf (bs:List UInt8) {i j:Nat} (hi:i≤64):(lF bs i j).length=64:=by
 unfold lF
 rw [List.length_set,t7 bs hi]
theorem Lg (bs:List UInt8) {i j:Nat} (hi:i<64):wn (lF bs i j) i=part bs i j:=by
 unfold lF wn
 rw [yat,List.getElem?_set_self (by rw [t7 bs (by omega)];exact hi)]
 rfl
theorem Le (bs:List UInt8) {i j:Nat} (x:W) (hx:x=part bs i (j+1)):(lF bs i j).set i x=lF bs i (j+1):=by
 unfold lF
 rw [List.set_set,hx]
abbrev byV (bs:List UInt8):V:=.bro 1 (bs.map by1)
set_option maxHeartbeats 1000000 in
theorem Za (bs:List UInt8) (hb:bs.length=64):Ok 182 [byV bs] (Is (.agg (ws (wds bs 64)))):=by
 refine bW lw182 (by simp) ?_
 unfold c182
 simp -implicitDefEqProofs only [rX,↓rY,aA,cells?,Nat.reduceAdd,aD,cxN,aL,w0]
 have lW:(wds bs 64).length=64:=f9 bs 64
 refine gD (fun i:Nat=>(⟨[(11,.i i),(3,.ptr 1 0 0),(2,.ptr 0 0 0),(0,byV bs)],[.var (ws z64),.var (ws (gJ bs i))],2⟩:St)) (fun i=>i≤64) (fun i=>64-i) 0 (yai _) ?_ ?_
 ·rw [Ue]
  exact ⟨by simp -implicitDefEqProofs only [rX,↓reduceIte,Nat.reduceEqDiff,reduceCtorEq,leE];rfl,cH _,trivial,by simp -implicitDefEqProofs only [rX,aB,wfE,wfV],⟨gM,gM,trivial⟩⟩
 intro i hi N hN
 simp only [c182l0]
 simp -implicitDefEqProofs only [rX,↓rY,aA,cells?,splice,↓reduceIte,Nat.reduceEqDiff,Nat.reduceAdd,reduceCtorEq,cP,aU,aY,wfV,yal]
 cases h1:decide ((i:Int)<64) with
 | false =>
  have h1':=of_decide_eq_false h1
  have:i=64:=by omega
  subst this
  simp -implicitDefEqProofs only [rX,↓rY,Qk,yU,Xh lW,lW,tF,Sn tF,Xg,gM]
 | true =>
  have h1':=of_decide_eq_true h1
  have hi64:i<64:=by omega
  have lT:(gJ bs i).length=64:=t7 bs hi
  have fin:∀ (x:W) (e:Env),x=(if i<16 then p9 bs i else next (wds bs i))→get e 3=.ptr 1 0 0→get e 2=.ptr 0 0 0→get e 0=byV bs →
    N (⟨(11,.i ((i:Int)+1))::e,[.var (ws z64),.var (ws ((gJ bs i).set i x))],2⟩:St):=by
   intro x e hx e3 e2 e0
   refine hN _ (i+1) (by omega) (by omega) ?_
   rw [Ld bs hi64 x hx]
   exact ⟨by simp -implicitDefEqProofs only [rX,↓reduceIte,Nat.reduceEqDiff,reduceCtorEq,leE,e3,e2,e0];simp,cH _,trivial,by simp -implicitDefEqProofs only [rX,aB,wfE,wfV],⟨gM,gM,trivial⟩⟩
  have sp:∀ x:W,yac i (ws (gJ bs i))++[w x]++yav (i+1) (ws (gJ bs i))=ws ((gJ bs i).set i x):=fun x=>Kk (by omega)
  simp -implicitDefEqProofs only [↓rY]
  cases h2:decide ((i:Int)<16) with
  | true =>
   have h2':=of_decide_eq_true h2
   have h4:yac ((4*(i:Int)+4).toNat-(4*(i:Int)).toNat) (yav (4*(i:Int)).toNat (yae by1 bs))=((bs.drop (4*i)).take 4).map by1:=by
    rw [show (4*(i:Int)+4).toNat-(4*(i:Int)).toNat=4 by omega,show (4*(i:Int)).toNat=4*i by omega,yaO,ybo]
   have l4:((bs.drop (4*i)).take 4).length=4:=by simp;omega
   have a1:(lo IntKind.i64≤4*(i:Int)∧4*(i:Int)≤Fx.hi IntKind.i64):=by simp only [lo,Fx.hi];omega
   have a2:(lo IntKind.i64≤4*(i:Int)+4∧4*(i:Int)+4≤Fx.hi IntKind.i64):=by simp only [lo,Fx.hi];omega
   have a3:((0≤4*(i:Int)∧4*(i:Int)≤4*(i:Int)+4)∧4*(i:Int)+4≤(bs.length:Int)∧(bs.length:Int)≤(bs.length:Int)):=by omega
   simp -implicitDefEqProofs only [rX,↓rY,h4,l4,eq_true a1,eq_true a2,eq_true a3]
   intro _
   refine gD (fun j:Nat=>(⟨[(24,.i j),(23,.i 4),(22,.bro 1 (((bs.drop (4*i)).take 4).map by1)),(4,.i i),(11,.i i),(3,.ptr 1 0 0),(2,.ptr 0 0 0),(0,byV bs)],[.var (ws z64),.var (ws (lF bs i j))],2⟩:St)) (fun j=>j≤4) (fun j=>4-j) 0 (yai _) ?_ ?_
   ·rw [Uf bs hi64]
    exact ⟨by simp -implicitDefEqProofs only [rX,↓reduceIte,Nat.reduceEqDiff,reduceCtorEq,leE];exact ⟨rfl,rfl⟩,cH _,trivial,by simp -implicitDefEqProofs only [rX,aB,wfE,wfV],⟨gM,gM,trivial⟩⟩
   intro j hj M hM
   have lP:(lF bs i j).length=64:=Lf bs hi
   simp only [c182l1]
   simp -implicitDefEqProofs only [rX,↓rY,aA,cells?,splice,↓reduceIte,Nat.reduceEqDiff,Nat.reduceAdd,yar,yaf,abE,yal]
   cases h3:decide ((j:Int)<4) with
   | false =>
    have h3':=of_decide_eq_false h3
    have:j=4:=by omega
    subst this
    have hq:lF bs i 4=(gJ bs i).set i (p9 bs i):=by unfold lF;rw [Vk]
    simp -implicitDefEqProofs only [↓rY,hq]
    exact ⟨by simp only [lo,Fx.hi];omega,fin _ _ (by rw [if_pos (by omega)]) rfl rfl rfl⟩
   | true =>
    have h3':=of_decide_eq_true h3
    have hj4:j<4:=by omega
    have hg:((bs.drop (4*i)).take 4)[j]'(by omega)=bn bs (4*i+j):=by
     unfold bn
     rw [List.getElem_take,List.getElem_drop,yat,yan (by omega)]
     rfl
    have s8:∀ {x:W} {K:V→Prop},cF .shl .u32 (x.toNat:Int) 8 K=K (w (x <<< 8)):=fun {x K}=>Ot (n:=8) (by omega)
    have gi:(ws (lF bs i j))[i]?=some (w (part bs i j)):=by rw [x8 (by omega),Lg bs hi64]
    have spP:∀ x:W,yac i (ws (lF bs i j))++[w x]++yav (i+1) (ws (lF bs i j))=ws ((lF bs i j).set i x):=fun x=>Kk (by omega)
    simp -implicitDefEqProofs only [rX,↓rY,isC,Nat.reduceLeDiff,gi,↓s8,l4,hg,↓Wx,spP,yU,lP]
    refine ⟨by omega,⟨by omega,by omega,?_,by omega,by omega,by simp only [lo,Fx.hi];omega,?_⟩⟩
    ·have:=(bn bs (4*i+j)).toNat_lt
     simp only [lo,Fx.hi];omega
    refine hM _ (j+1) (by omega) (by omega) ?_
    rw [show (lF bs i j).set i (part bs i j <<< 8 ||| B32 (bn bs (4*i+j)))=lF bs i (j+1) from Le bs _ rfl]
    exact ⟨by simp -implicitDefEqProofs only [rX,↓reduceIte,Nat.reduceEqDiff,reduceCtorEq,leE];simp,cH _,trivial,by simp -implicitDefEqProofs only [rX,aB,wfE,wfV],⟨gM,gM,trivial⟩⟩
  | false =>
   have h2':=of_decide_eq_false h2
   have g15:(ws (gJ bs i))[((i:Int)-15).toNat]?=some (w (wn (wds bs i) (i-15))):=by
    rw [show ((i:Int)-15).toNat=i-15 by omega,x8 (by omega),oV bs hi (by omega)]
   have g2:(ws (gJ bs i))[((i:Int)-2).toNat]?=some (w (wn (wds bs i) (i-2))):=by
    rw [show ((i:Int)-2).toNat=i-2 by omega,x8 (by omega),oV bs hi (by omega)]
   have g16:(ws (gJ bs i))[((i:Int)-16).toNat]?=some (w (wn (wds bs i) (i-16))):=by
    rw [show ((i:Int)-16).toNat=i-16 by omega,x8 (by omega),oV bs hi (by omega)]
   have g7:(ws (gJ bs i))[((i:Int)-7).toNat]?=some (w (wn (wds bs i) (i-7))):=by
    rw [show ((i:Int)-7).toNat=i-7 by omega,x8 (by omega),oV bs hi (by omega)]
   have s3:∀ {x:W} {K:V→Prop},cF .shr .u32 (x.toNat:Int) 3 K=K (w (x >>> 3)):=fun {x K}=>Be (n:=3) (by omega)
   have s10:∀ {x:W} {K:V→Prop},cF .shr .u32 (x.toNat:Int) 10 K=K (w (x >>> 10)):=fun {x K}=>Be (n:=10) (by omega)
   simp -implicitDefEqProofs only [↓rY,g15,g2]
   refine ⟨by simp only [lo,Fx.hi];omega,by omega,by simp only [lo,Fx.hi];omega,by omega,?_⟩
   refine aE (uS (wn (wds bs i) (i-15)) 7 (by omega)) (by simp [aM,bG,aX,cY,wkL,wk,wkR]) rfl trivial ?_
   simp -implicitDefEqProofs only [rX,aA,↓reduceIte,Nat.reduceEqDiff]
   refine aE (uS (wn (wds bs i) (i-15)) 18 (by omega)) (by simp [aM,bG,aX,cY,wkL,wk,wkR]) rfl trivial ?_
   simp -implicitDefEqProofs only [qH,qK,qQ,qR,qT,zb,zn,zN,zS,zU,zV,zX,aA,yaA,yas,↓reduceIte,Nat.reduceEqDiff,zZ,yak,yaE,Nat.reduceAdd,yaI,yaS,true_and,wo,↓oL,↓s3]
   refine aE (uS (wn (wds bs i) (i-2)) 17 (by omega)) (by simp [aM,bG,aX,cY,wkL,wk,wkR]) rfl trivial ?_
   simp -implicitDefEqProofs only [rX,aA,↓reduceIte,Nat.reduceEqDiff]
   refine aE (uS (wn (wds bs i) (i-2)) 19 (by omega)) (by simp [aM,bG,aX,cY,wkL,wk,wkR]) rfl trivial ?_
   simp -implicitDefEqProofs only [qH,qI,qQ,qR,qT,qX,qY,zb,zn,zv,zS,zT,zU,zV,zX,aA,cells?,yaA,yas,yaT,splice,zY,yat,yaB,↓reduceIte,Nat.reduceEqDiff,yaC,zZ,yak,yaE,Nat.reduceAdd,yba,ybS,isC,ybv,yaU,true_and,and_true,and_self,yaG,not_false_eq_true,Nat.reduceLeDiff,lg0,kk,wo,↓wq,↓wt,↓wv,↓wy,↓wB,↓wC,↓wF,↓jv,↓jy,yaf,yal,↓Bf,↓oL,↓s10,g16,g7,yal,sp,yU,lT]
   refine ⟨by simp only [lo,Fx.hi];omega,by omega,by simp only [lo,Fx.hi];omega,by omega,by omega,by omega,by simp only [lo,Fx.hi];omega,?_⟩
   exact fin _ _ (by rw [if_neg (by omega)];unfold next;rw [f9]) rfl rfl rfl
set_option maxRecDepth 20000
set_option maxRecDepth 20000
def kA:List V:=tC.map V.v
theorem Wc:yae V.v tC=kA:=rfl
theorem Wd {i:Nat} (h:i<64):kA[i]?=some (w (kW i)):=by
 have:∀ i:Fin 64,Fj.getD i.val 0<4294967296∧i.val<Fj.length:=by decide +kernel
 obtain ⟨h1,h2⟩:=this ⟨i,h⟩
 simp only at h1 h2
 unfold kA tC kW
 rw [ybr,ybF,yan h2]
 rw [yat,yan h2] at h1 ⊢
 simp only [yaC] at h1
 have h3:(yaM 32 Fj[i]).toNat=Fj[i]:=by rw [ybC];omega
 simp only [Option.map_some,Function.comp,yaC,w]
 rw [h3]
theorem Sq {q:List Blk}:∀ l:List Value,wfL q (l.map V.v)
 | []=>trivial
 | _::r=>⟨trivial,Sq r⟩
theorem Tg {q:List Blk}:wfL q kA:=Sq tC
attribute [irreducible] kA
def stp (s r:S8) (i:Nat):S8:=⟨if 0<i then s.a+r.a else s.a,if 1<i then s.b+r.b else s.b,if 2<i then s.c+r.c else s.c,if 3<i then s.d+r.d else s.d,if 0<i then s.e+r.e else s.e,if 1<i then s.f+r.f else s.f,if 2<i then s.g+r.g else s.g,if 3<i then s.h+r.h else s.h⟩
theorem Xo (s r:S8):stp s r 4=s.add r:=rfl
theorem n0:((0:Nat):Int)=0:=rfl
theorem n1:((1:Nat):Int)=1:=rfl
theorem n2:((2:Nat):Int)=2:=rfl
theorem n3:((3:Nat):Int)=3:=rfl
theorem n8:((8:Nat):Int)=8:=rfl
theorem m64:((64:Nat):Int)=64:=rfl
theorem n4:((4:Nat):Int)=4:=rfl
abbrev z8:List V:=[.v (.int .u32 0),.v (.int .u32 0),.v (.int .u32 0),.v (.int .u32 0),.v (.int .u32 0),.v (.int .u32 0),.v (.int .u32 0),.v (.int .u32 0)]
theorem S8.enc_C (s:S8):s.enc.all isC=true:=rfl
set_option maxHeartbeats 2000000 in
theorem Zg (s:S8) (bs:List UInt8) (hb:bs.length=64):Ok 159 [.agg s.enc,byV bs] (Is (.agg (comp s bs).enc)):=by
 refine bW lw159 (by simp) ?_
 unfold c159
 simp -implicitDefEqProofs only [rX,↓rY,aA,cells?,↓reduceIte,Nat.reduceEqDiff,Nat.reduceAdd,reduceCtorEq,aD,cxN,aL,S8.enc]
 have lW:(wds bs 64).length=64:=f9 bs 64
 refine aE (Za bs hb) (by simp [aM,bG,aX,cY,wkL,wk,wkR,wkB]) (by simp [ren,Tz]) trivial ?_
 simp -implicitDefEqProofs only [rX,↓rY,rdK,aA,cells?,splice,↓reduceIte,Nat.reduceEqDiff,Nat.reduceAdd,reduceCtorEq,aD,cP,isC,Nat.reduceLT,Nat.reduceLeDiff,w0,acQ,Wc,yU,tF,lW,Xh lW,Sn tF,Xg,yaV,n8,ybd,Nat.reduceSub]
 refine ⟨?_,?_⟩
 all_goals
  refine gD (fun i:Nat=>(⟨[(22,.i i),(21,.agg kA),(7,.ptr 4 0 0),(6,.ptr 3 0 0),(5,.ptr 2 0 0),(4,.ptr 1 0 0),(2,.ptr 0 0 0)],[.var [w s.a,w s.b,w s.c,w s.d,w s.e,w s.f,w s.g,w s.h],.var z8,.var (ws (wds bs 64)),.var [w (tA (wn (wds bs 64)) s i).a,w (tA (wn (wds bs 64)) s i).b,w (tA (wn (wds bs 64)) s i).c,w (tA (wn (wds bs 64)) s i).d],.var [w (tA (wn (wds bs 64)) s i).e,w (tA (wn (wds bs 64)) s i).f,w (tA (wn (wds bs 64)) s i).g,w (tA (wn (wds bs 64)) s i).h]],5⟩:St)) (fun i=>i≤64) (fun i=>64-i) 0 (yai _) ?_ ?_
  ·refine ⟨by simp -implicitDefEqProofs only [rX,↓reduceIte,Nat.reduceEqDiff,leE];rfl,cH _,trivial,?_,?_⟩
   ·simp -implicitDefEqProofs only [rX,aB,wfE,wfV,Tg]
   ·simp -implicitDefEqProofs only [rX,wfB,wfV,wfL,gM]
  intro i hi N hN
  obtain ⟨r,hr⟩:∃ r,r=tA (wn (wds bs 64)) s i:=⟨_,rfl⟩
  rw [←hr]
  simp only [c159l0]
  simp -implicitDefEqProofs only [rX,↓rY,rdK,aA,↓reduceIte,Nat.reduceEqDiff,Nat.reduceAdd,yaf,yal]
  cases h1:decide ((i:Int)<64) with
  | false =>
   have h1':=of_decide_eq_false h1
   have:i=64:=by omega
   subst this
   simp -implicitDefEqProofs only [↓rY]
   refine gD (fun i:Nat=>(⟨[(94,.i i),(7,.ptr 4 0 0),(6,.ptr 3 0 0),(4,.ptr 1 0 0),(2,.ptr 0 0 0)],[.var [w (stp s r i).a,w (stp s r i).b,w (stp s r i).c,w (stp s r i).d,w (stp s r i).e,w (stp s r i).f,w (stp s r i).g,w (stp s r i).h],.var z8,.var (ws (wds bs 64)),.var [w r.a,w r.b,w r.c,w r.d],.var [w r.e,w r.f,w r.g,w r.h]],5⟩:St)) (fun i=>i≤4) (fun i=>4-i) 0 (yai _) ?_ ?_
   ·exact ⟨by simp -implicitDefEqProofs only [rX,↓reduceIte,Nat.reduceEqDiff,leE];rfl,cH _,trivial,by simp -implicitDefEqProofs only [rX,aB,wfE,wfV],by simp -implicitDefEqProofs only [rX,wfB,wfV,wfL,gM]⟩
   intro i hi N hN
   have hc:comp s bs=s.add r:=by unfold comp;rw [hr]
   have hcase:i=0∨i=1∨i=2∨i=3∨i=4:=by omega
   rcases hcase with rfl|rfl|rfl|rfl|rfl
   all_goals
    simp only [c159l1]
    simp -implicitDefEqProofs only [qG,qH,qI,qK,qL,qM,qO,qP,qQ,qR,qT,qX,qY,zb,zv,zS,zT,zU,zV,zX,aA,cells?,yaA,yas,yaT,splice,zY,yat,yaB,↓reduceIte,Nat.reduceEqDiff,yaC,zZ,kc,↓ke,↓kf,ybc,yaH,yak,yaE,Nat.reduceAdd,ybe,ki,aU,aY,List.reverse_cons,List.reverse_nil,wfV,wfL,ybf,ybH,List.take_nil,List.drop_nil,yba,ybS,isC,ybv,yaU,true_and,and_true,and_self,yaG,yad,not_false_eq_true,Nat.reduceLT,Nat.reduceLeDiff,yaa,lg0,kk,kn,ko,lg1,kv,kw,lg2,kz,kB,lg3,kF,kG,lg4,kJ,kK,lg5,kN,kO,lg6,kR,kS,lg7,kV,kX,wo,↓wq,↓wt,↓wv,↓ww,↓wy,↓wz,↓wB,↓wC,↓wD,↓wF,↓jv,↓jE,yal,yaV,Int.reduceAdd,n0,n1,n2,n3,n4,n8,decide_true,decide_false,ybw,ybd,↓Bf]
   ·exact ⟨by decide,by decide,hN _ 1 (by omega) (by omega) ⟨by simp -implicitDefEqProofs only [rX,↓reduceIte,Nat.reduceEqDiff,leE];rfl,cH _,trivial,by simp -implicitDefEqProofs only [rX,aB,wfE,wfV],by simp -implicitDefEqProofs only [rX,wfB,wfV,wfL,gM]⟩⟩
   ·exact ⟨by decide,by decide,hN _ 2 (by omega) (by omega) ⟨by simp -implicitDefEqProofs only [rX,↓reduceIte,Nat.reduceEqDiff,leE];rfl,cH _,trivial,by simp -implicitDefEqProofs only [rX,aB,wfE,wfV],by simp -implicitDefEqProofs only [rX,wfB,wfV,wfL,gM]⟩⟩
   ·exact ⟨by decide,by decide,hN _ 3 (by omega) (by omega) ⟨by simp -implicitDefEqProofs only [rX,↓reduceIte,Nat.reduceEqDiff,leE];rfl,cH _,trivial,by simp -implicitDefEqProofs only [rX,aB,wfE,wfV],by simp -implicitDefEqProofs only [rX,wfB,wfV,wfL,gM]⟩⟩
   ·exact ⟨by decide,by decide,hN _ 4 (by omega) (by omega) ⟨by simp -implicitDefEqProofs only [rX,↓reduceIte,Nat.reduceEqDiff,leE];rfl,cH _,trivial,by simp -implicitDefEqProofs only [rX,aB,wfE,wfV],by simp -implicitDefEqProofs only [rX,wfB,wfV,wfL,gM]⟩⟩
   ·rw [hc,Xo]
  | true =>
   have h1':=of_decide_eq_true h1
   have gw:(ws (wds bs 64))[i]?=some (w (wn (wds bs 64) i)):=x8 (by omega)
   have ck:(0≤(i:Int)∧(i:Int)<((64:Nat):Int)):=by omega
   simp -implicitDefEqProofs only [yaB,zZ,↓ke,yaU,true_and,and_self,Nat.reduceLT,lg0,lg1,lg2,↓wq,eq_true ck,Wd (show i<64 by omega),yaV,n4,ybw,ybd,↓oL,↓Ou,↓Wy,gw]
   refine aE (Sz r.e 6 11 25 (by omega) (by omega) (by omega)) (by simp [aM,bG,aX,cY,wkL,wk,wkR]) rfl trivial ?_
   simp -implicitDefEqProofs only [qa,qe,qn,qy,rdK,qz,qA,qB,qC,qE,qK,qT,qX,zb,zv,zN,zS,zU,zV,zX,aA,yaA,yas,zY,yat,yaB,↓reduceIte,Nat.reduceEqDiff,yaC,zZ,yak,yaE,Nat.reduceAdd,yaI,yaS,ybv,yaU,true_and,and_true,and_self,Nat.reduceLT,lg0,lg1,lg2,wo,↓wq,↓wt,↓wv,↓wy,↓wF,yal,eq_true ck,yaV,n4,ybw,ybd,↓Bf,↓oL,↓Ou]
   refine aE (Sz r.a 2 13 22 (by omega) (by omega) (by omega)) (by simp [aM,bG,aX,cY,wkL,wk,wkR]) rfl trivial ?_
   simp -implicitDefEqProofs only [qa,qe,qA,qC,qH,qK,qQ,qR,qT,qX,qY,zb,zk,zv,zS,zT,zU,zV,zX,aA,cells?,yaA,yas,yaT,splice,zY,yat,yaB,↓reduceIte,Nat.reduceEqDiff,yaC,zZ,ybc,yaH,yak,yaE,Nat.reduceAdd,ybe,bY,yaI,yaS,ybf,ybH,List.drop_nil,yba,ybS,isC,ybv,yaU,true_and,and_true,and_self,yaG,yad,not_false_eq_true,Nat.reduceLT,Nat.reduceLeDiff,yaa,lg0,kk,kn,ko,lg1,kr,kv,kw,lg2,ky,kz,kB,lg3,kD,kF,wo,↓wq,↓wt,↓wv,↓wy,↓wB,↓wD,↓wF,↓jv,yal,yaV,n4,ybw,ybd,↓Bf,splice]
   refine ⟨by simp only [lo,Fx.hi];omega,hN _ (i+1) (by omega) (by omega) ?_⟩
   have e:tA (wn (wds bs 64)) s (i+1)=r.rnd (kW i) (wn (wds bs 64) i):=by rw [hr];rfl
   simp only [e]
   exact ⟨by simp -implicitDefEqProofs only [rX,↓reduceIte,Nat.reduceEqDiff,leE];simp,cH _,trivial,by simp -implicitDefEqProofs only [rX,aB,wfE,wfV,Tg],by simp -implicitDefEqProofs only [rX,wfB,wfV,wfL,gM]⟩
set_option maxRecDepth 20000
def Stm.enc (S:Stm):List V:=sC S.st S.blk S.n
theorem Of {s:S8} {f:Nat→Option Nat}:b9 f s.enc=s.enc:=rfl
theorem Fp {s:S8} {h:List Blk} {g:Nat→Option Nat}:aM h g s.enc:=⟨trivial,trivial,trivial,trivial,trivial,trivial,trivial,trivial,trivial⟩
theorem Rq {s:S8} {h:List Blk} {g:Nat→Option Nat}:wkL s.enc (aX h g s.enc):=⟨rfl,rfl,rfl,rfl,rfl,rfl,rfl,rfl,trivial⟩
theorem Rs {s:S8}:s.enc.length=8:=rfl
theorem Uj {t:Bs}:d8 (sb t)=t.map by1:=rfl
set_option maxHeartbeats 2000000 in
theorem Mn (S:Stm) (m t:Bs) (h:Rp S m) (hm:m.length+t.length≤1152921504606846976):Ok 129 [.agg S.enc,sv t] (IsQ (fun S'=>Rp S' (m++t)) (fun S'=>.agg S'.enc) (fun _=>[])):=by
 refine bW lw129 (by simp) ?_
 unfold c129
 simp -implicitDefEqProofs only [rX,↓rY,aA,cells?,↓reduceIte,aD,cxN,aL,Stm.enc]
 refine gD (fun g:Stm × Bs × Bs=>(⟨[(1,sv g.2.2),(4,.ptr 1 0 0),(2,.ptr 0 0 0)],[.var (sC g.1.st g.1.blk g.1.n),.var (sC ⟨0,0,0,0,0,0,0,0⟩ (yah 64 0) 0)],2⟩:St)) (fun g=>Rp g.1 (m++g.2.1)∧g.2.1++g.2.2=t) (fun g=>g.2.2.length) (S,[],t) ⟨by simpa using h,rfl⟩ ?_ ?_
 ·refine ⟨by simp -implicitDefEqProofs only [rX,↓reduceIte,Nat.reduceEqDiff,reduceCtorEq,leE],⟨bF _,?_,trivial⟩,trivial,by simp -implicitDefEqProofs only [rX,aB,wfE,wfV],⟨iG,iG,trivial⟩⟩
  show c7 _ _
  rw [show sC ⟨0,0,0,0,0,0,0,0⟩ (yah 64 0) 0=yah 8 (w 0)++(yah 64 (u8 0)++[n64 0]) by unfold sC;rfl]
  exact cJ _
 rintro ⟨S,c,r⟩ ⟨hR,hcr⟩ N hN
 simp only at hR hcr
 have hl:=hR.len
 have hn:=hR.n
 have hsum:c.length+r.length=t.length:=by rw [←hcr,yad]
 rw [yad] at hn
 obtain ⟨j,hj⟩:∃ j,j=S.n%64:=⟨_,rfl⟩
 have hj64:j<64:=by omega
 obtain ⟨cc,hcc⟩:∃ cc,cc=r.take (64-j):=⟨_,rfl⟩
 have hcl:cc.length=min r.length (64-j):=by rw [hcc,yaJ];omega
 have e1:IntKind.i64.wrap (Int.tmod (S.n:Int) 64)=(j:Int):=by
  rw [show Int.tmod (S.n:Int) 64=(j:Int) by rw [hj];simp [Int.tmod_eq_emod]]
  exact iR _ _ ⟨by simp only [lo];omega,by simp only [Fx.hi];omega⟩
 have f1:(yac (64-j) (d8 (sb r))).flatten=cc.map u8:=by
  rw [hcc,Uj,←yaO]
  induction r.take (64-j) with
  | nil=>rfl
  | cons x q ih=>rw [yaI,List.flatten_cons,ih];rfl
 have f2:min (d8 (sb r)).length (64-j)=cc.length:=by rw [Uj,yaj,hcl]
 have e2:IntKind.u64.wrap (cc.length:Int)=(cc.length:Int):=iR _ _ ⟨by simp only [lo];omega,by simp only [Fx.hi];omega⟩
 have e3:IntKind.u64.wrap ((S.n:Int)+(cc.length:Int))=((S.n+cc.length:Nat):Int):=by
  rw [←Int.natCast_add]
  exact iR _ _ ⟨by simp only [lo];omega,by simp only [Fx.hi];omega⟩
 have f3:(sC S.st S.blk S.n).take (8+j)++cc.map u8++(sC S.st S.blk S.n).drop (8+j+cc.length)=sC S.st (jU S.blk cc j) S.n:=Qp hl (by omega)
 have pl:(jU S.blk cc j).length=64:=by rw [Cm (by omega),hl]
 have sx:(sb r).extract cc.length r.length=sb (r.drop cc.length):=by rw [eQ,ybT]
 have hst:=hR.step (c:=cc) (by omega)
 simp only [c129l0]
 simp -implicitDefEqProofs only [rX,↓rY,aA,cells?,splice,↓reduceIte,Nat.reduceEqDiff,Nat.reduceAdd,cP,isC,Nat.reduceLeDiff,yaf,bQ,fF,nQ,nQ,fF,Qo hl,dZ hl,e1,f1,f2,f3,e2,Qo pl,dZ pl,e3,Ur pl,sx,yaJ,yaP,yaV,m64]
 cases hr:(!r==([]:Bs)) with
 | false =>
  have hr':r=[]:=by simpa using hr
  subst hr'
  rw [yak] at hcr
  subst hcr
  have zl:(yah 64 (0:UInt8)).length=64:=rfl
  simp -implicitDefEqProofs only [rX,↓rY,iU hl,Qq,dZ zl,uD zl,dZ hl,Nat.min_self]
  refine uI S hR ?_
  simp -implicitDefEqProofs only [rX,↓rY,↓reduceIte,Nat.reduceEqDiff,aU,aY,leH,aC,wfB,wfV,iU hl,dZ hl,iG]
 | true =>
  have hr':r≠[]:=by simpa using hr
  have hrl:0<r.length:=List.length_pos_iff.2 hr'
  simp -implicitDefEqProofs only [↓rY]
  refine ⟨by omega,by omega,by omega,by omega,by omega,⟨by simp only [lo];omega,by simp only [Fx.hi];omega⟩,?_⟩
  have hrd:cc++r.drop cc.length=r:=by
   by_cases h:64-j≤r.length
   ·rw [show cc.length=64-j by omega,hcc,ycj]
   ·rw [hcc,yab (by omega),yau (by omega),yak]
  rw [←hj] at hst
  have hI:c++cc++r.drop cc.length=t:=by rw [yaQ,hrd,hcr]
  rw [yaQ] at hst
  cases h6:((j:Int)+(cc.length:Int)==64) with
  | true =>
   have h6':j+cc.length=64:=by have:=eq_of_beq h6;omega
   rw [if_pos h6'] at hst
   simp -implicitDefEqProofs only [↓rY,Xs]
   refine ⟨by omega,⟨by omega,by omega,by omega⟩,?_⟩
   refine aE (Zg S.st (jU S.blk cc j) pl) ⟨⟨Fp,trivial,trivial⟩,Rq,?_,trivial⟩ (by simp only [ren,Of]) trivial ?_
   ·show wkB (if (decide (8+64≤(sC S.st (jU S.blk cc j) (S.n+cc.length)).length)&&(((sC S.st (jU S.blk cc j) (S.n+cc.length)).drop 8).take 64).all isD)=true then V.bro 1 ((((sC S.st (jU S.blk cc j) (S.n+cc.length)).drop 8).take 64).map fun c=>[c]) else V.any) 1 ((jU S.blk cc j).map by1)
    rw [if_pos (by rw [dZ pl,Lr pl];rfl),Qn pl]
    exact ⟨rfl,rfl⟩
   simp -implicitDefEqProofs only [rX,↓rY,cells?,splice,↓reduceIte,Nat.reduceEqDiff,Nat.reduceLeDiff,Uq,dZ pl,Rs,S8.enc_C]
   refine hN _ (⟨comp S.st (jU S.blk cc j),jU S.blk cc j,S.n+cc.length⟩,c++cc,r.drop cc.length) ⟨hst,hI⟩ (by simp only [yaP];omega) ?_
   exact ⟨by simp -implicitDefEqProofs only [rX,↓reduceIte,Nat.reduceEqDiff,leE],cH _,trivial,by simp -implicitDefEqProofs only [rX,aB,wfE,wfV],⟨iG,iG,trivial⟩⟩
  | false =>
   have h6':j+cc.length≠64:=by
    intro h
    have:((j:Int)+(cc.length:Int)==64)=true:=by rw [beq_iff_eq];omega
    rw [this] at h6;cases h6
   rw [if_neg h6'] at hst
   simp -implicitDefEqProofs only [↓rY]
   refine hN _ (⟨S.st,jU S.blk cc j,S.n+cc.length⟩,c++cc,r.drop cc.length) ⟨hst,hI⟩ (by simp only [yaP];omega) ?_
   exact ⟨by simp -implicitDefEqProofs only [rX,↓reduceIte,Nat.reduceEqDiff,leE],cH _,trivial,by simp -implicitDefEqProofs only [rX,aB,wfE,wfV],⟨iG,iG,trivial⟩⟩
set_option maxRecDepth 20000
def us (l:Bs):List V:=l.map u8
theorem dW {l:Bs}:(us l).length=l.length:=by simp [us]
theorem iP {l:Bs}:(us l).all isC=true:=by simp [us,isC,isD]
theorem Qg {l:Bs}:(us l).all isD=true:=by simp [us,isD]
theorem Ky {l:Bs}:c7 (us l) (us l):=cJ _
theorem dV {l:Bs} {q:List Blk}:wfL q (us l):=by
 unfold us
 induction l with
 | nil=>trivial
 | cons x r ih=>exact ⟨trivial,ih⟩
theorem bB {l:Bs} {f:Nat→Option Nat}:b9 f (us l)=us l:=by
 unfold us
 induction l with
 | nil=>rfl
 | cons x r ih=>exact congrArg (u8 x::·) ih
theorem Qf {l:Bs} {n:Nat}:(us l).take n=us (l.take n):=by simp [us,yaO]
theorem Ub {l:Bs} {i:Nat} {x:UInt8} (hi:i<l.length):(us l).take i++[u8 x]++(us l).drop (i+1)=us (l.set i x):=by
 unfold us
 rw [ybE,yce,if_pos (by simpa using hi)]
 simp
theorem Uc {l:Bs} {i:Nat} (hi:i<l.length):(us l)[i]?=some (u8 (bn l i)):=by
 unfold us bn
 rw [ybF,yan hi,yat,yan hi]
 rfl
attribute [irreducible] us
def z32:Bs:=yah 32 0
theorem tG:z32.length=32:=rfl
theorem w32:yae V.v (ybG 32 (Value.int IntKind.u8 0)).toList=us z32:=by unfold us;rfl
attribute [irreducible] z32
def pz (k:Nat):Bs:=128::yah k 0
theorem rM {k:Nat}:(pz k).length=k+1:=by simp [pz]
theorem Ve {k:Nat}:pz k++[0]=pz (k+1):=by
 unfold pz
 rw [yaH,←List.replicate_succ']
theorem adK:pz 0=[128]:=rfl
attribute [irreducible] pz
theorem lE {M:List Nat}:∀ l:List V,(∀ x∈l,∃ u,x=.v u)→a8 M l=l
 | [],_=>rfl
 | x::r,h=>by
  obtain ⟨u,rfl⟩:=h x ybJ
  show V.v u::a8 M r=_
  rw [lE r fun y hy=>h y (ybK _ hy)]
theorem oS {M:List Nat} {l:Bs}:a8 M (us l)=us l:=lE _ (by
 unfold us
 intro x hx
 obtain ⟨b,_,rfl⟩:=ybb.1 hx
 exact ⟨_,rfl⟩)
theorem gR {s:S8} {b:Bs} {n:Nat}:∀ x∈sC s b n,∃ u,x=V.v u:=by
 unfold sC
 intro x hx
 simp only [S8.enc,yao,ybb,yaw,yaG,or_false] at hx
 rcases hx with (rfl|rfl|rfl|rfl|rfl|rfl|rfl|rfl)|⟨u,_,rfl⟩|rfl<;>exact ⟨_,rfl⟩
theorem Cd {M:List Nat} {s:S8} {b:Bs} {n:Nat}:a8 M (sC s b n)=sC s b n:=lE _ gR
theorem cX {h:List Blk} {g:Nat→Option Nat}:∀ l:List V,(∀ x∈l,∃ u,x=.v u)→aM h g l∧wkL l (aX h g l)
 | [],_=>⟨trivial,trivial⟩
 | x::r,q=>by
  obtain ⟨u,rfl⟩:=q x ybJ
  have:=cX (h:=h) (g:=g) r fun y hy=>q y (ybK _ hy)
  exact ⟨⟨trivial,this.1⟩,rfl,this.2⟩
def l8 (n i:Nat):Bs:=(yay i).map fun i=>UInt8.ofNat (8*n/2 ^ (56-8*i))
theorem aeI {n i:Nat}:l8 n (i+1)=l8 n i++[UInt8.ofNat (8*n/2 ^ (56-8*i))]:=by simp [l8,List.range_succ]
theorem Af {n i:Nat}:(l8 n i).length=i:=by simp [l8]
theorem j4:∀ l:Bs,bytesOf (l.map by1)=some l
 | []=>rfl
 | b::r=>by
  show (bytesOf (r.map by1)).map (UInt8.ofNat ((b.toNat:Int)).toNat::·)=_
  rw [j4 r]
  simp
theorem Hd {l:Bs}:({ data:=l.toArray }:ByteArray)=sb l:=rfl
theorem Vl {n:Nat}:pz (zeros n)++l8 n 8=pad n:=by unfold pz;rfl
def oB (s:S8) (i:Nat):Bs:=(yay i).map (y6 s)++yah (32-i) 0
theorem Vu {s:S8} {i:Nat} (h:i≤32):(oB s i).length=32:=by simp [oB];omega
theorem aeF {s:S8}:oB s 0=z32:=by unfold z32;rfl
theorem Zz {s:S8}:oB s 32=(yay 32).map (y6 s):=by simp [oB]
theorem Vt {s:S8} {i:Nat} (h:i<32):(oB s i).set i (y6 s i)=oB s (i+1):=by
 unfold oB
 rw [ybu _ _ (by simp),yaj,List.length_range,ybR,show 32-i=(32-(i+1))+1 by omega,yaz,yaT,List.range_succ,yaq]
 simp
theorem Qm {s:S8} {b:Bs} {n j:Nat} (h:j<8):(sC s b n)[j]?=some (w (wn s.l j)):=by
 unfold sC
 rw [yci (by simp [S8.enc];omega)]
 have:j=0∨j=1∨j=2∨j=3∨j=4∨j=5∨j=6∨j=7:=by omega
 rcases this with rfl|rfl|rfl|rfl|rfl|rfl|rfl|rfl<;>rfl
set_option maxHeartbeats 2000000 in
theorem Zp (S:Stm) (m:Bs) (h:Rp S m) (hm:m.length≤576460752303423488):Ok 131 [.agg S.enc] (Is (.agg (us (sha m)))):=by
 refine bW lw131 (by simp) ?_
 unfold c131
 have hn:=h.n
 have hl:=h.len
 have e8:IntKind.u64.wrap (8*(S.n:Int))=((8*S.n:Nat):Int):=by
  rw [show (8*(S.n:Int))=((8*S.n:Nat):Int) by omega]
  exact iR _ _ ⟨by simp only [lo];omega,by simp only [Fx.hi];omega⟩
 simp -implicitDefEqProofs only [rX,↓rY,aA,cells?,↓reduceIte,Nat.reduceEqDiff,Nat.reduceAdd,aD,bU,isD,Nat.reduceLT,cxN,aL,Stm.enc,w32,Qo hl,e8]
 refine gD (fun k:Nat=>(⟨[(4,.sl 2 0 (k+1)),(3,n64 (8*S.n)),(2,.ptr 1 0 0),(1,.ptr 0 0 0)],[.var (sC S.st S.blk S.n),.var (us z32),.arr 1 ((pz k).map by1)],3⟩:St)) (fun k=>k≤zeros m.length) (fun k=>zeros m.length-k) 0 (yai _) ?_ ?_
 ·exact ⟨by simp -implicitDefEqProofs only [rX,↓reduceIte,Nat.reduceEqDiff,leE],⟨bF _,bF _,by rw [adK];exact bF _,trivial⟩,trivial,by simp -implicitDefEqProofs only [rX,aB,wfE,wfV],by simp -implicitDefEqProofs only [rX,wfB,iG,dV]⟩
 intro k hk N hN
 have ei:IntKind.i64.wrap (S.n:Int)=(S.n:Int):=iR _ _ ⟨by simp only [lo];omega,by simp only [Fx.hi];omega⟩
 have hz:=Kc m.length
 have hz2:zeros m.length<64:=by unfold zeros;omega
 have tk:yac (k+1) (yae by1 (pz k))=yae by1 (pz k):=yab (by rw [yaj,rM];exact yaa _)
 have b0:(yae by1 (pz k))++[[V.v (Value.int IntKind.u8 0)]]=(pz (k+1)).map by1:=by rw [←Ve,yaq];rfl
 simp only [c131l0]
 simp -implicitDefEqProofs only [rX,↓rY,aA,cells?,↓reduceIte,Nat.reduceEqDiff,Nat.reduceAdd,reduceCtorEq,aD,bU,aP,aS,kill,St.kill,isD,Nat.reduceLT,Nat.reduceLeDiff,yal,Qo hl,ei,rM,tk,b0,oS,Cd]
 intro _
 have hmod:((S.n:Int)+((k+1:Nat):Int)).tmod 64=(((m.length+1+k)%64:Nat):Int):=by
  rw [show ((S.n:Int)+((k+1:Nat):Int))=((m.length+1+k:Nat):Int) by omega]
  rfl
 refine ⟨⟨by simp only [lo];omega,by simp only [Fx.hi];omega⟩,by omega,?_⟩
 rw [hmod]
 cases hc:((((m.length+1+k)%64:Nat):Int) != 56) with
 | true =>
  have hc':(m.length+1+k)%64≠56:=by intro h;rw [h] at hc;simp at hc
  have hlt:k<zeros m.length:=by
   rcases yax k (zeros m.length) with h|h
   ·exact h
   ·have:k=zeros m.length:=by omega
    rw [this] at hc';exact absurd hz hc'
  simp -implicitDefEqProofs only [↓rY]
  refine ⟨by omega,hN _ (k+1) (by omega) (by omega) ?_⟩
  exact ⟨by simp -implicitDefEqProofs only [rX,↓reduceIte,Nat.reduceEqDiff,leE],⟨bF _,bF _,bF _,trivial⟩,trivial,by simp -implicitDefEqProofs only [rX,aB,wfE,wfV],by simp -implicitDefEqProofs only [rX,wfB,iG,dV]⟩
 | false =>
  have hc':(m.length+1+k)%64=56:=by
   have h2:¬((((m.length+1+k)%64:Nat):Int)≠56):=fun h=>by rw [bne_iff_ne.2 h] at hc;cases hc
   omega
  have hke:k=zeros m.length:=by omega
  simp -implicitDefEqProofs only [↓rY]
  clear hN N hmod tk b0 hk
  refine gD (fun i:Nat=>(⟨[(23,.i i),(4,.sl 2 0 (k+1+i)),(3,n64 (8*S.n)),(2,.ptr 1 0 0),(1,.ptr 0 0 0)],[.var (sC S.st S.blk S.n),.var (us z32),.arr 1 ((pz k++l8 m.length i).map by1)],3⟩:St)) (fun i=>i≤8) (fun i=>8-i) 0 (yai _) ?_ ?_
  ·exact ⟨by simp -implicitDefEqProofs only [rX,↓reduceIte,Nat.reduceEqDiff,leE];rfl,⟨bF _,bF _,by rw [show l8 m.length 0=[] from rfl,yak];exact bF _,trivial⟩,trivial,by simp -implicitDefEqProofs only [rX,aB,wfE,wfV],by simp -implicitDefEqProofs only [rX,wfB,iG,dV]⟩
  intro i hi N hN
  simp only [c131l1]
  simp -implicitDefEqProofs only [rX,↓rY,aA,cells?,↓reduceIte,Nat.reduceEqDiff,Nat.reduceAdd,reduceCtorEq,aD,bU,aP,aS,kill,St.kill,isD,Nat.reduceLT,Nat.reduceLeDiff,yal]
  cases h1:decide ((i:Int)<8) with
  | true =>
   have h1':=of_decide_eq_true h1
   have sh:∀ {K:V→Prop},cF .shr .u64 ((8*S.n:Nat):Int) (56-8*(i:Int)) K=K (.v (.int .u64 ((8*S.n/2 ^ (56-8*i):Nat):Int))):=by
    intro K
    have h:cF .shr .u64 ((8*S.n:Nat):Int) (56-8*(i:Int)) K=(0≤(56-8*(i:Int))∧K (.v (.int .u64 (Int.fdiv ((8*S.n:Nat):Int) (2 ^ (min (56-8*(i:Int)).toNat 64)))))):=rfl
    rw [h,show (56-8*(i:Int)).toNat=56-8*i by omega,yaZ (by omega)]
    have h2:(2:Int) ^ (56-8*i)=((2 ^ (56-8*i):Nat):Int):=by simp
    rw [h2,ybn _ (yaN _),←ybD]
    exact propext ⟨fun h=>h.2,fun h=>⟨by omega,h⟩⟩
   have cv:IntKind.u8.wrap ((8*S.n/2 ^ (56-8*i):Nat):Int)=((UInt8.ofNat (8*m.length/2 ^ (56-8*i))).toNat:Int):=by
    rw [hn,UInt8.toNat_ofNat']
    simp [IntKind.wrap,IntKind.bits,IntKind.signed]
   simp -implicitDefEqProofs only [rX,↓rY,kill,St.kill,↓sh,cv,oS,Cd,rM,Af]
   have tk2:yac (k+1+i) (yae by1 (pz k++l8 m.length i))=yae by1 (pz k++l8 m.length i):=yab (by rw [yaj,yad,rM,Af];exact yaa _)
   rw [tk2]
   refine ⟨⟨by simp only [lo];omega,by simp only [Fx.hi];omega⟩,⟨by simp only [lo];omega,by simp only [Fx.hi];omega⟩,by omega,⟨by simp only [lo];omega,by simp only [Fx.hi];omega⟩,?_⟩
   refine hN _ (i+1) (by omega) (by omega) ?_
   exact ⟨by simp -implicitDefEqProofs only [rX,↓reduceIte,Nat.reduceEqDiff,leE];simp;omega,⟨bF _,bF _,by rw [aeI,←yaQ,yaq (l₂:=[_])];exact bF _,trivial⟩,trivial,by simp -implicitDefEqProofs only [rX,aB,wfE,wfV],by simp -implicitDefEqProofs only [rX,wfB,iG,dV]⟩
  | false =>
   have h1':=of_decide_eq_false h1
   have:i=8:=by omega
   subst this
   have tk2:yac (k+1+8) (yae by1 (pz k++l8 m.length 8))=yae by1 (pz k++l8 m.length 8):=yab (by rw [yaj,yad,rM,Af];exact yaa _)
   simp -implicitDefEqProofs only [rX,↓rY,tk2,j4,Hd,iU hl,dZ hl,rM,Af]
   refine ⟨.inr trivial,?_⟩
   clear hN N
   have hpd:pz k++l8 m.length 8=pad m.length:=by rw [hke];exact Vl
   rw [hpd]
   refine vS _ _ _ (Mn S m (pad m.length) h (by simp [pad,len8];omega)) ⟨⟨(cX _ gR).1,trivial,trivial⟩,(cX _ gR).2,rfl,trivial⟩ (fun g=>by simp only [ren,Stm.enc,tN]) trivial ?_
   intro S' hS'
   have hl':=hS'.len
   have hst':S'.st=Xq m:=hS'.st
   simp -implicitDefEqProofs only [rX,↓rY,aA,cells?,splice,↓reduceIte,Nat.reduceEqDiff,Nat.reduceAdd,aD,Stm.enc,iU hl',dZ hl',Qq,dZ hl,uD hl,w32]
   refine gD (fun i:Nat=>(⟨[(40,.i i),(6,.ptr 3 0 0),(2,.ptr 1 0 0),(1,.ptr 0 0 0)],[.var (sC S'.st S'.blk S'.n),.var (us z32),.arr 1 ((pad m.length).map by1),.var (us (oB S'.st i))],4⟩:St)) (fun i=>i≤32) (fun i=>32-i) 0 (yai _) ?_ ?_
   ·exact ⟨by simp -implicitDefEqProofs only [rX,↓reduceIte,Nat.reduceEqDiff,leE];rfl,⟨bF _,bF _,bF _,by rw [aeF];exact bF _,trivial⟩,trivial,by simp -implicitDefEqProofs only [rX,aB,wfE,wfV],by simp -implicitDefEqProofs only [rX,wfB,iG,dV]⟩
   intro i hi N hN
   simp only [c131l2]
   simp -implicitDefEqProofs only [rX,↓rY,aA,cells?,splice,↓reduceIte,Nat.reduceEqDiff,Nat.reduceAdd,aU,aY,wfV,isC,yaf,yal]
   cases h1:decide ((i:Int)<32) with
   | true =>
    have h1':=of_decide_eq_true h1
    have lo':(oB S'.st i).length=32:=Vu hi
    have ed:Int.tdiv (i:Int) 4=((i/4:Nat):Int):=rfl
    have er:Int.tmod (i:Int) 4=((i%4:Nat):Int):=rfl
    have es:(24-8*((i%4:Nat):Int))=((24-8*(i%4):Nat):Int):=by omega
    have sh:∀ {x:W} {K:V→Prop},cF .shr .u32 (x.toNat:Int) ((24-8*(i%4):Nat):Int) K=K (w (x >>> (24-8*(i%4)))):=fun {x K}=>Be (by omega)
    have cv:IntKind.u8.wrap ((wn S'.st.l (i/4) >>> (24-8*(i%4))).toNat:Int)=((y6 S'.st i).toNat:Int):=by
     unfold y6
     rw [UInt8.toNat_ofNat',ycc,ycd]
     simp [IntKind.wrap,IntKind.bits,IntKind.signed]
    have sp:∀ x:UInt8,yac i (us (oB S'.st i))++[u8 x]++yav (i+1) (us (oB S'.st i))=us ((oB S'.st i).set i x):=fun x=>Ub (by omega)
    simp -implicitDefEqProofs only [rX,↓rY,Nat.reduceLeDiff,yaf,ed,er,es,↓sh,Qm (show i/4<8 by omega),cv,sp,dW,lo']
    refine ⟨by omega,⟨by simp only [lo];omega,by simp only [Fx.hi];omega⟩,by omega,by omega,⟨by simp only [lo];omega,by simp only [Fx.hi];omega⟩,⟨by simp only [lo];omega,by simp only [Fx.hi];omega⟩,by omega,by omega,⟨by simp only [lo];omega,by simp only [Fx.hi];omega⟩,?_⟩
    refine hN _ (i+1) (by omega) (by omega) ?_
    rw [Vt (by omega)]
    exact ⟨by simp -implicitDefEqProofs only [rX,↓reduceIte,Nat.reduceEqDiff,leE];simp,cH _,trivial,by simp -implicitDefEqProofs only [rX,aB,wfE,wfV],by simp -implicitDefEqProofs only [rX,wfB,iG,dV]⟩
   | false =>
    have h1':=of_decide_eq_false h1
    have:i=32:=by omega
    subst this
    have l32:((yay 32).map (y6 S'.st)).length=32:=by simp
    have tk3:(us ((yay 32).map (y6 S'.st))).take 32=us ((yay 32).map (y6 S'.st)):=yab (by rw [dW,l32];exact yaa _)
    have dk3:(us z32).drop 32=[]:=yau (by rw [dW,tG];exact yaa _)
    simp -implicitDefEqProofs only [rX,↓rY,Zz,tk3,dW,l32,iP,tG,dk3,dV]
    rw [hst']
    rfl
set_option maxRecDepth 20000
set_option maxRecDepth 20000
theorem We:iv.enc=[.v (.int .u32 1779033703),.v (.int .u32 3144134277),.v (.int .u32 1013904242),.v (.int .u32 2773480762),.v (.int .u32 1359893119),.v (.int .u32 2600822924),.v (.int .u32 528734635),.v (.int .u32 1541459225)]:=rfl
theorem n6:((6:Nat):Int)=6:=rfl
set_option maxRecDepth 20000
theorem y1 {m:Bs}:(sha m).length=32:=by simp [sha]
def z16:Bs:=yah 16 0
theorem dI:z16.length=16:=rfl
theorem w16:yae V.v (ybG 16 (Value.int IntKind.u8 0)).toList=us z16:=by unfold us;rfl
attribute [irreducible] z16
def cp (l:Bs) (i:Nat):Bs:=l.take i++yah (16-i) 0
set_option maxRecDepth 20000
def S0:Stm:=⟨iv,yah 64 0,0⟩
theorem rp0:Rp S0 []:=⟨rfl,rfl,rfl,rfl⟩
theorem Xc:S0.enc=iv.enc++(yah 64 (u8 0)++[n64 0]):=by unfold Stm.enc sC;rfl
theorem Kd:nJ.toList.length=73:=rfl
set_option maxHeartbeats 2000000 in
theorem Zr:Ok 128 [] (Is (.agg S0.enc)):=by
 refine bW lw128 (by simp) ?_
 unfold c128
 simp -implicitDefEqProofs only [rX,↓rY,aA,cells?,splice,↓reduceIte,Nat.reduceAdd,reduceCtorEq,aD,bY,aU,aY,wfV,isC,Nat.reduceLeDiff,cxN,aL,Xc,We,Kd]
 refine ⟨yaa _,?_,?_⟩
 ·simp [wfL,wfV]
 ·rfl
end Go.Fx.H
namespace Go.Fx.H
open Go Go.Fx
def zz (x:Int):Nat:=if 0≤x then (2*x).toNat else (-2*x-1).toNat
def vi (n:Nat):Bs:=if h:n<128 then [UInt8.ofNat n] else UInt8.ofNat (n%128+128)::vi (n/128)
termination_by n
decreasing_by omega
def nB (x:Int):Bs:=vi (zz x)
def tB (t:Bs):Bs:=nB t.length++t
def inB (k:Int) (l:List Bs):Bs:=UInt8.ofNat (k%256).toNat::(l.map tB).flatten
def d5 (k:Int) (l:List Bs):Bs:=(sha (inB k l)).take 16
theorem Kq {n:Nat} (h:n<128):vi n=[UInt8.ofNat n]:=by rw [vi,dif_pos h]
theorem Sr {n:Nat} (h:¬n<128):vi n=UInt8.ofNat (n%128+128)::vi (n/128):=by rw [vi,dif_neg h]
theorem Kb {x:Int} (hx:-9223372036854775808≤x∧x≤9223372036854775807):zz x<18446744073709551616:=by unfold zz;split<;>omega
theorem wrap64 {x:Int}:IntKind.u64.wrap x=x%18446744073709551616:=by simp [IntKind.wrap,IntKind.bits,IntKind.signed]
theorem Gl {x:Int}:IntKind.u8.wrap x=x%256:=by simp [IntKind.wrap,IntKind.bits,IntKind.signed]
theorem Pp {x:Int} (hx:-9223372036854775808≤x∧x≤9223372036854775807) :
  IntKind.u64.wrap ((yag 64 (IntKind.u64.wrap (IntKind.u64.wrap x*2)) ^^^ yag 64 (IntKind.u64.wrap (x.fdiv 9223372036854775808))).toNat:Int)=(zz x:Int):=by
 rw [wrap64 (x:=((BitVec.toNat _:Nat):Int))]
 have h64:∀ b:BitVec 64,((b.toNat:Nat):Int)%18446744073709551616=(b.toNat:Int):=fun b=>Int.emod_eq_of_lt (yaN _) (by have:=b.isLt;omega)
 rw [h64,wrap64,wrap64,wrap64,ybn _ (by omega)]
 unfold zz
 by_cases h:0≤x
 ·rw [if_pos h,show x/9223372036854775808=0 by omega,show x%18446744073709551616*2%18446744073709551616=2*x by omega]
  simp only [Int.zero_emod,BitVec.ofInt_ofNat,BitVec.xor_zero,ybU]
  omega
 ·rw [if_neg h,show x/9223372036854775808=-1 by omega,show x%18446744073709551616*2%18446744073709551616=2*x+18446744073709551616 by omega,show (-1:Int)%18446744073709551616=18446744073709551615 from rfl]
  have e1:yag 64 18446744073709551615=BitVec.allOnes 64:=ycb (by rw [ybU,BitVec.toNat_allOnes];omega)
  rw [e1,BitVec.xor_allOnes,BitVec.toNat_not,ybU]
  omega
theorem Ys {n:Nat} (h:n<18446744073709551616):IntKind.u8.wrap ((yag 8 (IntKind.u8.wrap (n:Int)) ||| yag 8 128).toNat:Int)=((UInt8.ofNat (n%128+128)).toNat:Int):=by
 rw [Gl,Gl]
 have h8:∀ b:BitVec 8,((b.toNat:Nat):Int)%256=(b.toNat:Int):=fun b=>Int.emod_eq_of_lt (yaN _) (by have:=b.isLt;omega)
 rw [h8]
 have key:∀ m:Fin 256,(yaM 8 m.val ||| 128#8).toNat=m.val%128+128:=by decide +kernel
 have:=key ⟨n%256,by omega⟩
 simp only at this
 have e:yag 8 ((n:Int)%256)=yaM 8 (n%256):=by
  rw [show ((n:Int)%256)=((n%256:Nat):Int) by omega,yca]
 rw [e,show yag 8 128=128#8 by rfl,this,UInt8.toNat_ofNat']
 omega
theorem Kz {n:Nat} (h:n<128):IntKind.u8.wrap (n:Int)=((UInt8.ofNat n).toNat:Int):=by
 rw [Gl,UInt8.toNat_ofNat'];omega
theorem Gv:∀ (k n:Nat),n<128 ^ (k+1)→(vi n).length≤k+1
 | 0,n,h=>by rw [Kq (by omega)];simp
 | k+1,n,h=>by
  by_cases hn:n<128
  ·rw [Kq hn];simp
  ·rw [Sr hn,yas]
   have:=Gv k (n/128) (by rw [Nat.div_lt_iff_lt_mul (by omega),←Nat.pow_succ];exact h)
   omega
theorem Kr {n:Nat} (h:n<18446744073709551616):(vi n).length≤10:=Gv 9 n (by omega)
theorem Mv {x:Int} (hx:-9223372036854775808≤x∧x≤9223372036854775807):(nB x).length≤10:=Kr (Kb hx)
open Go Go.Fx Go.Proofs
set_option maxRecDepth 20000
theorem adE {a b:Int} {K:V→Prop}:cF .shl .u64 a b K=(0≤b∧K (.v (.int .u64 (IntKind.u64.wrap (a*2 ^ (min b.toNat 64)))))):=rfl
theorem Xp {a b:Int} {K:V→Prop}:cF .shr .u64 a b K=(0≤b∧K (.v (.int .u64 (a.fdiv (2 ^ (min b.toNat 64)))))):=rfl
theorem sri {a b:Int} {K:V→Prop}:cF .shr .i64 a b K=(0≤b∧K (.v (.int .i64 (a.fdiv (2 ^ (min b.toNat 64)))))):=rfl
theorem acM {a c:Int} {K:V→Prop} {x:Bool}:b6 .xor x .u64 a c K=K (.v (.int .u64 (IntKind.u64.wrap ((yag 64 a ^^^ yag 64 c).toNat:Int)))):=rfl
theorem or8 {a c:Int} {K:V→Prop} {x:Bool}:b6 .or x .u8 a c K=K (.v (.int .u8 (IntKind.u8.wrap ((yag 8 a ||| yag 8 c).toNat:Int)))):=rfl
theorem p1:(2:Int) ^ (min (1:Int).toNat 64)=2:=rfl
theorem p63:(2:Int) ^ (min (63:Int).toNat 64)=9223372036854775808:=rfl
theorem p7:(2:Int) ^ (min (7:Int).toNat 64)=128:=rfl
theorem Nc {fx:List Nat} {f:(St→Prop)→St→Prop} {s s0:St} (hgh:dR fx s s0) {G:Type} (pat:G→St) (I:G→Prop) (μ:G→Nat) (g:G) (h0:I g) (h1:leS fx s0 (pat g))
  (h:∀ g,I g→∀ N:St→Prop,(∀ s' g',I g'→μ g'<μ g→leS fx s' (pat g')→N s')→f N (pat g)):sQ fx f s :=
 eV hgh pat I μ g h0 h1 fun g hg=>h g hg _ fun s' g' a b c=>⟨g',⟨a,b⟩,c⟩
theorem aaS {n:Nat}:((n:Int).fdiv 128)=((n/128:Nat):Int):=by rw [ybn _ (by omega)];rfl
structure VI (x:Nat) (g:Bs × Nat):Prop where
 e:vi x=g.1++vi g.2
 lt:g.2<18446744073709551616
 len:g.1.length≤10
theorem VI.next {x:Nat} {L:Bs} {n:Nat} (h:VI x (L,n)) (hx:x<18446744073709551616) (hn:¬n<128):VI x (L++[UInt8.ofNat (n%128+128)],n/128):=by
 have he:=h.e
 have hl:=Kr hx
 have:=h.lt
 simp only at he this
 rw [Sr hn] at he
 refine ⟨by simp only;rw [he];simp,by simp only;omega,?_⟩
 rw [he] at hl
 simp only [yad,yas,yaA] at hl ⊢
 omega
set_option maxHeartbeats 1000000 in
theorem Ze (x:Int) (hx:-9223372036854775808≤x∧x≤9223372036854775807):Ok 160 [.i x] (IsA (.sl 0 0 (nB x).length) [.arr 1 ((nB x).map by1)]):=by
 refine bW lw160 (by simp) ?_
 unfold c160
 simp -implicitDefEqProofs only [rX,aA,↓reduceIte,Nat.reduceEqDiff,reduceCtorEq,cxN,aL,↓adE,↓sri,↓acM,p1,p63,Pp hx]
 refine ⟨by omega,by omega,?_⟩
 refine Nc (.virt 1 1 (by decide) (.nilE 4 0 rfl (.refl _))) (fun g:Bs × Nat=>(⟨[(4,.sl 0 0 g.1.length),(3,n64 g.2)],[.arr 1 (g.1.map by1)],0⟩:St)) (VI (zz x)) (fun g=>g.2) ([],zz x) ⟨rfl,Kb hx,by simp⟩ ?_ ?_
 ·exact ⟨by simp -implicitDefEqProofs only [rX,↓reduceIte,Nat.reduceEqDiff,leE],cH _,trivial,by simp -implicitDefEqProofs only [rX,aB,wfE,wfV],by simp -implicitDefEqProofs only [wfB]⟩
 rintro ⟨L,n⟩ hI N hN
 have hlt:=hI.lt
 have hlen:=hI.len
 have he:=hI.e
 simp only at hlt hlen he
 have tk:yac L.length (yae by1 L)=yae by1 L:=yab (by rw [yaj];exact yaa _)
 simp only [c160l0]
 simp -implicitDefEqProofs only [rX,↓rY,aA,cells?,↓reduceIte,Nat.reduceEqDiff,Nat.reduceAdd,reduceCtorEq,aD,bU,aP,aS,kill,St.kill,isD,Nat.reduceLT,Nat.reduceLeDiff,yal]
 cases h1:decide ((n:Int)>127) with
 | true =>
  have h1':=of_decide_eq_true h1
  simp -implicitDefEqProofs only [rX,↓rY,kill,St.kill,isD,↓or8,↓Xp,p7,Ys hlt,aaS,tk]
  refine ⟨by omega,by omega,hN _ (L++[UInt8.ofNat (n%128+128)],n/128) (hI.next (Kb hx) (by omega)) (by simp only;omega) ?_⟩
  exact ⟨by simp -implicitDefEqProofs only [rX,↓reduceIte,Nat.reduceEqDiff,leE],⟨by rw [yaq];exact bF _,trivial⟩,trivial,by simp -implicitDefEqProofs only [rX,aB,wfE,wfV],by simp -implicitDefEqProofs only [wfB]⟩
 | false =>
  have h1':=of_decide_eq_false h1
  have hv:nB x=L++[UInt8.ofNat n]:=by unfold nB;rw [he,Kq (by omega)]
  simp -implicitDefEqProofs only [↓rY,Kz (show n<128 by omega),tk]
  refine ⟨by omega,?_⟩
  simp -implicitDefEqProofs only [rX,↓reduceIte,aU,aY,leH,leB,aC,aB,wfB,wfV,Nat.reduceLeDiff,bT,hv,yaq]
  rfl
set_option maxRecDepth 20000
theorem Ug {t:Bs} (h:t.length≤140737488355000):(tB t).length≤t.length+10:=by
 have:=Mv (x:=(t.length:Int)) (by omega)
 simp only [tB,yad];omega
set_option maxHeartbeats 1000000 in
theorem Zq (t:Bs) (ht:t.length≤140737488355000):Ok 130 [sv t] (IsA (.sl 1 0 (tB t).length) [.dead,.arr 1 ((tB t).map by1)]):=by
 refine bW lw130 (by simp) ?_
 unfold c130
 simp -implicitDefEqProofs only [rX,↓rY,aA,↓reduceIte,reduceCtorEq,cxN,bQ,aL]
 have hn:-9223372036854775808≤((t.length:Nat):Int)∧((t.length:Nat):Int)≤9223372036854775807:=by omega
 have hl:=Mv hn
 have tk:yac (nB t.length).length (yae by1 (nB t.length))=yae by1 (nB t.length):=yab (by rw [yaj];exact yaa _)
 refine dM _ _ (.sl 1 0 (nB t.length).length) _ [.arr 1 ((nB t.length).map by1)] (Ze (t.length:Int) hn) (by simp [aM,bG,aX,cY,wkL,wk,wkR,bQ]) (by simp [ren]) (by simp [bJ]) trivial ?_
 simp -implicitDefEqProofs only [rX,↓rY,↓reduceIte,Nat.reduceEqDiff,Nat.reduceAdd,reduceCtorEq,aU,aY,leH,leB,aC,aB,wfB,wfV,aP,aS,kill,St.kill,Nat.reduceLeDiff,yal,Uj,bT,tk,tB,yaq]
 omega
def i1 (x:Int):List V:=[.i x]
abbrev bI (l:List Int):V:=.bro 1 (l.map i1)
set_option maxRecDepth 20000
def sqL:LCode→LCode
 | .seq a _=>a
 | x=>x
def sqR:LCode→LCode
 | .seq _ b=>b
 | x=>x
def s1 (t:Bs):List V:=[sv t]
theorem adJ {t:Bs}:(s1 t)[0]?=some (sv t):=rfl
abbrev bS (l:List Bs):V:=.bro 1 (l.map s1)
def inK (k:Int) (l:List Bs) (n:Nat):Bs:=UInt8.ofNat (k%256).toNat::((l.take n).map tB).flatten
theorem No {k:Int} {l:List Bs} {n:Nat} (h:n<l.length):inK k l (n+1)=inK k l n++tB l[n]:=by
 unfold inK
 rw [←List.take_append_getElem h,yaq,ybV,yaH]
 simp
theorem If {k:Int} {l:List Bs}:inK k l l.length=inB k l:=by simp [inK,inB]
theorem aaM {k:Int} {l:List Bs}:inK k l 0=[UInt8.ofNat (k%256).toNat]:=by simp [inK]
theorem Nq {k:Int} {l:List Bs}:∀ (d n:Nat),n+d=l.length→(inK k l n).length≤(inB k l).length
 | 0,n,h=>by rw [←If,←h];exact yaa _
 | d+1,n,h=>by
  refine ybx ?_ (Nq d (n+1) (by omega))
  rw [No (by omega),yad];omega
theorem Np {k:Int} {l:List Bs} {n:Nat} (h:n<l.length):(inK k l n).length+(tB l[n]).length≤(inB k l).length∧l[n].length≤(inB k l).length:=by
 have:=Nq (k:=k) (l:=l) (l.length-(n+1)) (n+1) (by omega)
 rw [No h,yad] at this
 refine ⟨this,ybx ?_ (ybx (Nat.le_add_left _ _) this)⟩
 simp [tB]
attribute [irreducible] inK
theorem bN {k:Int} {l:List Bs}:(d5 k l).length=16:=by unfold d5;rw [yaJ,y1];rfl
def c70r:LCode:=sqR (sqR c84)
theorem c70_eq:c84=.seq (sqL c84) (.seq (sqL (sqR c84)) c70r):=rfl
theorem aaV {k:Int}:IntKind.u8.wrap k=((UInt8.ofNat (k%256).toNat).toNat:Int):=by rw [Gl,UInt8.toNat_ofNat'];omega
set_option maxHeartbeats 2000000 in
theorem abG (k:Int) (l:List Bs) (hB:(inB k l).length≤1000000000000) (S:Stm) (hS:Rp S (inK k l 0)) (els:List (List V)) (e:Env) (b:Nat) (h1:get e 1=bS l) (h4:get e 4=.ptr 0 0 0) (h5:get e 5=.ptr 2 0 0) :
  aw (cxN Tryz.prog []) c70r (eJ [] 0 [eT.cell 4 (some 16)] (Is (.agg (us (d5 k l))))) (fun _ _=>False) (eJ [] 0 [eT.cell 4 (some 16)] (Is (.agg (us (d5 k l))))) ⟨e,[.var (us z16),.arr 1 els,.var S.enc],b⟩:=by
 unfold c70r
 simp -implicitDefEqProofs only [rX,↓rY,c84,sqR,aA,↓reduceIte,Nat.reduceAdd,cxN,h1]
 intro hml
 simp only [maxLen] at hml
 refine gD (fun g:Nat × Stm=>(⟨[(17,.i g.1),(16,.i l.length),(15,bS l),(5,.ptr 2 0 0),(4,.ptr 0 0 0)],[.var (us z16),.dead,.var (sC g.2.st g.2.blk g.2.n)],3⟩:St)) (fun g=>g.1≤l.length∧Rp g.2 (inK k l g.1)) (fun g=>l.length-g.1) (0,S) ⟨yai _,hS⟩ ?_ ?_
 ·exact ⟨by simp -implicitDefEqProofs only [rX,↓reduceIte,Nat.reduceEqDiff,leE,h4,h5];rfl,⟨bF _,trivial,bF _,trivial⟩,trivial,by simp -implicitDefEqProofs only [rX,aB,wfE,wfV],by simp -implicitDefEqProofs only [rX,wfB,iG,dV]⟩
 rintro ⟨n,S⟩ ⟨hn,hS⟩ N hN
 simp only at hn hS
 have hl:=hS.len
 simp only [c84l0]
 simp -implicitDefEqProofs only [rX,↓rY,rdK,↓reduceIte,Nat.reduceEqDiff,Nat.reduceAdd,yar,yaf]
 cases h1:decide ((n:Int)<(l.length:Int)) with
 | true =>
  have h1':=of_decide_eq_true h1
  have hn':n<l.length:=by omega
  simp -implicitDefEqProofs only [rX,↓rY,yan hn',adJ,iU hl,dZ hl]
  have hp:=Np (k:=k) hn'
  refine ⟨by omega,hn',?_⟩
  refine dM _ _ (.sl 4 0 (tB l[n]).length) _ [.dead,.arr 1 ((tB l[n]).map by1)] (Zq l[n] (by omega)) (by simp [aM,bG,aX,cY,wkL,wk,wkR,bQ]) (by simp [ren]) (by simp [bJ]) trivial ?_
  have tk:yac (tB l[n]).length (yae by1 (tB l[n]))=yae by1 (tB l[n]):=yab (by rw [yaj];exact yaa _)
  simp -implicitDefEqProofs only [rX,↓rY,↓reduceIte,Nat.reduceEqDiff,tk,j4,Hd]
  refine ⟨.inr trivial,?_⟩
  refine vS _ _ _ (Mn S _ (tB l[n]) hS (by omega)) ⟨⟨(cX _ gR).1,trivial,trivial⟩,(cX _ gR).2,rfl,trivial⟩ (fun g=>by simp only [ren,Stm.enc,tN]) trivial ?_
  intro S' hS'
  have hl':=hS'.len
  simp -implicitDefEqProofs only [rX,↓rY,aA,cells?,splice,↓reduceIte,Nat.reduceEqDiff,Nat.reduceAdd,Stm.enc,iU hl',dZ hl',Qq,dZ hl,uD hl]
  rw [←No hn'] at hS'
  refine ⟨⟨by simp only [lo];omega,by simp only [Fx.hi];omega⟩,hN _ (n+1,S') ⟨by simp only;omega,hS'⟩ (by simp only;omega) ?_⟩
  exact ⟨by simp -implicitDefEqProofs only [rX,↓reduceIte,Nat.reduceEqDiff,leE];rfl,⟨bF _,trivial,bF _,trivial⟩,trivial,by simp -implicitDefEqProofs only [rX,aB,wfE,wfV],by simp -implicitDefEqProofs only [rX,wfB,iG,dV]⟩
 | false =>
  have h1':=of_decide_eq_false h1
  have:n=l.length:=by omega
  subst this
  rw [If] at hS
  simp -implicitDefEqProofs only [rX,↓rY,iU hl,dZ hl]
  refine aE (Zp S _ hS (by omega)) ⟨⟨(cX _ gR).1,trivial⟩,(cX _ gR).2,trivial⟩ (by simp [ren,bB]) trivial ?_
  have tks:(us (sha (inB k l))).take 32=us (sha (inB k l)):=yab (by rw [dW,y1];exact yaa _)
  have dz:(us z32).drop 32=[]:=yau (by rw [dW,tG];exact yaa _)
  simp -implicitDefEqProofs only [rX,↓rY,aA,cells?,splice,↓reduceIte,Nat.reduceEqDiff,Nat.reduceAdd,aD,cP,aU,aY,wfV,Nat.reduceLT,Nat.reduceLeDiff,w32,dW,iP,y1,tG,dz]
  have h16:yac 16 (yav (yam 0) (us (sha (inB k l))))=us (d5 k l):=by rw [show yam 0=0 from rfl,ybf,Qf];rfl
  have l16:=bN (k:=k) (l:=l)
  have dz6:(us z16).drop 16=[]:=yau (by rw [dW,dI];exact yaa _)
  have tk3:(us (d5 k l)).take 16=us (d5 k l):=yab (by rw [dW,l16];exact yaa _)
  rw [h16,dW,l16,dz6,yak,tk3,dI]
  exact ⟨⟨⟨by omega,by omega⟩,by omega,by omega⟩,by decide,by decide,rfl,iP,by omega,by simp,dV,rfl⟩
set_option maxHeartbeats 4000000 in
theorem Qu (k:Int) (l:List Bs) (hB:(inB k l).length≤1000000000000):Ok 84 [.i k,bS l] (Is (.agg (us (d5 k l)))):=by
 refine bW lw84 (by simp) ?_
 have t73:∀ {S:Stm},Rp S (inK k l 0)→(S.enc).length=73∧(S.enc).take 73=S.enc∧S.enc.all isC=true:=fun {S} h=>⟨dZ h.len,iU h.len,Qq⟩
 have d73:(yae V.v nJ.toList).drop 73=[]:=rfl
 have hd:UInt8.ofNat (k%256).toNat::[]=inK k l 0:=aaM.symm
 have by0:by1 (UInt8.ofNat (k%256).toNat)=[V.v (.int .u8 ((UInt8.ofNat (k%256).toNat).toNat:Int))]:=rfl
 have bo:bytesOf [[V.v (.int .u8 ((UInt8.ofNat (k%256).toNat).toNat:Int))]]=some (inK k l 0):=by rw [←hd,←by0];exact j4 [_]
 have i0:(inK k l 0).length=1:=by rw [←hd];rfl
 have o97:Ok 129 [.agg S0.enc,sv (inK k l 0)] (IsQ (fun S'=>Rp S' (inK k l 0)) (fun S'=>.agg S'.enc) (fun _=>[])):=by
  have:=Mn S0 [] (inK k l 0) rp0 (by rw [i0];decide)
  simpa using this
 rw [c70_eq]
 simp -implicitDefEqProofs only [rX,↓rY,c84,sqL,sqR,aA,cells?,↓reduceIte,Nat.reduceEqDiff,Nat.reduceAdd,reduceCtorEq,aD,bU,isD,Nat.reduceLT,cxN,aL,w16,aaV,bo,Hd]
 repeat' first
  | exact abG k l hB _ (by assumption) _ _ _ rfl rfl rfl
  | refine And.intro ?_ ?_
  | (refine aE Zr ⟨trivial,trivial⟩ (by simp only [ren,Stm.enc,tN]) trivial ?_
     simp -implicitDefEqProofs only [rX,↓rY,aA,cells?,↓reduceIte,Nat.reduceEqDiff,Nat.reduceAdd,reduceCtorEq,aD,bU,isD,Nat.reduceLT,bo,Hd])
  | (refine vS _ _ _ o97 ⟨⟨(cX _ gR).1,trivial,trivial⟩,(cX _ gR).2,rfl,trivial⟩ (fun g=>by simp only [ren,Stm.enc,tN]) trivial ?_
     intro S hS
     simp -implicitDefEqProofs only [rX,↓rY,aA,cells?,splice,↓reduceIte,Nat.reduceEqDiff,Nat.reduceAdd,aD,Kd,d73,(t73 hS).1,(t73 hS).2.1,(t73 hS).2.2])
set_option maxRecDepth 20000
end Go.Fx.H
namespace Go.Fx.H
open Go Go.Fx
def lf (t:Bs):Bs:=d5 30 [t]
def nd (a b:Bs):Bs:=d5 31 [a,b]
def em:Bs:=d5 32 []
def lB:Bs:=yah 16 0
def spl (n:Nat):Nat:=2 ^ yaD (n-1)
theorem eP {n:Nat} (h:2≤n):(1≤spl n∧spl n<n)∧n≤2*spl n:=by
 unfold spl
 have h1:n-1≠0:=by omega
 have a:=Nat.log2_self_le h1
 have b:=Nat.lt_log2_self (n:=n-1)
 have c:1≤2 ^ (n-1).log2:=Nat.one_le_two_pow
 rw [Nat.pow_succ] at b
 omega
def root (l:List Bs):Bs :=
 if h:2≤l.length then nd (root (l.take (spl l.length))) (root (l.drop (spl l.length))) else l.headD em
termination_by l.length
decreasing_by
 ·have:=eP h;simp;omega
 ·have:=eP h;simp;omega
theorem o5 {l:List Bs} (h:2≤l.length):root l=nd (root (l.take (spl l.length))) (root (l.drop (spl l.length))):=by rw [root,dif_pos h]
theorem o6 {l:List Bs} (h:¬2≤l.length):root l=l.headD em:=by rw [root,dif_neg h]
def eB (l:List Bs) (i:Nat):List Bs :=
 if h:2≤l.length then
  (if i<spl l.length then eB (l.take (spl l.length)) i++[root (l.drop (spl l.length))] else eB (l.drop (spl l.length)) (i-spl l.length)++[root (l.take (spl l.length))])
 else []
termination_by l.length
decreasing_by
 ·have:=eP h;simp;omega
 ·have:=eP h;simp;omega
theorem vD {l:List Bs} {i:Nat} (h:¬2≤l.length):eB l i=[]:=by rw [eB,dif_neg h]
theorem Ah {l:List Bs} {i:Nat} (h:2≤l.length) (hi:i<spl l.length):eB l i=eB (l.take (spl l.length)) i++[root (l.drop (spl l.length))]:=by rw [eB,dif_pos h,if_pos hi]
theorem Aj {l:List Bs} {i:Nat} (h:2≤l.length) (hi:¬i<spl l.length):eB l i=eB (l.drop (spl l.length)) (i-spl l.length)++[root (l.take (spl l.length))]:=by rw [eB,dif_pos h,if_neg hi]
def dep (i n:Nat):Nat :=
 if h:2≤n then (if i<spl n then dep i (spl n) else dep (i-spl n) (n-spl n))+1 else 0
termination_by n
decreasing_by
 ·have:=eP h;omega
 ·have:=eP h;omega
theorem Av {i n:Nat} (h:¬2≤n):dep i n=0:=by rw [dep,dif_neg h]
theorem Fs {i n:Nat} (h:2≤n) (hi:i<spl n):dep i n=dep i (spl n)+1:=by rw [dep,dif_pos h,if_pos hi]
theorem Ft {i n:Nat} (h:2≤n) (hi:¬i<spl n):dep i n=dep (i-spl n) (n-spl n)+1:=by rw [dep,dif_pos h,if_neg hi]
def cl (x:Bs) (i n:Nat) (p:List Bs):Bs :=
 if h:2≤n then (if i<spl n then nd (cl x i (spl n) p.dropLast) (p.getLastD lB) else nd (p.getLastD lB) (cl x (i-spl n) (n-spl n) p.dropLast)) else x
termination_by n
decreasing_by
 ·have:=eP h;omega
 ·have:=eP h;omega
theorem Bb {x:Bs} {i n:Nat} {p:List Bs} (h:¬2≤n):cl x i n p=x:=by rw [cl,dif_neg h]
theorem Oq {x:Bs} {i n:Nat} {p:List Bs} (h:2≤n) (hi:i<spl n):cl x i n p=nd (cl x i (spl n) p.dropLast) (p.getLastD lB):=by rw [cl,dif_pos h,if_pos hi]
theorem Ik {x:Bs} {i n:Nat} {p:List Bs} (h:2≤n) (hi:¬i<spl n):cl x i n p=nd (p.getLastD lB) (cl x (i-spl n) (n-spl n) p.dropLast):=by rw [cl,dif_pos h,if_neg hi]
def mM (x:Bs) (i n:Nat) (p:List Bs) (r:Bs):Bool:=decide (p.length=dep i n)&&(cl x i n p==r)
theorem Ie:∀ (n:Nat) (l:List Bs) (i:Nat),l.length=n→i<l.length→(eB l i).length=dep i l.length∧cl (l.getD i []) i l.length (eB l i)=root l:=by
 intro n
 induction n using yby with
 | ind n ih =>
  intro l i hn h
  by_cases h2:2≤l.length
  ·have hk:=eP h2
   by_cases hi:i<spl l.length
   ·have hl:(l.take (spl l.length)).length=spl l.length:=by simp;omega
    have:=ih (spl l.length) (by omega) (l.take (spl l.length)) i hl (by omega)
    rw [hl] at this
    rw [Ah h2 hi,Fs h2 hi,Oq h2 hi,o5 h2]
    simp only [yad,yck,ybQ,ycl]
    have he:(l.take (spl l.length)).getD i []=l.getD i []:=by simp only [List.getD,List.getElem?_take_of_lt hi]
    rw [he] at this
    exact ⟨by omega,by rw [this.2]⟩
   ·have hl:(l.drop (spl l.length)).length=l.length-spl l.length:=by simp
    have:=ih (l.length-spl l.length) (by omega) (l.drop (spl l.length)) (i-spl l.length) hl (by omega)
    rw [hl] at this
    rw [Aj h2 hi,Ft h2 hi,Ik h2 hi,o5 h2]
    simp only [yad,yck,ybQ,ycl]
    have he:(l.drop (spl l.length)).getD (i-spl l.length) []=l.getD i []:=by
     simp only [List.getD,List.getElem?_drop];congr 2;omega
    rw [he] at this
    exact ⟨by omega,by rw [this.2]⟩
  ·rw [vD h2,Av h2,Bb h2,o6 h2]
   match l,h,h2 with
   | [x],h,_=>simp at h;subst h;exact ⟨rfl,rfl⟩
   | [],h,_=>simp at h
   | _::_::_,_,h2=>simp at h2
theorem sS {l:List Bs} {i:Nat} (h:i<l.length):mM (l.getD i []) i l.length (eB l i) (root l)=true:=by
 have:=Ie l.length l i rfl h
 unfold mM
 rw [this.1,this.2];simp
end Go.Fx.H
namespace Go.Fx.H
open Go Go.Fx Go.Proofs Go.Fx.R
set_option maxRecDepth 20000
structure Man where
 size:Int
 block:Int
 rt:Bs
def Man.enc (m:Man):List V:=.i m.size::.i m.block::us m.rt
def mR (s b:Int):Int:=(s+b-1).tdiv b
theorem Ay {s b:Int} (hs:0≤s) (hb:1≤b):mR s b=(s+b-1)/b:=by
 unfold mR
 exact Int.tdiv_eq_ediv_of_nonneg (by omega)
theorem Az {s b:Int} (hs:0≤s) (hb:1≤b):0≤mR s b∧mR s b≤s:=by
 rw [Ay hs hb]
 refine ⟨Int.ediv_nonneg (by omega) (by omega),?_⟩
 have:(s+b-1)/b<s+1:=Int.ediv_lt_of_lt_mul (by omega) (by
  have h:s*1≤s*b:=ycm hb hs
  have e:(s+1)*b=s*b+b:=by rw [Int.add_mul,Int.one_mul]
  rw [Int.mul_one] at h
  omega)
 omega
theorem Wu {s b:Int} (hs:0≤s∧s≤1152921504606846976) (hb:1≤b∧b≤1152921504606846976) {K:V→Prop} (h:K (.i (mR s b))) :
  (lo IntKind.i64≤s+b∧s+b≤Fx.hi IntKind.i64)∧(lo IntKind.i64≤s+b-1∧s+b-1≤Fx.hi IntKind.i64)∧b≠0∧(lo IntKind.i64≤(s+b-1).tdiv b∧(s+b-1).tdiv b≤Fx.hi IntKind.i64)∧K (.i ((s+b-1).tdiv b)):=by
 have h1:=Az hs.1 hb.1
 have e:(s+b-1).tdiv b=mR s b:=rfl
 rw [e]
 exact ⟨by simp only [lo,Fx.hi];omega,by simp only [lo,Fx.hi];omega,by omega,by simp only [lo,Fx.hi];omega,h⟩
theorem Rv {s b:Int} (hs:0≤s∧s≤1152921504606846976) (hb:1≤b∧b≤1152921504606846976) :
  (lo IntKind.i64≤s+b∧s+b≤Fx.hi IntKind.i64)∧(lo IntKind.i64≤s+b-1∧s+b-1≤Fx.hi IntKind.i64)∧b≠0∧(lo IntKind.i64≤(s+b-1).tdiv b∧(s+b-1).tdiv b≤Fx.hi IntKind.i64)∧(s+b-1).tdiv b=mR s b:=Wu hs hb (K:=fun x=>match x with|.v (.int _ n)=>n=mR s b|_=>False) rfl
theorem Yv (s b:Int) (hs:0≤s∧s≤1152921504606846976) (hb:1≤b∧b≤1152921504606846976):Ok 77 [.i s,.i b] (Is (.i (mR s b))):=by
 refine bW lw77 (by simp) ?_
 unfold c77
 simp -implicitDefEqProofs only [rX,↓rY,aA,↓reduceIte,Nat.reduceEqDiff,reduceCtorEq,aU,aY,wfV,cxN,aL]
 exact Rv hs hb
def Man.okP (m:Man):Prop:=(0≤m.size∧m.size≤65536)∧(1≤m.block∧m.block≤4096)∧mR m.size m.block≤4096
instance (m:Man):Decidable m.okP:=by unfold Man.okP;infer_instance
def Man.ok (m:Man):Bool:=decide m.okP
theorem mY {l:Bs}:∀ x∈us l,∃ u,x=V.v u:=by
 unfold us
 intro x hx
 obtain ⟨y,_,rfl⟩:=ybb.1 hx
 exact ⟨_,rfl⟩
theorem pH {m:Man}:∀ x∈m.enc,∃ u,x=V.v u:=by
 intro x hx
 unfold Man.enc at hx
 rcases yaw.1 hx with rfl|hx
 ·exact ⟨_,rfl⟩
 ·rcases yaw.1 hx with rfl|hx
  ·exact ⟨_,rfl⟩
  ·exact mY x hx
theorem cB {m:Man} {h:List Blk} {g:Nat→Option Nat}:aM h g m.enc∧wkL m.enc (aX h g m.enc):=cX _ pH
theorem Cu {m:Man} (h:m.rt.length=16):yac 18 (V.i m.size::V.i m.block::us m.rt)=m.enc:=yab (by simp [dW,h])
theorem Sx {m:Man} (h:m.okP):0≤mR m.size m.block∧mR m.size m.block≤m.size:=Az h.1.1 h.2.1.1
def Man.n (m:Man):Int:=mR m.size m.block
theorem Jl (m:Man) (h:m.okP):Ok 35 [.agg m.enc] (Is (.i m.n)):=by
 refine bW lw35 (by simp) ?_
 unfold c35 Man.enc
 simp -implicitDefEqProofs only [rX,↓rY,aA,cells?,↓reduceIte,Nat.reduceEqDiff,aD,cxN,aL]
 obtain ⟨h1,h2,h3⟩:=h
 refine aE (Yv m.size m.block ⟨h1.1,by omega⟩ ⟨h2.1,by omega⟩) ⟨⟨trivial,trivial,trivial⟩,rfl,rfl,trivial⟩ rfl trivial ?_
 simp -implicitDefEqProofs only [rX,↓reduceIte,aU,aY,wfV]
 rfl
def Man.span (m:Man) (k:Int):Sp:=if k<0∨m.n≤k then (0,0) else (k*m.block,min m.size ((k+1)*m.block))
theorem m8 {m:Man} {h:List Blk}:aM h (fun _=>none) [V.agg m.enc]∧wkL [V.agg m.enc] (aX h (fun _=>none) [V.agg m.enc]):=⟨⟨cB.1,trivial⟩,cB.2,trivial⟩
theorem Td {k n b s:Int} (hk:0≤k∧k≤70000) (hb:1≤b∧b≤4096):0≤k*b∧k*b≤286720000:=by
 refine ⟨Int.mul_nonneg hk.1 (by omega),?_⟩
 exact Int.le_trans (ycm hb.2 hk.1) (by omega)
theorem Qw (m:Man) (k:Int) (h:m.okP) (hr:m.rt.length=16):Ok 37 [.agg m.enc,.i k] (Is (.agg (enS (m.span k)))):=by
 refine bW lw37 (by simp) ?_
 unfold c37
 have hn:=Sx h
 obtain ⟨p1,p2,p3⟩:=id h
 simp -implicitDefEqProofs only [rX,↓rY,aA,cells?,splice,↓reduceIte,Nat.reduceEqDiff,Nat.reduceAdd,reduceCtorEq,aD,bY,aU,aY,wfV,wfL,isC,Nat.reduceLeDiff,cxN,aL,show m.enc=V.i m.size::V.i m.block::us m.rt from rfl]
 simp only [br,decide_eq_true_eq,decide_eq_false_iff_not,Cu hr]
 refine ⟨fun h1=>?_,fun h1=>⟨by rw [dW,hr];omega,?_⟩⟩
 ·unfold Man.span;rw [if_pos (.inl h1)];rfl
 ·refine aE (Jl m h) m8 rfl trivial ?_
  simp -implicitDefEqProofs only [rX,↓rY,aA,cells?,splice,↓reduceIte,Nat.reduceEqDiff,Nat.reduceAdd,reduceCtorEq,bY,aU,aY,wfV,wfL,isC,Nat.reduceLeDiff]
  simp only [br,decide_eq_true_eq,decide_eq_false_iff_not]
  refine ⟨fun h2=>?_,fun h2=>?_⟩
  ·unfold Man.span;rw [if_pos (.inr h2)];rfl
  ·have hk:0≤k∧k≤70000:=by unfold Man.n at h2;omega
   have m1:=Td (n:=0) (s:=0) hk p2
   have m2:=Td (k:=k+1) (n:=0) (s:=0) (b:=m.block) ⟨by omega,by unfold Man.n at h2;omega⟩ p2
   refine ⟨by simp only [lo,Fx.hi];omega,by simp only [lo,Fx.hi];omega,by simp only [lo,Fx.hi];omega,?_⟩
   unfold Man.span;rw [if_neg (by omega)];rfl
end Go.Fx.H
namespace Go.Fx.H
open Go Go.Fx Go.Proofs Go.Fx.R
set_option maxRecDepth 20000
theorem fM {l:Bs} (h:l.length=16):(us l).length=16∧(us l).take 16=us l∧(us l).drop 16=[]:=⟨by rw [dW,h],yab (by rw [dW,h];exact yaa _),yau (by rw [dW,h];exact yaa _)⟩
theorem Lh {t:Bs} (h:t.length≤100000000000):(tB t).length≤t.length+10:=Ug (by omega)
theorem in1 {k:Int} {t:Bs} (h:t.length≤100000000000):(inB k [t]).length≤1000000000000:=by
 have:=Lh h
 simp [inB];omega
theorem in2 {k:Int} {a b:Bs} (ha:a.length≤100000000000) (hb:b.length≤100000000000):(inB k [a,b]).length≤1000000000000:=by
 have:=Lh ha
 have:=Lh hb
 simp [inB];omega
theorem in0 {k:Int}:(inB k []).length≤1000000000000:=by simp [inB]
theorem oE {t:Bs}:(lf t).length=16:=bN
theorem lJ {a b:Bs}:(nd a b).length=16:=bN
theorem Fq:em.length=16:=bN
theorem Vp (t:Bs) (h:t.length≤100000000000):Ok 43 [sv t] (Is (.agg (us (lf t)))):=by
 refine bW lw43 (by simp) ?_
 unfold c43
 simp -implicitDefEqProofs only [rX,↓rY,aA,cells?,↓reduceIte,reduceCtorEq,aD,bU,isD,Nat.reduceLT,cxN,nQ,aL,w16]
 refine aE (Qu 30 [t] (in1 h)) ⟨⟨trivial,yaa 1,trivial⟩,rfl,⟨rfl,rfl⟩,trivial⟩ (by simp [ren,bB]) trivial ?_
 obtain ⟨u1,u2,u3⟩:=fM (oE (t:=t))
 obtain ⟨z1,z2,z3⟩:=fM dI
 have hh:d5 30 [t]=lf t:=rfl
 simp -implicitDefEqProofs only [rX,↓rY,cells?,splice,↓reduceIte,Nat.reduceEqDiff,aU,aY,wfV,hh,u1,u2,z1,z3,iP,dV]
theorem Zy:Ok 108 [] (Is (.agg (us em))):=by
 refine bW lw108 (by simp) ?_
 unfold c108
 simp -implicitDefEqProofs only [rX,↓rY,aA,cells?,aD,cxN,aL,w16]
 refine aE (Qu 32 [] in0) ⟨⟨trivial,trivial,trivial⟩,rfl,rfl,trivial⟩ (by simp [ren,bB]) trivial ?_
 obtain ⟨u1,u2,u3⟩:=fM Fq
 obtain ⟨z1,z2,z3⟩:=fM dI
 have hh:d5 32 []=em:=rfl
 simp -implicitDefEqProofs only [rX,↓rY,cells?,splice,↓reduceIte,reduceCtorEq,aU,aY,wfV,hh,u1,u2,z1,z3,iP,dV]
theorem Qe {l:Bs}:(us l).map (fun c=>[c])=l.map by1:=by simp [us,by1]
theorem Mo (a b:Bs) (ha:a.length=16) (hb:b.length=16):Ok 110 [.agg (us a),.agg (us b)] (Is (.agg (us (nd a b)))):=by
 refine bW lw110 (by simp) ?_
 unfold c110
 obtain ⟨a1,a2,a3⟩:=fM ha
 obtain ⟨b1,b2,b3⟩:=fM hb
 obtain ⟨z1,z2,z3⟩:=fM dI
 have dz:yam 0=0:=rfl
 simp -implicitDefEqProofs only [rX,↓rY,qo,aA,cells?,↓reduceIte,Nat.reduceEqDiff,Nat.reduceAdd,reduceCtorEq,aD,cP,bU,isD,Nat.reduceLT,↓je,yaf,cxN,nQ,aL,w16,a1,b1,a2,b2,dz,Nat.sub_zero,Qe,j4,Qg,or_true]
 refine ⟨by decide,by decide,?_,?_⟩
 all_goals
  refine aE (Qu 31 [a,b] (in2 (by omega) (by omega))) ⟨⟨trivial,yaa 2,trivial⟩,rfl,⟨rfl,rfl⟩,trivial⟩ (by simp [ren,bB]) trivial ?_
  obtain ⟨u1,u2,u3⟩:=fM (lJ (a:=a) (b:=b))
  have hh:d5 31 [a,b]=nd a b:=rfl
  simp -implicitDefEqProofs only [rX,↓rY,cells?,splice,↓reduceIte,Nat.reduceEqDiff,aU,aY,wfV,hh,u1,u2,z1,z3,iP,dV]
end Go.Fx.H
namespace Go.Proofs
open Go.Shelf
def Tryz.lays125_ren:Go.Shelf.Ren:=⟨fun|125=>145|128=>174|129=>175|n=>n,fun|46=>213|3=>3|51=>199|53=>201|4=>4|5=>5|9=>9|n=>n,fun|n=>n⟩
theorem Tryz.lays125:Go.Proofs.Lays.n125 Tryz.prog Tryz.lays125_ren:={
 mixed:=by kernel_rfl
 f125:=Tryz.func145.trans (congrArg some (by kernel_rfl))
 f128:=Tryz.func174.trans (congrArg some (by kernel_rfl))
 f129:=Tryz.func175.trans (congrArg some (by kernel_rfl))
 t3:=Tryz.underlying3
 a3:=Tryz.isAgg3
 z3:=Tryz.sizeOf3
 v3:=Tryz.zeroValue3
 t4:=Tryz.underlying4
 a4:=Tryz.isAgg4
 z4:=Tryz.sizeOf4
 v4:=Tryz.zeroValue4
 t5:=Tryz.underlying5
 a5:=Tryz.isAgg5
 z5:=Tryz.sizeOf5
 v5:=Tryz.zeroValue5
 t9:=Tryz.underlying9
 a9:=Tryz.isAgg9
 z9:=Tryz.sizeOf9
 v9:=Tryz.zeroValue9
 t46:=Tryz.underlying213
 a46:=Tryz.isAgg213
 z46:=Tryz.sizeOf213
 v46:=Tryz.zeroValue213
 t51:=Tryz.underlying199
 a51:=Tryz.isAgg199
 z51:=Tryz.sizeOf199
 v51:=Tryz.zeroValue199
 t53:=Tryz.underlying201
 a53:=Tryz.isAgg201
 z53:=Tryz.sizeOf201
 v53:=Tryz.zeroValue201 }
theorem Tryz.bits_Len (x:Int) (w:World) (h0:0≤x) (h1:x≤18446744073709551615) :
  Calls Tryz.prog 145 #[.int .u64 x] w fun e w'=>e=.returned (.int .i64 (Lib.bitLen x.toNat))∧w'=w:=Any.bits_Len Tryz.lays125 x w h0 h1
end Go.Proofs
namespace Go.Fx.H
open Go Go.Fx Go.Proofs Go.Fx.R
set_option maxRecDepth 20000
theorem aeL {f:FuncId} {fn:Func} (h:Tryz.prog.funcs[f]?=some fn) (h1:(fn.name == "runtime.NumGoroutine")=false) (h2:fn.body.isNone=false):c9 Tryz.prog f:=⟨fn,h,h1,h2⟩
theorem Ic:∀ (n x:Nat),x≤n→1≤x→x<2 ^ 64→Lib.bitLen x=yaD x+1
 | 0,x,h,h1,_=>by omega
 | n+1,x,h,h1,h2=>by
  rw [Lib.bitLen_half x (by omega) h2]
  by_cases hx:2≤x
  ·rw [Ic n (x/2) (by omega) (by omega) (by omega),Nat.log2_def x,if_pos hx];omega
  ·have:x=1:=by omega
   subst this
   decide
theorem Zj (n:Nat) (h:1≤n∧n<2 ^ 64):Ok 145 [.v (.int .u64 n)] (Is (.i (yaD n+1:Nat))):=by
 refine ⟨aeL Tryz.func145 (by kernel_rfl) (by kernel_rfl),?_⟩
 intro ρ X w vals hr ha
 match vals,ha with
 | [v0],⟨h0,_⟩ =>
  have h0':v0=.int .u64 n:=h0
  subst h0'
  refine (Tryz.bits_Len n w (by omega) (by omega)).mono ?_
  rintro e w' ⟨rfl,rfl⟩
  have:=Ic n n (yaa _) h.1 h.2
  refine ⟨_,_,[],ρ,rfl,⟨⟨rfl,rfl⟩,yaa _⟩,Fr.refl _ _,hr,?_,fun k hk=>absurd hk (ybg _)⟩
  show _=Value.int .i64 _
  rw [yaf,this]
theorem Mp (n:Nat) (h2:2≤n) (h:n≤1152921504606846976):Ok 109 [.i n] (Is (.i (spl n))):=by
 refine bW lw109 (by simp) ?_
 unfold c109
 simp -implicitDefEqProofs only [rX,↓rY,aA,↓reduceIte,reduceCtorEq,cxN,aL]
 have e:((n:Int)-1)=((n-1:Nat):Int):=by omega
 have e2:IntKind.u64.wrap ((n-1:Nat):Int)=((n-1:Nat):Int):=by rw [wrap64];omega
 rw [e,e2]
 refine ⟨by simp only [lo,Fx.hi];omega,aE (Zj (n-1) ⟨by omega,by omega⟩) ⟨⟨trivial,trivial⟩,rfl,trivial⟩ rfl trivial ?_⟩
 simp -implicitDefEqProofs only [rX,↓rY,aA,↓reduceIte,aU,aY]
 have hs:=eP h2
 have hl:yaD (n-1)<60:=by
  apply Nat.lt_of_not_le
  intro hc
  have h3:=Nat.pow_le_pow_right (n:=2) (by omega) hc
  have h4:=hs.1.2
  unfold spl at h4
  omega
 have e3:(((yaD (n-1)+1:Nat):Int)-1)=((yaD (n-1):Nat):Int):=by omega
 rw [e3]
 refine ⟨by simp only [lo,Fx.hi];omega,by omega,?_⟩
 have e4:min (((yaD (n-1):Nat):Int).toNat) IntKind.i64.bits=yaD (n-1):=by
  rw [yaf];exact yaZ (by show _≤64;omega)
 rw [e4]
 have e5:(1:Int)*2 ^ (yaD (n-1))=((spl n:Nat):Int):=by unfold spl;simp
 rw [e5]
 have e6:IntKind.i64.wrap ((spl n:Nat):Int)=((spl n:Nat):Int):=by
  simp [IntKind.wrap,IntKind.bits,IntKind.signed];omega
 rw [e6]
 exact ⟨trivial,rfl⟩
abbrev bD (l:List Bs):V:=.bro 16 (l.map us)
def D16 (l:List Bs):Prop:=∀ d∈l,d.length=16
theorem D16.take {l:List Bs} (h:D16 l) (k:Nat):D16 (l.take k):=fun d hd=>h d (ybt hd)
theorem D16.drop {l:List Bs} (h:D16 l) (k:Nat):D16 (l.drop k):=fun d hd=>h d (List.mem_of_mem_drop hd)
theorem eL:∀ (n:Nat) (l:List Bs),l.length=n→D16 l→(root l).length=16:=by
 intro n l _ h
 by_cases h2:2≤l.length
 ·rw [o5 h2];exact lJ
 ·rw [o6 h2]
  cases l with
  | nil=>exact Fq
  | cons x r=>exact h x (by simp)
section
variable {h:List Blk} {l:List Bs} {K:V→Prop} {k:Nat}
theorem Hc {z:Nat} {sz:Nat} {els:List (List V)} {a u m:Option Int}:rF h z (.bro sz els) a u m K=(sz=z∧cP els.length a u m∧K (Ov sz u m els.length ((els.drop (a.getD 0).toNat).take ((u.getD els.length).toNat-(a.getD 0).toNat)))):=rfl
theorem Uo (hk:k<l.length) (hK:K (bD (l.take k))):rF h 16 (bD l) none (some (k:Int)) (some (k:Int)) K:=by
 rw [Hc]
 refine ⟨rfl,?_,?_⟩
 ·simp only [cP,yaC,Option.getD_none,yaj];omega
 ·have hne:¬((k:Int)=((l.map us).length:Int)):=by rw [yaj];omega
  simp only [Ov,hne,and_false,if_false,yaC,Option.getD_none]
  rw [show yam 0=0 from rfl,ybf,yaf,Nat.sub_zero,←yaO]
  exact hK
theorem adD (hk:k≤l.length) (hK:K (.full 16 ((l.drop k).map us))):rF h 16 (bD l) (some (k:Int)) (some (l.length:Int)) (some (l.length:Int)) K:=by
 rw [Hc]
 refine ⟨rfl,?_,?_⟩
 ·simp only [cP,yaC,yaj];omega
 ·simp only [Ov,yaj,and_self,if_true,yaC,yaf]
  rw [yab (by simp),←ybo]
  exact hK
end
theorem Mk:∀ (n:Nat) (l:List Bs),l.length=n→D16 l→n≤1000000000000→Ok 59 [bD l] (Is (.agg (us (root l)))):=by
 intro n
 induction n using yby with
 | ind n ih =>
  intro l hn hD hle
  refine bW lw59 (by simp) ?_
  unfold c59
  obtain ⟨z1,z2,z3⟩:=fM dI
  simp -implicitDefEqProofs only [rX,↓rY,aA,cells?,splice,↓reduceIte,Nat.reduceEqDiff,reduceCtorEq,aD,aU,aY,wfV,yar,cxN,aL,w16]
  intro hm
  simp only [br,beq_iff_eq,beq_eq_false_iff_ne]
  refine ⟨fun h0=>?_,fun h0=>⟨fun h1=>?_,fun h1=>?_⟩⟩
  ·have hl0:l=[]:=List.eq_nil_of_length_eq_zero (by omega)
   subst hl0
   refine aE Zy ⟨trivial,trivial⟩ (by simp [ren,bB]) trivial ?_
   obtain ⟨u1,u2,u3⟩:=fM Fq
   have hh:root []=em:=by rw [o6 (by simp)];rfl
   simp -implicitDefEqProofs only [rX,↓rY,cells?,splice,↓reduceIte,Nat.reduceEqDiff,aU,aY,wfV,hh,u1,u2,z1,z3,iP,dV]
  ·obtain ⟨x,rfl⟩:∃ x,l=[x]:=List.length_eq_one_iff.1 (by omega)
   obtain ⟨u1,u2,u3⟩:=fM (hD x (by simp))
   have hh:root [x]=x:=by rw [o6 (by simp)];rfl
   refine ⟨by simp,by simp,?_⟩
   have hx:([x]:List Bs)[yam 0]'(by simp)=x:=rfl
   simp only [hx,hh,u1,u2,u3,z1,z2,z3,iP,dV,yak,yaa,true_and,yaA,ybe,and_true]
  ·have h2:2≤l.length:=by omega
   have hs:=eP h2
   refine aE (Mp l.length h2 (by omega)) ⟨⟨trivial,trivial⟩,rfl,trivial⟩ rfl trivial ?_
   simp -implicitDefEqProofs only [rX,↓rY,↓reduceIte,Nat.reduceEqDiff,reduceCtorEq]
   refine Uo hs.1.2 (adD (by omega) ?_)
   have hlt:(l.take (spl l.length)).length=spl l.length:=by simp;omega
   have hld:(l.drop (spl l.length)).length=l.length-spl l.length:=by simp
   refine aE (ih _ (by omega) (l.take (spl l.length)) hlt (hD.take _) (by omega)) ⟨⟨trivial,trivial⟩,⟨rfl,rfl⟩,trivial⟩ (by simp [ren,bB]) trivial ?_
   simp -implicitDefEqProofs only [rX,↓reduceIte,Nat.reduceEqDiff]
   refine aE (ih _ (by omega) (l.drop (spl l.length)) hld (hD.drop _) (by omega)) ⟨⟨trivial,trivial⟩,⟨rfl,rfl⟩,trivial⟩ (by simp [ren,bB]) trivial ?_
   simp -implicitDefEqProofs only [rX,↓reduceIte,Nat.reduceEqDiff]
   have r1:=eL _ (l.take (spl l.length)) rfl (hD.take _)
   have r2:=eL _ (l.drop (spl l.length)) rfl (hD.drop _)
   refine aE (Mo _ _ r1 r2) ?_ (by simp [ren,bB]) trivial ?_
   ·have a1:=cX (h:=[Blk.var (us z16)]) (g:=fun _=>none) (us (root (l.take (spl l.length)))) mY
    have a2:=cX (h:=[Blk.var (us z16)]) (g:=fun _=>none) (us (root (l.drop (spl l.length)))) mY
    exact ⟨⟨a1.1,a2.1,trivial⟩,a1.2,a2.2,trivial⟩
   obtain ⟨u1,u2,u3⟩:=fM (lJ (a:=root (l.take (spl l.length))) (b:=root (l.drop (spl l.length))))
   rw [←o5 h2] at u1 u2 u3 ⊢
   simp -implicitDefEqProofs only [rX,↓rY,cells?,splice,↓reduceIte,Nat.reduceEqDiff,aU,aY,wfV,u1,u2,z1,z3,iP,dV]
end Go.Fx.H
namespace Go.Fx.H
open Go Go.Fx Go.Proofs Go.Fx.R
set_option maxRecDepth 20000
theorem Bv {l:List Sp} {k:Nat} (h:k<l.length):tot (l.take (k+1))=tot (l.take k)+(l[k].2-l[k].1):=by
 rw [yaK,yan h,Gy]
 simp [tot]
theorem adN (s:Sp):Ok 85 [.agg (enS s)] (Is (.b (decide (0≤s.1)&&decide (s.1<s.2)&&decide (s.2≤1099511627776)))):=by
 refine bW lw85 (by simp) ?_
 unfold c85
 simp -implicitDefEqProofs only [rX,↓rY,aA,cells?,↓reduceIte,Nat.reduceEqDiff,aD,aU,aY,wfV,cxN,pT,j0,aL]
 cases h1:decide (s.1≥0)<;>cases h2:decide (s.1<s.2)<;>cases h3:decide (s.2≤1099511627776)<;>simp -implicitDefEqProofs only [rX,↓rY]<;>simp_all
theorem Kw {t:Int} {l:List Sp} {k:Nat} (h:k<l.length) (u:Int):vdB u (l.drop k)=((decide (0≤l[k].1)&&decide (l[k].1<l[k].2)&&decide (l[k].2≤1099511627776))&&decide (u<l[k].1)&&vdB l[k].2 (l.drop (k+1))):=by
 rw [ybW h];rfl
theorem Yy (l:List Sp):Ok 45 [aG l] (Is (.b (vd l))):=by
 refine bW lw45 (by simp) ?_
 unfold c45 aG
 simp -implicitDefEqProofs only [rX,↓rY,aA,↓reduceIte,reduceCtorEq,cxN,aL]
 intro hm
 refine aV (fun g:Nat × Int=>⟨[(8,.i g.1),(7,.i l.length),(6,.ro 2 (l.map enS)),(3,.i g.2)],[],0⟩) (fun g=>g.1≤l.length∧vd l=vdB g.2 (l.drop g.1)) (fun g=>l.length-g.1) (0,-1) ⟨by simp,rfl⟩ ?_ ?_
 ·simp -implicitDefEqProofs only [rX,↓reduceIte,Nat.reduceEqDiff,leE,leH,aC,wfE,wfB,wfV,yaL]
 rintro ⟨k,t⟩ ⟨hk,hv⟩
 simp only at hk hv
 unfold c45l0
 simp -implicitDefEqProofs only [rX,↓rY,aA,cells?,splice,↓reduceIte,Nat.reduceEqDiff,Nat.reduceAdd,aD,aU,aY,wfV,yar,yaf,bE,bR,fH]
 simp only [br,decide_eq_true_eq,decide_eq_false_iff_not]
 refine ⟨fun h=>?_,fun h=>?_⟩
 ·have hk':k<l.length:=by omega
  rw [Kw (t:=t) hk'] at hv
  refine ⟨⟨by omega,h⟩,hk',?_⟩
  refine aE (adN l[k]) ⟨⟨⟨trivial,trivial,trivial⟩,trivial⟩,⟨rfl,rfl,trivial⟩,trivial⟩ rfl trivial ?_
  cases hg:(decide (0≤l[k].1)&&decide (l[k].1<l[k].2)&&decide (l[k].2≤1099511627776)) with
  | false =>
   rw [hg] at hv
   simp -implicitDefEqProofs only [rX,↓rY,aA,↓reduceIte,Nat.reduceEqDiff,aU,aY,wfV]
   simp [hv]
  | true =>
   rw [hg] at hv
   simp -implicitDefEqProofs only [rX,↓rY,aA,↓reduceIte,Nat.reduceEqDiff,aU,aY,leE,leH,aC,wfE,wfB,wfV,pT,j0]
   simp only [br,decide_eq_true_eq,decide_eq_false_iff_not]
   refine ⟨fun h2=>?_,fun h2=>?_⟩
   ·simp [hv];omega
   ·refine ⟨by simp only [lo,hi,maxLen] at *;omega,(k+1,l[k].2),⟨⟨by simp only;omega,?_⟩,by simp only;omega⟩,by simp⟩
    rw [hv]
    simp;omega
 ·rw [hv,yau (by omega)];rfl
end Go.Fx.H
namespace Go.Fx.H
open Go Go.Fx Go.Proofs Go.Fx.R
set_option maxRecDepth 20000
theorem Yn (l:List Sp) (hl:l.length≤4398046511104):Ok 90 [aG l] (fun r h=>IsA (.sl 0 0 l.length) [.arr 2 (l.map enS)] r h∨(l=[]∧IsA .nil [] r h)):=by
 refine bW lw90 (by simp) ?_
 unfold c90 aG
 simp -implicitDefEqProofs only [rX,↓rY,aA,↓reduceIte,Nat.reduceEqDiff,reduceCtorEq,aD,bU,aP,aS,kill,St.kill,cxN,aL]
 have hA:eJ [] 0 [eT.tmp 2] (fun r h=>IsA (.sl 0 0 l.length) [.arr 2 (l.map enS)] r h∨(l=[]∧IsA .nil [] r h)) ⟨[(2,V.sl 0 0 l.length),(7,V.sl 0 0 l.length),(6,V.ro 2 (yae enS l)),(5,V.any),(4,V.b false),(3,V.ro 2 (yae enS l)),(2,V.v (Value.slice none 0 0)),(0,V.ro 2 (yae enS l))],[Blk.arr 2 (yae enS l),Blk.dead],0⟩:=by
  rw [dT]
  simp -implicitDefEqProofs only [rX,↓reduceIte,aU,aY,aC,aB,wfV]
  exact ⟨[.arr 2 (l.map enS)],⟨by simp [leH,leB],by simp [wfV,wfL,aB],by simp [wfB]⟩,.inl ⟨rfl,rfl⟩⟩
 refine ⟨fun _=>⟨.inr trivial,by omega,hA⟩,fun h=>⟨?_,.inr trivial,by omega,hA⟩⟩
 have h0:l=[]:=by simpa using h
 rw [dT]
 simp -implicitDefEqProofs only [rX,↓reduceIte,aU,aY,aC,wfV]
 exact ⟨[],⟨by simp [leH],by simp,by simp [wfB]⟩,.inr ⟨h0,rfl,rfl⟩⟩
theorem Sy (l:List Sp) (hl:l.length≤4398046511104):Ok 90 [aG l] (IsA (.sl 0 0 l.length) [.arr 2 (l.map enS)]):=by
 refine Jk (Yn l hl) ?_
 rintro r h (⟨rfl,rfl⟩|⟨rfl,rfl,rfl⟩)
 ·exact ⟨_,_,⟨rfl,rfl⟩,_,.refl _,by simp -implicitDefEqProofs only [rX,↓reduceIte,leE,leH,leB,aC,aB,wfE,wfB,wfV]⟩
 ·refine ⟨_,_,⟨rfl,rfl⟩,_,.virt 1 2 (by decide) (.nilE 0 0 rfl (.refl _)),?_⟩
  simp -implicitDefEqProofs only [rX,↓reduceIte,leE,leH,leB,aC,aB,wfE,wfB,wfV,yaz]
theorem adL (l:List Sp):Ok 88 [aG l] (IsA (.clo 137 [.ptr 0 0 0]) [.var [aG l]]):=by
 refine bW lw88 (by simp) ?_
 unfold c88 aG
 simp -implicitDefEqProofs only [rX,↓rY,aA,cells?,↓reduceIte,Nat.reduceEqDiff,aD,aU,aY,leH,leB,leV,c7,aC,aB,wfB,wfV,wfL,Nat.reduceLeDiff,cxN,aL,bT]
structure E90 (l:List Sp) (k i:Nat) (e:Env):Prop where
 e0:get e 0=.itr k
 e5:get e 5=aG l
 e6:get e 6=.i l.length
 e7:get e 7=.i i
end Go.Fx.H
namespace Go.Fx.H
open Go Go.Fx Go.Proofs Go.Fx.R
set_option maxRecDepth 20000
structure abJ {G:Type} (hp:G→List Blk) (L:Nat) (l:List Sp) (k a:Nat) (fx:List Nat):Prop where
 hm:l.length≤maxLen
 len:∀ g,(hp g).length=L
 ha:∀ g tl,(hp g++tl)[a]?=some (.var [aG l])
 kp:∀ g,aC fx (hp g)
 wf:∀ g,wfB (hp g) (hp g)
 lk:∀ g,∃ t e,(hp g)[k]?=some (.rcd t e)
theorem Ad:∀ (h l:List Blk),leH (h++l) h
 | [],_=>by unfold leH;trivial
 | b::h,l=>⟨bF b,Ad h l⟩
section
variable {G:Type} {hp:G→List Blk} {L:Nat} {l:List Sp} {k a:Nat} {fx:List Nat} {Y:Yt} {K:List Blk→Prop} {Inv:Nat→G→Prop}
abbrev Sw {G:Type} (hp:G→List Blk) (l:List Sp) (k:Nat) (g:Nat × G):St:=⟨[(7,.i g.1),(6,.i l.length),(5,aG l),(0,.itr k)],hp g.2,0⟩
theorem aaL (H:abJ hp L l k a fx)
  (hY:∀ i g (hi:i<l.length),Inv i g→∀ (e:Env) (bb:Nat) (Z:V→St→Prop),E90 l k i e →
   (∀ e' g' tl,E90 l k i e'→Inv (i+1) g'→Z (.b true) ⟨e',hp g'++tl,bb⟩)→Y [.agg (enS l[i])] ⟨e,hp g++[.var (enS l[i])],bb⟩ Z)
  (hK:∀ g,Inv l.length g→K (hp g)) (g:G) (hg:Inv 0 g) :
  I0 Tryz.prog 137 [.itr k,.ptr a 0 0] fx k Y (hp g) K:=by
 refine Fk pol fx lw137 (by simp) ?_
 have hlen:=H.len g
 have a0:=H.ha g []
 rw [yak] at a0
 obtain ⟨tk,ek,lk⟩:=H.lk g
 unfold c137
 simp -implicitDefEqProofs only [rX,↓rY,aA,↓reduceIte,reduceCtorEq,aL,a0,aG]
 intro hm
 refine aV (Sw hp l k) (fun g=>g.1≤l.length∧Inv g.1 g.2) (fun g=>l.length-g.1) (0,g) ⟨by simp,hg⟩ ?_ ?_
 ·simp -implicitDefEqProofs only [rX,↓reduceIte,Nat.reduceEqDiff,reduceCtorEq,leE,aB,wfE,wfV,lk,eq_true (H.kp g),eq_true (H.wf g),yaL]
  exact cH _
 rintro ⟨i,g⟩ ⟨hi,hI⟩
 simp only at hi hI
 have hlen:=H.len g
 have go:∀ j tl,(hp g++tl)[L+j]?=tl[j]?:=fun j tl=>by
  rw [ybq (by omega),hlen];congr 1;omega
 have go0:∀ tl,(hp g++tl)[L]?=tl[0]?:=go 0
 have gs:∀ j tl B,(hp g++tl).set (L+j) B=hp g++tl.set j B:=fun j tl B=>by
  rw [ybu _ _ (by omega),hlen];congr 2;omega
 have gs0:∀ tl B,(hp g++tl).set L B=hp g++tl.set 0 B:=gs 0
 have a0:=H.ha g []
 rw [yak] at a0
 have ha:=H.ha g
 unfold c137l0 Sw
 rcases yax i l.length with hi1|hi1
 ·have hd:decide ((i:Int)<(l.length:Int))=true:=decide_eq_true (by omega)
  simp -implicitDefEqProofs only [rX,↓rY,rZ,↓rW,aA,cells?,splice,↓reduceIte,Nat.reduceEqDiff,Nat.reduceAdd,reduceCtorEq,aD,yar,yaf,bE,bR,fH,Ei,hd,hlen,go0,gs0]
  refine ⟨⟨by omega,by omega⟩,hi1,?_⟩
  refine ⟨rfl,?_⟩
  refine hY i g hi1 hI _ _ _ ⟨rfl,rfl,rfl,rfl⟩ ?_
  intro e' g' tl he' hI'
  simp -implicitDefEqProofs only [rX,↓rY,rZ,aA,↓reduceIte,Nat.reduceEqDiff,reduceCtorEq,leE,aB,wfE,wfV,p6,he'.e7]
  refine ⟨by simp only [lo,Fx.hi,maxLen] at *;omega,(i+1,g'),⟨⟨by show i+1≤l.length;omega,hI'⟩,by show l.length-(i+1)<l.length-i;omega⟩,?_⟩
  have e1:=he'.e0;have e2:=he'.e5;have e3:=he'.e6
  obtain ⟨tk,ek,lk⟩:=H.lk g'
  simp -implicitDefEqProofs only [rX,e1,e2,e3,eq_true (Ad (hp g') tl),eq_true (H.kp g'),eq_true (H.wf g'),lk]
  rfl
 ·have hd:decide ((i:Int)<(l.length:Int))=false:=decide_eq_false (by omega)
  have hie:i=l.length:=by omega
  subst hie
  have:=hK g hI
  simp -implicitDefEqProofs only [rX,↓rY,↓reduceIte,Nat.reduceEqDiff,hd]
  first|exact this|simpa using this
end
end Go.Fx.H
namespace Go.Fx.H
open Go Go.Fx Go.Proofs Go.Fx.R
set_option maxRecDepth 20000
abbrev Rg (l:List Sp) (i:Nat):List Blk:=[.var [aG l],.arr 2 ((l.take i).map enS),.var [.sl 1 0 i],.rcd .ready [(2,.ptr 2 0 0)]]
theorem map_take {l:List Sp} {i:Nat} (h:i<l.length):(l.take i).map enS++[enS l[i]]=(l.take (i+1)).map enS:=by
 rw [yaK,yan h,yaq];rfl
theorem aaK (l:List Sp) (hl:l.length≤4398046511104):abJ (Rg l) 4 l 3 0 [3,0]:=by
 refine ⟨by simp only [maxLen];omega,fun g=>rfl,fun g tl=>rfl,fun g=>⟨trivial,trivial,trivial⟩,fun g=>?_,fun g=>⟨_,_,rfl⟩⟩
 simp -implicitDefEqProofs only [rX,aB,wfE,wfB,wfV,wfL]
theorem Zd (l:List Sp) (hl:l.length≤4398046511104):OkN Tryz.prog 162 [.nil,.clo 137 [.ptr 0 0 0]] [.var [aG l]] [] (IsA (.sl 1 0 l.length) [.var [aG l],.arr 2 (l.map enS)]):=by
 refine Hj pol [0] lw162 (by simp) ⟨trivial,trivial⟩ (by simp) (s0:=⟨aL 0 [.sl 1 0 0,.clo 137 [.ptr 0 0 0]],[.var [aG l],.arr 2 []],0⟩) ?_ ?_
 ·refine ⟨_,.virt 1 2 (by decide) (.nilE 0 1 rfl (.refl _)),?_⟩
  simp -implicitDefEqProofs only [rX,↓reduceIte,reduceCtorEq,leE,leH,leB,leV,c7,aC,aB,wfE,wfB,wfV,wfL,aL,yaz]
 unfold c162
 simp -implicitDefEqProofs only [rX,↓rY,aA,cells?,↓reduceIte,Nat.reduceEqDiff,Nat.reduceAdd,reduceCtorEq,aD,cxN,aL]
 refine rJ 3 rfl rfl trivial ?_
 refine abK (h':=Rg l 0) ?_ ?_ ?_ ?_ (aaL (Inv:=fun i g=>g=i) (aaK l hl) ?_ ?_ _ rfl)
 ·simp -implicitDefEqProofs only [rX,↓reduceIte,Nat.reduceEqDiff,leE,leH,leB,leV,c7,or_true]
 ·simp [aC,aB,Wt,Rg]
 ·simp -implicitDefEqProofs only [rX,aB,wfE,wfB,wfV,wfL]
 ·simp -implicitDefEqProofs only [rX,aB,wfV,wfL]
 ·rintro i g hi rfl e bb Z he hZ
  refine xE 5 rfl rfl rfl ?_
  unfold c162a0
  simp -implicitDefEqProofs only [rX,↓rY,rZ,↓rW,aA,cells?,splice,↓reduceIte,Nat.reduceEqDiff,Nat.reduceAdd,aD,bE,fH,fC]
  unfold c162r0
  simp -implicitDefEqProofs only [rX,↓rY,rZ,↓rW,cells?,splice,↓reduceIte,Nat.reduceEqDiff,Nat.reduceAdd,reduceCtorEq,aD,bU,aP,aS,kill,a8,St.kill,isC,Nat.reduceLT,bE,bR,iL,dH]
  have hm:(l.take g).length=g:=by rw [yaJ];omega
  refine ⟨⟨by omega,by omega⟩,?_⟩
  have h2:yac g (yae enS (yac g l))++[enS l[g]]=(l.take (g+1)).map enS:=by
   rw [←map_take hi,yab (by simp;omega)]
  rw [h2]
  refine hZ (aP [1] e) (g+1) [Blk.var (enS l[g]),Blk.dead,Blk.var (enS l[g]),Blk.arr 2 [enS l[g]],Blk.dead] ?_ rfl
  refine ⟨?_,?_,?_,?_⟩<;>rw [aO]
  ·rw [he.e0];simp [kill]
  ·rw [he.e5];rfl
  ·rw [he.e6];rfl
  ·rw [he.e7];rfl
 ·rintro g rfl
  unfold Rg
  simp -implicitDefEqProofs only [rX,↓rY,rZ,↓rW,↓reduceIte,Nat.reduceAdd,aU,aY,leH,leB,leV,c7,aC,aB,wfE,wfB,wfV,wfL,Nat.reduceLeDiff,bT,ybT]
end Go.Fx.H
namespace Go.Fx
open Go Go.Fx Go.Proofs Go.Sort Go.RowKit
section
variable {α:Type} [Inhabited α] (en:α→List Value) (k:Nat)
def enV (x:α):List V:=(en x).map V.v
theorem yJ {S:Nat→Prop} {w:World} {b:Nat}:∀ {vs:List Value} {off:Nat},gN S w b off (vs.map V.v)→∀ j (h:j<vs.length),w.cell? ⟨b,off+j,none⟩=some vs[j]
 | [],_,_,j,h=>by simp at h
 | x::r,off,hr,j,h=>by
  obtain ⟨⟨val,h1,h2⟩,h3⟩:=hr
  cases j with
  | zero =>
   have:val=x:=h2.1
   subst this;exact h1
  | succ j =>
   have:=yJ h3 j (by simpa using h)
   rw [show off+(j+1)=off+1+j by omega]
   exact this
theorem Dt {S:Nat→Prop} {w:World} {b:Nat}:∀ {vs:List Value} {off:Nat},(∀ z∈vs,isD (.v z)=true)→(∀ j (h:j<vs.length),w.cell? ⟨b,off+j,none⟩=some vs[j])→gN S w b off (vs.map V.v)
 | [],_,_,_=>trivial
 | x::r,off,hd,h=>⟨⟨x,h 0 (by simp),rfl,hd x (by simp)⟩,Dt (fun z hz=>hd z (by simp [hz])) fun j hj=>by
   have:=h (j+1) (by simpa using hj)
   rw [show off+1+j=off+(j+1) by omega]
   exact this⟩
variable {en k}
theorem Ce {S:Nat→Prop} {w:World} {b:Nat} (hk:∀ x,(en x).length=k):∀ {l:List α} {off:Nat},cC S w k b off (l.map (enV en))→∀ i (h:i<l.length) j (hj:j<(en l[i]).length),w.cell? ⟨b,off+i*k+j,none⟩=some (en l[i])[j]
 | [],_,_,i,h,_,_=>by simp at h
 | x::r,off,hr,i,h,j,hj=>by
  obtain ⟨⟨_,h2⟩,h3⟩:=hr
  cases i with
  | zero =>
   have:=yJ h2 j hj
   simpa using this
  | succ i =>
   have:=Ce hk h3 i (by simpa using h) j hj
   rw [show off+(i+1)*k+j=off+k+i*k+j by rw [ybX];omega]
   exact this
theorem Hf {S:Nat→Prop} {w:World} {b:Nat} (hk:∀ x,(en x).length=k) (hd:∀ x,∀ z∈en x,isD (.v z)=true):∀ {l:List α} {off:Nat},(∀ i (h:i<l.length) j (hj:j<(en l[i]).length),w.cell? ⟨b,off+i*k+j,none⟩=some (en l[i])[j])→cC S w k b off (l.map (enV en))
 | [],_,_=>trivial
 | x::r,off,h=>⟨⟨by simp [enV,hk],Dt (hd x) fun j hj=>by
   have:=h 0 (by simp) j hj
   simpa using this⟩,Hf hk hd fun i hi j hj=>by
   have:=h (i+1) (by simpa using hi) j hj
   rw [show off+k+i*k+j=off+(i+1)*k+j by rw [ybX];omega]
   exact this⟩
structure abH (lt:α→α→Bool) (l d:List α):Prop where
 p:d.Perm l
 s:d.Pairwise fun x y=>lt y x=false
theorem Ny {P:Program} {f g:FuncId} (hc:c9 P f) (hk:∀ x,(en x).length=k) (h0:0<k) (hd:∀ x,∀ z∈en x,isD (.v z)=true) {lt:α→α→Bool}
  (hsort:∀ blk off cap (d:Array α) (w:World),HoldsK en k w blk off d→blk<w.heap.size→d.size<4611686018427387904 →
   Calls P f #[.slice (some ⟨blk,off,none⟩) d.size cap,.func (.func g) #[] #[]] w fun e w'=>e=.returned (.tuple #[])∧∃ d' n os,PermIn 0 d.size d d'∧SortedIn lt 0 d.size d'∧w'=sortWorldK en k w blk off n d' os)
  (hnone:∀ a (w:World),Calls P f #[.slice a 0 0,.func (.func g) #[] #[]] w fun e w'=>e=.returned (.tuple #[])∧w'=w)
  (l:List α) (hl:l.length<4611686018427387904):OkN P f [.sl 0 0 l.length,.clo g []] [.arr k (l.map (enV en))] [] (IsQ (abH lt l) (fun _=>.tup []) (fun d=>[.arr k (d.map (enV en))])):=by
 refine ⟨hc,?_⟩
 intro ρ X w vals hr ha
 match vals,ha with
 | [val,cv],⟨hv,hcv,_⟩ =>
 obtain ⟨arr,rfl,harr⟩:=hcv
 have harr0:arr=#[]:=by
  cases h:arr.toList with
  | nil=>exact Array.toList_eq_nil_iff.1 h
  | cons a r=>rw [h] at harr;exact harr.elim
 subst harr0
 obtain ⟨cap,h1,h2,h3⟩:=hv
 rcases h3 with ⟨h4,a,rfl⟩|⟨hre,rfl,hroom⟩
 ·have hl0:l=[]:=ybh.1 (by omega)
  subst hl0
  refine (hnone a w).mono ?_
  rintro e w' ⟨rfl,rfl⟩
  exact ⟨_,.tup [],[.arr k []],ρ,rfl,⟨⟨[],⟨.nil,.nil⟩,rfl,rfl⟩,yaa _⟩,Fr.refl _ _,hr,⟨#[],rfl,trivial⟩,fun _ _ _=>rfl⟩
 ·have hb:=hr.blk 0 _ rfl
  obtain ⟨⟨hsz,_⟩,hb|⟨_,c,T,hcc,hcs,hlen,hels⟩⟩:=hb
  ·rw [hb.1] at hre;cases hre
  have hoff:(ρ 0).off+0*(ρ 0).sz=(ρ 0).off:=by omega
  rw [hoff]
  rw [yaj] at hlen
  have hg:=fun i hi j hj=>Ce hk hels i hi j hj
  have hdiv:∀ t,t<l.length*k→t/k<l.length∧t%k<k∧t/k*k+t%k=t:=fun t ht =>
   ⟨Nat.div_lt_of_lt_mul (by rwa [ybz] at ht),Nat.mod_lt _ h0,by have:=Nat.div_add_mod t k;rw [ybz] at this;exact this⟩
  have hfl:∀ (d:List α) t,t<d.length*k→∀ (h1:t/k<d.length) (h2:t%k<(en d[t/k]).length),(flatK en k d.toArray)[t]! = (en d[t/k])[t%k]:=by
   intro d t ht h1 h2
   rw [get_flatK _ _ _ _ (by simpa using ht)]
   rw [getElem!_pos d.toArray (t/k) (by simpa using h1),getElem!_pos _ (t%k) (by simpa using h2)]
   simp
  have hH:HoldsK en k w (ρ 0).blk (ρ 0).off l.toArray:=by
   intro t ht
   have ht':t<l.length*k:=by simpa using ht
   obtain ⟨q1,q2,q3⟩:=hdiv t ht'
   have q4:t%k<(en l[t/k]).length:=by rw [hk];exact q2
   refine ⟨?_,by simp [World.frozen?,hcc]⟩
   have:=hg (t/k) q1 (t%k) q4
   rw [show (ρ 0).off+t/k*k+t%k=(ρ 0).off+t by omega] at this
   rw [this]
   exact congrArg some (hfl l t ht' q1 q4).symm
  refine (hsort (ρ 0).blk (ρ 0).off cap l.toArray w hH (hr.lt 0 hre) (by simpa using hl)).mono ?_
  rintro e w' ⟨rfl,d',n,os,⟨p1,p2,p3⟩,hs,rfl⟩
  have hdl:d'.toList.length=l.length:=by simpa using p1
  have hperm:d'.toList.Perm l:=by
   have e1:(d'.extract 0 l.toArray.size).toList=d'.toList:=by rw [←p1];simp
   have e2:(l.toArray.extract 0 l.toArray.size).toList=l:=by simp
   rw [e1,e2] at p3
   exact p3
  have hsorted:d'.toList.Pairwise fun x y=>lt y x=false:=by
   rw [ybi]
   intro i j hi hj hij
   have:=hs i j (yai _) hij (by simpa [hdl] using hj)
   rw [getElem!_pos d' j (by simpa using hj),getElem!_pos d' i (by simpa using hi)] at this
   simpa using this
  have hbl:=hr.lt 0 hre
  have hsl:l.length=d'.toList.length:=hdl.symm
  generalize hD:d'.toList=D at *
  have hda:d'=D.toArray:=by rw [←hD]
  subst hda
  have hw1:(sortWorldK en k w (ρ 0).blk (ρ 0).off n D.toArray os).heap[(ρ 0).blk]?=some (.cells (putCells id (ρ 0).off (flatK en k D.toArray) c) T (0,0)):=by
   simp only [sortWorldK,Sort.grow,putRowK,Sort.putRow,Sort.mapBlock,Sort.ahead]
   rw [ybA (by simpa using hbl),yaW,if_pos rfl,hcc]
   rfl
  have hw2:∀ b,b<w.heap.size→b≠(ρ 0).blk→(sortWorldK en k w (ρ 0).blk (ρ 0).off n D.toArray os).heap[b]?=w.heap[b]?:=by
   intro b hb hne
   simp only [sortWorldK,Sort.grow,putRowK,Sort.putRow,Sort.mapBlock,Sort.ahead]
   rw [ybA (by simpa using hb),yaW,if_neg (fun h=>hne h.symm)]
  have hsize:w.heap.size≤(sortWorldK en k w (ρ 0).blk (ρ 0).off n D.toArray os).heap.size:=by
   simp [sortWorldK,Sort.grow,putRowK,Sort.putRow,Sort.mapBlock,Sort.ahead]
  have hfr:Fr ρ w ρ (sortWorldK en k w (ρ 0).blk (ρ 0).off n D.toArray os):=⟨rfl,rfl,rfl,hsize,fun b hb ho=>⟨hw2 b hb fun h=>ho ⟨0,hre,h.symm⟩,ho⟩⟩
  have hcell:∀ t (ht:t<l.length*k),(sortWorldK en k w (ρ 0).blk (ρ 0).off n D.toArray os).cell? ⟨(ρ 0).blk,(ρ 0).off+t,none⟩=some ((flatK en k D.toArray)[t]!):=by
   intro t ht
   have htc:(ρ 0).off+t<c.size:=by rw [hcs];omega
   have hts:t<(flatK en k D.toArray).size:=by simpa [←hsl] using ht
   simp only [World.cell?,hw1]
   have htD:t<D.length*k:=by rw [←hsl];exact ht
   simp [Sort.putCells,htc,htD]
  refine ⟨_,.tup [],[.arr k (D.map (enV en))],ρ,rfl,⟨⟨D,⟨hperm,hsorted⟩,rfl,rfl⟩,yaa _⟩,hfr,⟨hr.inj,hr.out,fun q b hq=>?_,hr.disj,fun q hq=>ybY (hr.lt q hq) hsize,hr.xfr hfr⟩,⟨#[],rfl,trivial⟩,fun _ _ _=>rfl⟩
  cases q with
  | succ q=>simp at hq
  | zero =>
   simp only [yaB,ybj] at hq
   subst hq
   refine ⟨⟨hsz,h0⟩,.inr ⟨hre,_,T,hw1,by simp [Sort.putCells,hcs],by rw [yaj,←hsl];exact hlen,Hf hk hd fun i hi j hj=>?_⟩⟩
   have hj':j<k:=by rw [←hk D[i]];exact hj
   have hlt:i*k+j<l.length*k:=by
    have:(i+1)*k≤l.length*k:=Nat.mul_le_mul_right k (by omega)
    rw [ybX] at this
    omega
   have hdv:(i*k+j)/k=i:=by rw [ybz,Nat.mul_add_div h0,Nat.div_eq_of_lt hj',ybe]
   have hmd:(i*k+j)%k=j:=by rw [ybz,Nat.mul_add_mod,Nat.mod_eq_of_lt hj']
   have:=hcell (i*k+j) hlt
   rw [hfl D (i*k+j) (by rw [←hsl];exact hlt) (by rw [hdv];exact hi) (by simp only [hdv,hmd];exact hj)] at this
   simp only [hdv,hmd] at this
   rw [Nat.add_assoc]
   exact this
end
end Go.Fx
namespace Go.Proofs
open Go.Shelf
def Tryz.sortSp_ren:Go.Shelf.Ren:=⟨fun|6=>136|15=>145|14=>163|28=>174|29=>175|20=>155|21=>193|22=>194|23=>195|24=>196|25=>197|26=>198|27=>199|46=>215|47=>202|48=>203|49=>216|50=>217|57=>220|n=>n,fun|22=>27|24=>73|25=>115|3=>3|39=>213|0=>0|53=>199|55=>201|4=>4|46=>243|45=>242|50=>118|5=>5|9=>9|66=>268|70=>272|76=>280|77=>281|n=>n,fun|n=>n⟩
theorem Tryz.sortSp:Go.Proofs.SlLaysF0.n6 Tryz.prog Tryz.sortSp_ren:={
 mixed:=by kernel_rfl
 f6:=⟨Tryz.f136.name,by decide,Tryz.func136.trans (congrArg some (by kernel_rfl))⟩
 f14:=⟨Tryz.f163.name,by decide,Tryz.func163.trans (congrArg some (by kernel_rfl))⟩
 f15:=Tryz.func145.trans (congrArg some (by kernel_rfl))
 f20:=⟨Tryz.f155.name,by decide,Tryz.func155.trans (congrArg some (by kernel_rfl))⟩
 f21:=⟨Tryz.f193.name,by decide,Tryz.func193.trans (congrArg some (by kernel_rfl))⟩
 f22:=⟨Tryz.f194.name,by decide,Tryz.func194.trans (congrArg some (by kernel_rfl))⟩
 f23:=⟨Tryz.f195.name,by decide,Tryz.func195.trans (congrArg some (by kernel_rfl))⟩
 f24:=⟨Tryz.f196.name,by decide,Tryz.func196.trans (congrArg some (by kernel_rfl))⟩
 f25:=⟨Tryz.f197.name,by decide,Tryz.func197.trans (congrArg some (by kernel_rfl))⟩
 f26:=⟨Tryz.f198.name,by decide,Tryz.func198.trans (congrArg some (by kernel_rfl))⟩
 f27:=⟨Tryz.f199.name,by decide,Tryz.func199.trans (congrArg some (by kernel_rfl))⟩
 f28:=Tryz.func174.trans (congrArg some (by kernel_rfl))
 f29:=Tryz.func175.trans (congrArg some (by kernel_rfl))
 f46:=⟨Tryz.f215.name,by decide,Tryz.func215.trans (congrArg some (by kernel_rfl))⟩
 f47:=Tryz.func202.trans (congrArg some (by kernel_rfl))
 f48:=Tryz.func203.trans (congrArg some (by kernel_rfl))
 f49:=⟨Tryz.f216.name,by decide,Tryz.func216.trans (congrArg some (by kernel_rfl))⟩
 f50:=⟨Tryz.f217.name,by decide,Tryz.func217.trans (congrArg some (by kernel_rfl))⟩
 f57:=⟨Tryz.f220.name,by decide,Tryz.func220.trans (congrArg some (by kernel_rfl))⟩
 t0:=Tryz.underlying0
 a0:=Tryz.isAgg0
 z0:=Tryz.sizeOf0
 v0:=Tryz.zeroValue0
 t3:=Tryz.underlying3
 a3:=Tryz.isAgg3
 z3:=Tryz.sizeOf3
 v3:=Tryz.zeroValue3
 t4:=Tryz.underlying4
 a4:=Tryz.isAgg4
 z4:=Tryz.sizeOf4
 v4:=Tryz.zeroValue4
 t5:=Tryz.underlying5
 a5:=Tryz.isAgg5
 z5:=Tryz.sizeOf5
 v5:=Tryz.zeroValue5
 t9:=Tryz.underlying9
 a9:=Tryz.isAgg9
 z9:=Tryz.sizeOf9
 v9:=Tryz.zeroValue9
 t22:=Tryz.underlying27
 a22:=Tryz.isAgg27
 z22:=Tryz.sizeOf27
 v22:=Tryz.zeroValue27
 t25:=Tryz.underlying115
 a25:=Tryz.isAgg115
 z25:=Tryz.sizeOf115
 v25:=Tryz.zeroValue115
 t39:=Tryz.underlying213
 a39:=Tryz.isAgg213
 z39:=Tryz.sizeOf213
 v39:=Tryz.zeroValue213
 t45:=Tryz.underlying242
 a45:=Tryz.isAgg242
 z45:=Tryz.sizeOf242
 v45:=Tryz.zeroValue242
 t46:=Tryz.underlying243
 a46:=Tryz.isAgg243
 z46:=Tryz.sizeOf243
 v46:=Tryz.zeroValue243
 t50:=Tryz.underlying118
 a50:=Tryz.isAgg118
 z50:=Tryz.sizeOf118
 v50:=Tryz.zeroValue118
 t53:=Tryz.underlying199
 a53:=Tryz.isAgg199
 z53:=Tryz.sizeOf199
 v53:=Tryz.zeroValue199
 t55:=Tryz.underlying201
 a55:=Tryz.isAgg201
 z55:=Tryz.sizeOf201
 v55:=Tryz.zeroValue201
 t66:=Tryz.underlying268
 a66:=Tryz.isAgg268
 z66:=Tryz.sizeOf268
 v66:=Tryz.zeroValue268
 t70:=Tryz.underlying272
 a70:=Tryz.isAgg272
 z70:=Tryz.sizeOf272
 v70:=Tryz.zeroValue272
 t76:=Tryz.underlying280
 a76:=Tryz.isAgg280
 z76:=Tryz.sizeOf280
 v76:=Tryz.zeroValue280
 t77:=Tryz.underlying281
 a77:=Tryz.isAgg281
 z77:=Tryz.sizeOf281
 v77:=Tryz.zeroValue281 }
def Tryz.lays189_ren:Go.Shelf.Ren:=⟨fun|189=>133|125=>145|257=>161|128=>174|129=>175|294=>184|295=>185|296=>186|297=>187|298=>188|299=>189|216=>190|300=>191|301=>192|328=>212|329=>202|330=>203|331=>213|332=>214|215=>146|343=>219|n=>n,fun|28=>149|3=>3|46=>213|0=>0|51=>199|53=>201|4=>4|183=>243|182=>242|131=>118|5=>5|9=>9|218=>268|222=>272|228=>280|229=>281|n=>n,fun|n=>n⟩
theorem Tryz.lays189:Go.Proofs.Lays.n189 Tryz.prog Tryz.lays189_ren:={
 mixed:=by kernel_rfl
 f125:=Tryz.func145.trans (congrArg some (by kernel_rfl))
 f128:=Tryz.func174.trans (congrArg some (by kernel_rfl))
 f129:=Tryz.func175.trans (congrArg some (by kernel_rfl))
 f189:=Tryz.func133.trans (congrArg some (by kernel_rfl))
 f215:=Tryz.func146.trans (congrArg some (by kernel_rfl))
 f216:=Tryz.func190.trans (congrArg some (by kernel_rfl))
 f257:=Tryz.func161.trans (congrArg some (by kernel_rfl))
 f294:=Tryz.func184.trans (congrArg some (by kernel_rfl))
 f295:=Tryz.func185.trans (congrArg some (by kernel_rfl))
 f296:=Tryz.func186.trans (congrArg some (by kernel_rfl))
 f297:=Tryz.func187.trans (congrArg some (by kernel_rfl))
 f298:=Tryz.func188.trans (congrArg some (by kernel_rfl))
 f299:=Tryz.func189.trans (congrArg some (by kernel_rfl))
 f300:=Tryz.func191.trans (congrArg some (by kernel_rfl))
 f301:=Tryz.func192.trans (congrArg some (by kernel_rfl))
 f328:=Tryz.func212.trans (congrArg some (by kernel_rfl))
 f329:=Tryz.func202.trans (congrArg some (by kernel_rfl))
 f330:=Tryz.func203.trans (congrArg some (by kernel_rfl))
 f331:=Tryz.func213.trans (congrArg some (by kernel_rfl))
 f332:=Tryz.func214.trans (congrArg some (by kernel_rfl))
 f343:=Tryz.func219.trans (congrArg some (by kernel_rfl))
 t0:=Tryz.underlying0
 a0:=Tryz.isAgg0
 z0:=Tryz.sizeOf0
 v0:=Tryz.zeroValue0
 t3:=Tryz.underlying3
 a3:=Tryz.isAgg3
 z3:=Tryz.sizeOf3
 v3:=Tryz.zeroValue3
 t4:=Tryz.underlying4
 a4:=Tryz.isAgg4
 z4:=Tryz.sizeOf4
 v4:=Tryz.zeroValue4
 t5:=Tryz.underlying5
 a5:=Tryz.isAgg5
 z5:=Tryz.sizeOf5
 v5:=Tryz.zeroValue5
 t9:=Tryz.underlying9
 a9:=Tryz.isAgg9
 z9:=Tryz.sizeOf9
 v9:=Tryz.zeroValue9
 t28:=Tryz.underlying149
 a28:=Tryz.isAgg149
 z28:=Tryz.sizeOf149
 v28:=Tryz.zeroValue149
 t46:=Tryz.underlying213
 a46:=Tryz.isAgg213
 z46:=Tryz.sizeOf213
 v46:=Tryz.zeroValue213
 t51:=Tryz.underlying199
 a51:=Tryz.isAgg199
 z51:=Tryz.sizeOf199
 v51:=Tryz.zeroValue199
 t53:=Tryz.underlying201
 a53:=Tryz.isAgg201
 z53:=Tryz.sizeOf201
 v53:=Tryz.zeroValue201
 t131:=Tryz.underlying118
 a131:=Tryz.isAgg118
 z131:=Tryz.sizeOf118
 v131:=Tryz.zeroValue118
 t182:=Tryz.underlying242
 a182:=Tryz.isAgg242
 z182:=Tryz.sizeOf242
 v182:=Tryz.zeroValue242
 t183:=Tryz.underlying243
 a183:=Tryz.isAgg243
 z183:=Tryz.sizeOf243
 v183:=Tryz.zeroValue243
 t218:=Tryz.underlying268
 a218:=Tryz.isAgg268
 z218:=Tryz.sizeOf268
 v218:=Tryz.zeroValue268
 t222:=Tryz.underlying272
 a222:=Tryz.isAgg272
 z222:=Tryz.sizeOf272
 v222:=Tryz.zeroValue272
 t228:=Tryz.underlying280
 a228:=Tryz.isAgg280
 z228:=Tryz.sizeOf280
 v228:=Tryz.zeroValue280
 t229:=Tryz.underlying281
 a229:=Tryz.isAgg281
 z229:=Tryz.sizeOf281
 v229:=Tryz.zeroValue281 }
open Go.Sort Go.RowKit in
theorem Tryz.slices_Sort_int (blk off cap:Nat) (zs:List Int) (w:World) (hH:Holds (Value.int .i64) w blk off zs.toArray) (hblk:blk<w.heap.size) (hsz:zs.length<4611686018427387904) :
  Calls Tryz.prog 133 #[.slice (some ⟨blk,off,none⟩) zs.length cap] w fun e w' =>
   e=.returned (.tuple #[])∧∃ n os,w'=grow (putRow (Value.int .i64) (Sort.ahead w n) blk off (zs.mergeSort fun x y=>decide (x≤y)).toArray) os:=Any.slices_Sort_int Tryz.lays189 blk off cap zs w hH hblk hsz
def Tryz.laysNm220_ren:Go.Shelf.Ren:=⟨fun|20=>134|n=>n,fun|22=>149|3=>3|4=>4|0=>0|n=>n,fun|n=>n⟩
theorem Tryz.laysNm220:Go.Proofs.Lays2.n20 Tryz.prog Tryz.laysNm220_ren:={
 mixed:=by kernel_rfl
 f20:=Tryz.func134.trans (congrArg some (by kernel_rfl))
 t0:=Tryz.underlying0
 a0:=Tryz.isAgg0
 z0:=Tryz.sizeOf0
 v0:=Tryz.zeroValue0
 t3:=Tryz.underlying3
 a3:=Tryz.isAgg3
 z3:=Tryz.sizeOf3
 v3:=Tryz.zeroValue3
 t4:=Tryz.underlying4
 a4:=Tryz.isAgg4
 z4:=Tryz.sizeOf4
 v4:=Tryz.zeroValue4
 t22:=Tryz.underlying149
 a22:=Tryz.isAgg149
 z22:=Tryz.sizeOf149
 v22:=Tryz.zeroValue149
 i3:=by kernel_rfl }
open Go.RowKit Go.Lib Go.Sort in
theorem Tryz.slices_Compact_int (blk off cap:Nat) (zs:List Int) (w:World) (hH:Holds (Value.int .i64) w blk off zs.toArray) (hsz:zs.length≤9223372036854775807) (hcap:zs.length≤cap) :
  Calls Tryz.prog 134 #[.slice (some ⟨blk,off,none⟩) zs.length cap] w fun e w'=>e=.returned (.slice (some ⟨blk,off,none⟩) (Lib.compact zs).length cap)∧∃ q,w'=putRow (Value.int .i64) (Sort.ahead w q) blk off (Lib.compact zs++yah (zs.length-(Lib.compact zs).length) 0).toArray:=Any.slices_Compact_int Tryz.laysNm220 blk off cap zs w hH hsz hcap
open Go.RowKit Go.Lib Go.Sort in
theorem Tryz.slices_Compact_int_empty (a:Option Addr) (cap:Nat) (w:World) :
  Calls Tryz.prog 134 #[.slice a 0 cap] w fun e w'=>e=.returned (.slice a 0 cap)∧w'=w:=Any.slices_Compact_int_empty Tryz.laysNm220 a cap w
open Go.RowKit Go.Sort in
theorem Tryz.slices_Sort_int_none (p:Option Addr) (cap:Nat) (w:World) :
  Calls Tryz.prog 133 #[.slice p 0 cap] w fun e w'=>e=.returned (.tuple #[])∧w'=w:=Any.slices_Sort_int_none Tryz.lays189 p cap w
end Go.Proofs
namespace Go.Fx.H
open Go Go.Fx Go.Proofs Go.Fx.R Go.Sort
set_option maxRecDepth 20000
theorem Zm (l:List Sp) (hl:l.length≤4398046511104):OkN Tryz.prog 135 [.clo 137 [.ptr 0 0 0]] [.var [aG l]] [] (IsA (.sl 1 0 l.length) [.var [aG l],.arr 2 (l.map enS)]):=by
 refine fR pol [0] lw135 (by simp) ⟨trivial,trivial⟩ (by simp) ?_
 unfold c135
 simp -implicitDefEqProofs only [rX,aA,↓reduceIte,reduceCtorEq,cxN,aL]
 refine eF [0] [.nil,.clo 137 [.ptr 0 0 0]] (.sl 1 0 l.length) (.sl 1 0 l.length) [.var [aG l]] [.var [aG l],.arr 2 (l.map enS)] [.var [aG l],.arr 2 (l.map enS)] (Zd l hl) (by simp) (by simp [blk,bJ,b9,ren]) (by simp [aM,bG,aX,cY,wkL,wk,pos]) (by simp) (by simp [bM,bJ,b9,ren,back]) (by simp [ren,b9,back]) (by simp [aC,aB]) ?_
 simp -implicitDefEqProofs only [rX,↓reduceIte,Nat.reduceAdd,aU,aY,leH,leB,leV,c7,aC,aB,wfB,wfV,wfL,Nat.reduceLeDiff,bT]
structure Srt (l d:List Sp):Prop where
 p:d.Perm l
 s:d.Pairwise fun s t=>s.1≤t.1
def Mid (l:List Sp):Prop:=∀ s∈l,-1152921504606846976≤s.1∧s.1≤1152921504606846976
abbrev MSp:={ s:Sp // -1152921504606846976≤s.1∧s.1≤1152921504606846976 }
instance:Inhabited MSp:=⟨⟨(0,0),by decide⟩⟩
def enM (s:MSp):List Value:=[.int .i64 s.1.1,.int .i64 s.1.2]
set_option maxHeartbeats 1000000 in
theorem aeK (x y:MSp) (W:World):Calls Tryz.prog 89 #[.agg #[.int .i64 x.1.1,.int .i64 x.1.2],.agg #[.int .i64 y.1.1,.int .i64 y.1.2]] W fun e w'=>e=.returned (.int .i64 (x.1.1-y.1.1))∧∃ q os',w'=Sort.grow (W.drewN q) os':=by
 have hx:=x.2
 have hy:=y.2
 have hw:IntKind.i64.wrap (x.1.1-y.1.1)=x.1.1-y.1.1:=by rw [IntKind.wrap_i64];omega
 go_enter Tryz.func89,Tryz.ntmps89
 go_wp2
 go_ret
 exact ⟨by first|rfl|rw [hw],0,_,by rw [Go.Sort.alloc_eq_grow,Go.Sort.alloc_eq_grow,Go.Sort.grow_grow];rfl⟩
theorem adA:SWO (ltOf fun x y:MSp=>x.1.1-y.1.1) where
 irrefl x:=by unfold ltOf;simp
 trans x y z h1 h2:=by unfold ltOf at *;simp at *;omega
 ntrans x y z h1 h2:=by unfold ltOf at *;simp at *;omega
theorem cal {f:FuncId} {fn:Func} (h:Tryz.prog.funcs[f]?=some fn) (h1:(fn.name == "runtime.NumGoroutine")=false) (h2:fn.body.isNone=false):c9 Tryz.prog f:=⟨fn,h,h1,h2⟩
theorem Vv (a:Option Addr) (w:World):Calls Tryz.prog 136 #[.slice a 0 0,.func (.func 89) #[] #[]] w fun e w'=>e=.returned (.tuple #[])∧w'=w :=
 AnyF.slices_SortFunc_none Tryz.sortSp a 0 _ w
theorem Um (l:List MSp) (hl:l.length<4611686018427387904):OkN Tryz.prog 136 [.sl 0 0 l.length,.clo 89 []] [.arr 2 (l.map (enV enM))] [] (IsQ (abH (ltOf fun x y:MSp=>x.1.1-y.1.1) l) (fun _=>.tup []) (fun d=>[.arr 2 (d.map (enV enM))])):=by
 refine Ny (en:=enM) (k:=2) (cal Tryz.func136 (by kernel_rfl) (by kernel_rfl)) (fun _=>rfl) (by decide) (fun x z hz=>by simp [enM] at hz;rcases hz with rfl|rfl<;>rfl) ?_ Vv l hl
 intro blk off cap d w hH hb hs
 exact AnyQ.slices_SortFunc Tryz.sortSp 2 Tryz.isAgg73 Tryz.sizeOf73 enM (fun _=>rfl) (fun x v hv=>by simp [enM] at hv;rcases hv with rfl|rfl<;>rfl) (fun x y=>x.1.1-y.1.1) adA 89 #[] blk off cap d w
  (enters_of Tryz.func89 (by kernel_rfl) rfl) (fun _ _ _ _ x y=>aeK x y _) hH hb hs
def toM (l:List Sp) (hm:Mid l):List MSp:=l.attach.map fun s=>⟨s.1,hm s.1 s.2⟩
theorem Qj {l:List Sp} {hm:Mid l}:(toM l hm).map (·.1)=l:=by
 unfold toM
 rw [ybr]
 exact List.attach_map_subtype_val l
theorem Gz {l:List MSp}:l.map (enV enM)=(l.map (·.1)).map enS:=by
 rw [ybr];rfl
theorem Zl (l:List Sp) (hl:l.length≤4398046511104) (hm:Mid l):OkN Tryz.prog 136 [.sl 0 0 l.length,.clo 89 []] [.arr 2 (l.map enS)] [] (IsQ (Srt l) (fun _=>.tup []) (fun d=>[.arr 2 (d.map enS)])):=by
 have hv:(toM l hm).map (·.1)=l:=Qj
 have hlen:(toM l hm).length=l.length:=by simp [toM]
 have h:=Um (toM l hm) (by omega)
 rw [Gz,hv,hlen] at h
 refine pE h ?_
 rintro r hs ⟨d,⟨h1,h2⟩,rfl,rfl⟩
 refine ⟨d.map (·.1),⟨by rw [←hv];exact h1.map _,?_⟩,rfl,by simp only [Gz]⟩
 rw [List.pairwise_map]
 refine h2.imp fun {x y} h=>?_
 unfold ltOf at h
 simp at h
 omega
theorem adM (l:List Sp) (hl:l.length≤4398046511104) (hm:Mid l):OkN Tryz.prog 87 [.clo 137 [.ptr 0 0 0],.clo 89 []] [.var [aG l]] [] (IsQ (Srt l) (fun _=>.sl 1 0 l.length) (fun d=>[.var [aG l],.arr 2 (d.map enS)])):=by
 refine fR pol [0] lw87 (by simp) ⟨trivial,trivial⟩ (by simp) ?_
 unfold c87
 simp -implicitDefEqProofs only [rX,aA,↓reduceIte,reduceCtorEq,cxN,aL]
 refine eF [0] [.clo 137 [.ptr 0 0 0]] (.sl 1 0 l.length) (.sl 1 0 l.length) [.var [aG l]] [.var [aG l],.arr 2 (l.map enS)] [.var [aG l],.arr 2 (l.map enS)] (Zm l hl) (by simp) (by simp [blk,bJ,b9,ren]) (by simp [aM,bG,aX,cY,wkL,wk,pos]) (by simp) (by simp [bM,bJ,b9,ren,back]) (by simp [ren,b9,back]) (by simp [aC,aB]) ?_
 simp -implicitDefEqProofs only [rX,↓reduceIte,Nat.reduceEqDiff,Nat.reduceAdd,reduceCtorEq]
 refine vR (Srt l) [1] [] [] [.sl 0 0 l.length,.clo 89 []] (fun _=>.tup []) [.arr 2 (l.map enS)] (fun d=>[.arr 2 (d.map enS)]) (Zl l hl hm) (by simp) (by simp) (by simp [blk,bJ]) (by simp [aM,bG,aX,cY,wkL,wk,pos]) fun d hd=>⟨by simp [aC,aB,bM,bJ,aS],?_⟩
 simp -implicitDefEqProofs only [rX,↓reduceIte,Nat.reduceEqDiff,Nat.reduceAdd,aP,aS,kill,a8,St.kill,bM,bJ,b9,ren]
 refine uI d hd ?_
 simp -implicitDefEqProofs only [rX,↓reduceIte,Nat.reduceAdd,aU,aY,leH,leB,leV,c7,aC,aB,wfB,wfV,wfL,Nat.reduceLeDiff]
end Go.Fx.H
namespace Go.Fx.H
open Go Go.Fx Go.Proofs Go.Fx.R
set_option maxRecDepth 20000
theorem Cr {o:List Sp} {s:Sp} (h:s.1≥s.2):mrg o s=o:=by unfold mrg;rw [if_pos (by omega)]
theorem Hs {s:Sp} (h:¬s.1≥s.2):mrg [] s=[s]:=by unfold mrg;rw [if_neg (by omega)];rfl
theorem Cs {o:List Sp} {s:Sp} (h:¬s.1≥s.2) (hn:o.length-1<o.length) (h2:s.1≤o[o.length-1].2):mrg o s=o.set (o.length-1) (o[o.length-1].1,max o[o.length-1].2 s.2):=by
 rcases ybO o with rfl|⟨p,t,rfl⟩
 ·simp at hn
 ·unfold mrg
  simp only [ybP] at *
  rw [if_neg (by omega)]
  simp at h2 ⊢
  exact h2
theorem Ht {o:List Sp} {s:Sp} (h:¬s.1≥s.2) (hn:o.length-1<o.length) (h2:¬s.1≤o[o.length-1].2):mrg o s=o++[s]:=by
 rcases ybO o with rfl|⟨p,t,rfl⟩
 ·simp at hn
 ·unfold mrg
  simp only [ybP] at *
  rw [if_neg (by omega)]
  simp at h2 ⊢
  omega
theorem Rb {o:List Sp} {s:Sp}:(mrg o s).length≤o.length+1:=by
 by_cases h:s.1≥s.2
 ·rw [Cr h];omega
 ·by_cases hn:o.length=0
  ·rw [ybh.1 hn,Hs h];simp
  ·by_cases h2:s.1≤(o[o.length-1]'(by omega)).2
   ·rw [Cs h (by omega) h2];simp
   ·rw [Ht h (by omega) h2];simp
theorem Jq {d:List Sp} {k:Nat} (h:k<d.length) (o:List Sp):(d.take (k+1)).foldl mrg o=mrg ((d.take k).foldl mrg o) d[k]:=by
 rw [yaK,yan h,List.foldl_append];rfl
abbrev h58 (l d o:List Sp):List Blk:=[.var [aG l],.arr 2 (d.map enS),.arr 2 (o.map enS)]
theorem Ym (l:List Sp) (hl:l.length≤4398046511104) (hm:Mid l):Ok 48 [aG l] (IsQ (fun d=>Srt l d) (fun d=>.sl 2 0 (d.foldl mrg []).length) (fun d=>h58 l d (d.foldl mrg []))):=by
 refine bW lw48 (by simp) ?_
 unfold c48
 simp -implicitDefEqProofs only [rX,aA,↓reduceIte,reduceCtorEq,cxN,aL]
 refine dM [aG l] (.clo 137 [.ptr 0 0 0]) (.clo 137 [.ptr 0 0 0]) [.var [aG l]] [.var [aG l]] (adL l) ⟨⟨trivial,trivial⟩,⟨rfl,rfl⟩,trivial⟩ (by simp [ren,b9]) (by simp [bJ,b9,ren]) trivial ?_
 simp -implicitDefEqProofs only [rX,↓reduceIte]
 refine vR (Srt l) [0] [] [] [.clo 137 [.ptr 0 0 0],.clo 89 []] (fun _=>.sl 1 0 l.length) [.var [aG l]] (fun d=>[.var [aG l],.arr 2 (d.map enS)]) (adM l hl hm) (by simp) (by simp) (by simp [blk,bJ,b9,ren]) (by simp [aM,bG,aX,cY,wkL,wk,pos]) fun d hd=>⟨by simp [aC,aB,bM,bJ,aS],?_⟩
 simp -implicitDefEqProofs only [rX,aA,↓reduceIte,Nat.reduceEqDiff,Nat.reduceAdd,aP,aS,kill,a8,St.kill,bM,bJ,b9,ren,back,a8,kill]
 have hdl:d.length=l.length:=hd.p.length_eq
 intro hmx
 refine eV (.virt 1 2 (by decide) (.nilE 4 2 rfl (.refl _))) (fun k:Nat=>⟨[(13,.i k),(12,.i l.length),(11,.sl 1 0 l.length),(4,.sl 2 0 ((d.take k).foldl mrg []).length)],h58 l d ((d.take k).foldl mrg []),0⟩) (fun k=>k≤d.length∧((d.take k).foldl mrg []).length≤k) (fun k=>d.length-k) 0 ⟨by omega,by simp⟩ ?_ ?_
 ·simp -implicitDefEqProofs only [rX,↓reduceIte,Nat.reduceEqDiff,leE,leH,leB,leV,c7,aC,aB,wfE,wfB,wfV,wfL,yaL,List.foldl_nil,yaz]
  simp
 rintro k ⟨hk,hol⟩
 generalize ho:(d.take k).foldl mrg []=o at hol
 unfold c48l0
 simp -implicitDefEqProofs only [rX,↓rY,aA,cells?,splice,↓reduceIte,Nat.reduceEqDiff,fK,Nat.reduceAdd,reduceCtorEq,aD,bU,leE,leH,leB,leV,c7,aC,aB,wfE,wfB,wfV,wfL,aP,aS,kill,a8,St.kill,isD,isC,Nat.reduceLT,yar,yaf,bE,bR,pT,j0,fH,iL,mO,dH]
 have hend:∀ (hk':k<d.length),∀ o',o'=mrg o d[k]→((lo IntKind.i64≤(k:Int)+1∧(k:Int)+1≤hi IntKind.i64)∧∃ g',((g'≤d.length∧(yaX mrg [] (yac g' d)).length≤g')∧d.length-g'<d.length-k)∧((k:Int)+1=(g':Int)∧V.sl 2 0 o'.length=V.sl 2 0 (yaX mrg [] (yac g' d)).length)∧Blk.arr 2 (yae enS o')=Blk.arr 2 (yae enS (yaX mrg [] (yac g' d)))):=by
  intro h o' e
  have hf:=Jq h ([]:List Sp)
  rw [ho] at hf
  have:=Rb (o:=o) (s:=d[k])
  refine ⟨by simp only [lo,hi];omega,k+1,⟨⟨by omega,by rw [hf];omega⟩,by omega⟩,?_⟩
  rw [hf,←e]
  simp
 have htk:yac o.length (o.map enS)=o.map enS:=yab (by simp)
 simp only [br,decide_eq_true_eq,decide_eq_false_iff_not]
 refine ⟨fun h=>?_,fun h=>?_⟩
 ·have hk':k<d.length:=by omega
  have hend:=hend hk'
  refine ⟨⟨by omega,h⟩,hk',fun hmo=>⟨fun h1=>hend o (Cr h1).symm,fun h1=>?_⟩⟩
  have h1':¬d[k].1≥d[k].2:=by omega
  have hbig:(o.length+1)*16≤140737488355328:=by omega
  have hadd:∀ x,o++[x]=mrg o d[k]→x=d[k]→(o.length+1)*16≤140737488355328∧(lo IntKind.i64≤(k:Int)+1∧(k:Int)+1≤hi IntKind.i64)∧∃ g',((g'≤d.length∧(yaX mrg [] (yac g' d)).length≤g')∧d.length-g'<d.length-k)∧((k:Int)+1=(g':Int)∧V.sl 2 0 (o.length+1)=V.sl 2 0 (yaX mrg [] (yac g' d)).length)∧Blk.arr 2 (yac o.length (yae enS o)++[enS d[k]])=Blk.arr 2 (yae enS (yaX mrg [] (yac g' d))):=by
   rintro x hx rfl
   have:=hend _ hx
   rw [htk]
   rw [yaq,yad] at this
   exact ⟨hbig,this⟩
  refine ⟨fun h2=>?_,fun h2=>?_⟩
  ·have hn:o.length-1<o.length:=by omega
   have hto:((o.length:Int)-1).toNat=o.length-1:=by omega
   have r1:lo IntKind.i64≤(o.length:Int)-1∧(o.length:Int)-1≤hi IntKind.i64:=by simp only [lo,hi];omega
   have r2:(0:Int)≤(o.length:Int)-1∧(o.length:Int)-1<o.length:=by omega
   simp only [hto]
   refine ⟨r1,r2,hn,fun h3=>?_,fun h3=>?_⟩
   ·refine ⟨r1,r1,r2,hn,r2,hn,?_⟩
    have:=hend _ (Cs h1' hn h3).symm
    have e:(yae enS o).set (o.length-1) (yac 1 (enS o[o.length-1])++[V.v (Value.int IntKind.i64 (max o[o.length-1].snd d[k].snd))])=(o.set (o.length-1) (o[o.length-1].1,max o[o.length-1].2 d[k].2)).map enS:=by
     rw [ybE];rfl
    rw [e]
    simpa using this
   ·exact hadd d[k] (Ht h1' hn h3).symm rfl
  ·have h0:o=[]:=ybh.1 (by omega)
   refine hadd d[k] ?_ rfl
   subst h0
   exact (Hs h1').symm
 ·refine uI d hd ?_
  have hf:(d.take k).foldl mrg []=d.foldl mrg []:=by rw [yab (by omega)]
  rw [ho] at hf
  rw [hf]
  simp -implicitDefEqProofs only [rX,↓reduceIte,Nat.reduceAdd,aU,aY,leH,leB,leV,c7,aC,aB,wfB,wfV,wfL,Nat.reduceLeDiff]
theorem adU (l:List Sp) (hl:l.length≤4398046511104) (hm:Mid l):Ok 48 [aG l] (Is (aG (ofS l))):=by
 refine ⟨gS lw48,Iq (R:=fun q hs=>wk (aG (ofS l)) (gvV (fun _=>true) hs q)) ?_ fun _ _ h=>h⟩
 refine (pE (Ym l hl hm) ?_).2
 rintro r h ⟨d,hd,rfl,rfl⟩
 have e:d.foldl mrg []=ofS l:=Vw hd.s fun s=>hd.p.mem_iff
 simp only [e]
 have ht:yac (ofS l).length ((ofS l).map enS)=(ofS l).map enS:=yab (by simp)
 simp [gvV,gvL,wk,wkL,wkR,aG,blk,ht]
end Go.Fx.H
namespace Go.Fx.H
open Go Go.Fx Go.Proofs Go.Fx.R
set_option maxRecDepth 20000
theorem Hk (l:List Sp) (hl:l.length≤4398046511104) (hm:Mid l):OkN Tryz.prog 48 [.sl 0 0 l.length] [.arr 2 (l.map enS)] [0] (IsA (aG (ofS l)) [.dead]):=by
 have ht:yac l.length (l.map enS)=l.map enS:=yab (by simp)
 exact y7 (xs:=[.sl 0 0 l.length]) (h0:=[.arr 2 (l.map enS)]) (adU l hl hm) (by simp [gvL,gvV,wkL,wk,wkR,blk,ht])
theorem j3 {cx:Cx} {e:Env} {h:List Blk} {b k n:Nat} {K:V→St→Prop} (l:List Sp) (hC:cx.C=C0 Tryz.prog) (hl:l.length≤4398046511104) (hm:Mid l) (hb:h[k]?=some (.arr 2 (l.map enS))) (hn:n=l.length) (hk:k∉cx.bn∧k∉cx.fx)
  (keep:aC cx.fx ((h.map (aS [k])).set k .dead)) (h3:K (aG (ofS l)) ⟨aP [k] e,(h.map (aS [k])).set k .dead,b⟩):eG cx 48 [.sl k 0 n] ⟨e,h,b⟩ K:=by
 subst hn
 have hlt:k<h.length:=by
  rcases yax k h.length with h'|h'
  ·exact h'
  ·rw [List.getElem?_eq_none h'] at hb;cases hb
 have hbk:blk h k=.arr 2 (l.map enS):=by simp [blk,hb]
 refine vR (fun _:Unit=>True) [k] [0] [k] [.sl 0 0 l.length] (fun _=>aG (ofS l)) [.arr 2 (l.map enS)] (fun _=>[.dead]) ?_ ⟨by simp,fun j hj=>?_⟩ ⟨by simp,fun j hj i hi=>?_⟩ ?_ ?_ fun _ _=>⟨?_,?_⟩
 ·rw [hC]
  exact pE (Hk l hl hm) fun r hs h=>⟨(),trivial,h.1,h.2⟩
 ·simp at hj;subst hj;exact ⟨hlt,hk.1⟩
 ·simp at hj;subst hj;simp at hi;subst hi;exact hk.2
 ·simp [hbk,bJ]
 ·simp [aM,bG,aX,cY,wkL,wk,pos]
 ·simpa [bM,bJ] using keep
 ·simpa [bM,bJ,ren,aG] using h3
theorem adT (l:List Sp) (s:Sp) (hl:l.length≤4398046511103) (hs:Sep l) (hm:Mid (l++[s])):Ok 49 [aG l,.agg (enS s)] (Is (aG (xD l s))):=by
 rw [←Sf hs]
 refine bW lw49 (by simp) ?_
 unfold c49
 simp -implicitDefEqProofs only [rX,↓rY,rdK,aA,cells?,↓reduceIte,Nat.reduceEqDiff,reduceCtorEq,aD,bU,Nat.reduceLT,cxN,bE,bR,iL,aL]
 have hN:l.length≤4398046511104:=by omega
 have hlen:(l++[s]).length≤4398046511104:=by simp;omega
 have e1:yac (l.length+1) (l.map enS++[enS s])=(l++[s]).map enS:=by
  rw [yab (by simp),yaq];rfl
 have e2:yac l.length (l.map enS)++[enS s]=l.map enS++[enS s]:=by rw [yab (by simp)]
 have e1a:yac l.length (l.map enS)=l.map enS:=yab (by simp)
 refine ⟨?_,?_⟩
 ·refine dM [aG l] (.sl 0 0 l.length) (.sl 3 0 l.length) [.arr 2 (l.map enS)] [.arr 2 (l.map enS)] (Sy l hN) ⟨⟨trivial,trivial⟩,⟨rfl,rfl⟩,trivial⟩ (by simp [ren]) (by simp [bJ]) trivial ?_
  simp -implicitDefEqProofs only [rX,↓rY,cells?,↓reduceIte,Nat.reduceEqDiff,reduceCtorEq,aD,bU,aP,aS,kill,St.kill,Nat.reduceLT,bE,iL,dH]
  refine ⟨by omega,?_⟩
  refine j3 (l++[s]) rfl hlen hm (by simp [e1a]) (by simp) (by simp) trivial ?_
  simp -implicitDefEqProofs only [rX,↓reduceIte,Nat.reduceEqDiff,reduceCtorEq,aU,aY,wfV,aP,aS,kill,St.kill,dH]
 ·refine dM [aG l] (.sl 0 0 l.length) (.sl 3 0 l.length) [.arr 2 (l.map enS)] [.arr 2 (l.map enS)] (Sy l hN) ⟨⟨trivial,trivial⟩,⟨rfl,rfl⟩,trivial⟩ (by simp [ren]) (by simp [bJ]) trivial ?_
  simp -implicitDefEqProofs only [rX,↓rY,↓reduceIte,Nat.reduceEqDiff,reduceCtorEq,aP,aS,kill,St.kill,dH]
  refine ⟨by omega,?_⟩
  refine j3 (l++[s]) rfl hlen hm (by simp [e1a]) (by simp) (by simp) trivial ?_
  simp -implicitDefEqProofs only [rX,↓reduceIte,Nat.reduceEqDiff,reduceCtorEq,aU,aY,wfV,aP,aS,kill,St.kill,dH]
end Go.Fx.H
namespace Go.Fx.H
open Go Go.Fx Go.Proofs Go.Fx.R
set_option maxRecDepth 20000
set_option maxHeartbeats 1000000 in
theorem aaQ (w:World):Calls Tryz.prog 120 #[.slice none 0 0,.int .i64 0] w fun e w'=>e=.returned (.slice none 0 0)∧w'=w:=by
 go_enter Tryz.func120,Tryz.ntmps120
 go_wp2
 go_ret
 exact ⟨rfl,rfl⟩
set_option maxHeartbeats 1000000 in
theorem aaP (n:Nat) (h0:0<n) (hn:n≤4398046511104) (w:World):Calls Tryz.prog 120 #[.slice none 0 0,.int .i64 n] w fun e w'=>∃ G row,n≤G∧G≤9223372036854775807∧row.size=G*2∧e=.returned (.slice (some ⟨w.heap.size,0,none⟩) 0 G)∧w'=w.drew.alloc (.cells row 73):=by
 have hi0:Tryz.prog.info? 73=some Tryz.t73:=by kernel_rfl
 have hz0:Tryz.t73.zero=some (.agg #[.int .i64 0,.int .i64 0]):=by kernel_rfl
 have hs:Tryz.t73.size=2:=by kernel_rfl
 have hb:Tryz.t73.bytes=16:=by kernel_rfl
 have hold:(Builtin.firstCells Tryz.t73.size 0 (.slice none 0 0)).run Tryz.prog w.drew=.ok ([]:List Value).toArray w.drew:=run_firstCells_none w.drew _ 0 0 0
 have hrz:∀ ty,_:=fun ty=>Lib.run_append_grow_zeros w 27 3 ty 73 Tryz.t73 _ .i64 .i64 Tryz.underlying27 Tryz.underlying3 hi0 hz0 none 0 0 [] hold n (by omega) (by omega) (by omega) (by omega) (by rw [hb];omega) (by rw [hb];exact growslice_fits (by omega) (by omega))
 simp only [yaE] at hrz
 obtain ⟨G,hG⟩:∃ G,G=grownCap w n 0 73:=⟨_,rfl⟩
 have hGn:n≤G:=by rw [hG];exact grownCap_ge w _ _ _
 have hG63:G≤9223372036854775807:=by
  have:=grownCap_le_maxLen w n 0 73 (by unfold maxLen;omega)
  rw [←hG] at this
  unfold maxLen at this
  omega
 rw [←hG] at hrz
 generalize hrow:(([]:List Value).toArray++Builtin.zeroCells (Value.agg #[Value.int .i64 0,Value.int .i64 0]).cells n++Builtin.zeroCells (Value.agg #[Value.int .i64 0,Value.int .i64 0]).cells (G-n))=row at hrz
 have hsz:row.size=G*2:=by
  rw [←hrow]
  simp [Builtin.zeroCells,Value.cells]
  omega
 clear hold hG hrow
 have h1:¬((n:Int)<0):=by omega
 have h4:(n:Int)-(0-0)>0:=by omega
 have e4:(n:Int)-(0-0)=n:=by omega
 go_enter Tryz.func120,Tryz.ntmps120
 go_wp2_with (at_builtin;refine Lib.wpList_append_run _ rfl _ _ _ _ rfl _ _ rfl rfl _ _ (hrz _) ?_)
 all_goals (go_ret;exact ⟨G,hGn,hG63,row,hsz,rfl,rfl⟩)
theorem Zw (n:Nat) (hn:n≤4398046511104):Ok 120 [.nil,.i n] (IsA (.sl 0 0 0) [.arr 2 []]):=by
 refine ⟨cal Tryz.func120 (by kernel_rfl) (by kernel_rfl),?_⟩
 intro ρ X w vals hr ha
 match vals,ha with
 | [v0,v1],⟨h0,h1,_⟩ =>
 have h0':v0=.slice none 0 0:=h0
 have h1':v1=.int .i64 n:=h1
 subst h0' h1'
 have hno:∀ k,(ρ k).real=false:=fun k=>hr.out k (yai _)
 have hown:∀ b,¬Own ρ b:=by
  rintro b ⟨k,hk,_⟩
  rw [hno k] at hk;cases hk
 rcases Nat.eq_zero_or_pos n with rfl|hp
 ·refine (aaQ w).mono ?_
  rintro e w' ⟨rfl,rfl⟩
  have hno':∀ k,(({ ρ 0 with sz:=2 }:Loc) |> fun L=>if k=0 then L else ρ k).real=false:=by
   intro k
   show (if k=0 then _ else ρ k:Loc).real=false
   split
   ·exact hno 0
   ·exact hno k
  refine ⟨_,.sl 0 0 0,[.arr 2 []],fun k=>if k=0 then { ρ 0 with sz:=2 } else ρ k,rfl,⟨⟨rfl,rfl⟩,yai _⟩,⟨rfl,rfl,rfl,yaa _,fun b hb ho=>⟨rfl,?_⟩⟩,⟨fun j k _ h=>?_,fun k _=>hno' k,fun k b hb=>?_,?_,fun k h=>?_,hr.xlt⟩,⟨0,yaa _,yai _,.inl ⟨rfl,_,rfl⟩⟩,fun k hk=>absurd hk (ybg _)⟩
  ·rintro ⟨k,hk,_⟩
   have:=hno' k
   simp only at this
   rw [this] at hk;cases hk
  ·have:=hno' j
   simp only at this
   rw [this] at h;cases h
  ·cases k with
   | succ k=>simp at hb
   | zero =>
    simp only [yaB,ybj] at hb
    subst hb
    exact ⟨⟨rfl,by decide⟩,.inl ⟨hno 0,rfl⟩⟩
  ·rintro b ⟨k,hk,_⟩
   have:=hno' k
   simp only at this
   rw [this] at hk;cases hk
  ·have:=hno' k
   simp only at this
   rw [this] at h;cases h
 ·refine (aaP n hp hn w).mono ?_
  rintro e w' ⟨G,row,g1,g2,g3,rfl,rfl⟩
  have hsize:(w.drew.alloc (.cells row 73)).heap.size=w.heap.size+1:=Array.size_push ..
  have hold:∀ b,b<w.heap.size→(w.drew.alloc (.cells row 73)).heap[b]?=w.heap[b]?:=by
   intro b hb
   simp only [World.alloc,World.drew]
   rw [Array.getElem?_push_lt (by simpa using hb),Array.getElem?_eq_getElem (by simpa using hb)]
  have hnew:(w.drew.alloc (.cells row 73)).heap[w.heap.size]?=some (.cells row 73 (0,0)):=by
   simp only [World.alloc,World.drew]
   simp
  let L0:Loc:={ ρ 0 with real:=true,blk:=w.heap.size,off:=0,sz:=2,room:=G*2 }
  have hloc:∀ k,(if k=0 then L0 else ρ k:Loc).real=true→k=0:=by
   intro k hk
   by_cases h:k=0
   ·exact h
   ·rw [if_neg h,hno k] at hk;cases hk
  have hfr:Fr ρ w (fun k=>if k=0 then L0 else ρ k) (w.drew.alloc (.cells row 73)):=by
   refine ⟨rfl,rfl,rfl,by omega,fun b hb ho=>⟨hold b hb,?_⟩⟩
   rintro ⟨k,hk,hb2⟩
   have:=hloc k hk
   subst this
   simp only [if_pos] at hb2
   have:w.heap.size=b:=hb2
   omega
  refine ⟨_,.sl 0 0 0,[.arr 2 []],fun k=>if k=0 then L0 else ρ k,rfl,⟨⟨rfl,rfl⟩,yai _⟩,hfr,⟨fun j k hjk h1 h2=>?_,fun k hk=>?_,fun k b hb=>?_,?_,fun k h=>?_,hr.xfr hfr⟩,⟨G,yai _,by unfold maxLen;omega,.inr ⟨rfl,by simp [L0],by simp [L0]⟩⟩,fun k hk=>absurd hk (ybg _)⟩
  ·exact absurd ((hloc j h1).trans (hloc k h2).symm) hjk
  ·have:k≠0:=by simp at hk;omega
   simp only [if_neg this]
   exact hno k
  ·cases k with
   | succ k=>simp at hb
   | zero =>
    simp only [yaB,ybj] at hb
    subst hb
    exact ⟨⟨rfl,by decide⟩,.inr ⟨rfl,row,73,hnew,g3,by simp [L0],trivial⟩⟩
  ·rintro b ⟨k,hk,hb2⟩ hX
   have:=hloc k hk
   subst this
   simp only [if_pos] at hb2
   have h3:w.heap.size=b:=hb2
   have:=hr.xlt.1 b hX
   omega
  ·have:=hloc k h
   subst this
   show w.heap.size<_
   omega
theorem yD {L:List (List Sp)} {k:Nat} (h:k<L.length):(L.take (k+1)).flatten=(L.take k).flatten++L[k]:=by
 rw [yaK,yan h,ybV];simp
theorem tS {L:List (List Sp)} {k:Nat}:(L.take k).flatten.length≤L.flatten.length:=by
 conv=>rhs;rw [←ycj k L,ybV,yad]
 omega
theorem Yx (L:List (List Sp)) (hL:L.flatten.length≤4398046511104):Ok 69 [.bro 1 (L.map enL)] (IsA (.sl 0 0 L.flatten.length) [.arr 2 (L.flatten.map enS)]):=by
 refine bW lw69 (by simp) ?_
 unfold c69
 simp -implicitDefEqProofs only [rX,↓rY,aA,↓reduceIte,reduceCtorEq,cxN,aL]
 intro hm
 refine aV (fun k:Nat=>⟨[(11,.i k),(10,.i L.length),(9,.bro 1 (L.map enL)),(3,.i (L.take k).flatten.length),(0,.bro 1 (L.map enL))],[],0⟩) (fun k=>k≤L.length) (fun k=>L.length-k) 0 (by omega) ?_ ?_
 ·simp -implicitDefEqProofs only [rX,↓reduceIte,Nat.reduceEqDiff,reduceCtorEq,leE,leH,aC,wfE,wfB,wfV,yaL,List.flatten_nil]
 rintro k hk
 have hle:=tS (L:=L) (k:=k)
 unfold c69l0
 simp -implicitDefEqProofs only [rX,↓rY,aA,↓reduceIte,Nat.reduceEqDiff,reduceCtorEq,leE,leH,aC,wfE,wfB,wfV,yar,yaf,Ti]
 simp only [br,decide_eq_true_eq,decide_eq_false_iff_not]
 refine ⟨fun h=>?_,fun h=>?_⟩
 ·have hk':k<L.length:=by omega
  have hle2:=tS (L:=L) (k:=k+1)
  have hf:=yD hk'
  refine ⟨⟨by omega,h⟩,hk',?_⟩
  intro hm2
  have hfl:(L.take (k+1)).flatten.length=(L.take k).flatten.length+L[k].length:=by rw [hf,yad]
  refine ⟨by simp only [lo,hi];omega,fun hneg=>absurd hneg (by omega),fun _=>⟨by simp only [lo,hi,maxLen] at *;omega,k+1,⟨by omega,by omega⟩,?_⟩⟩
  rw [hfl]
  simp
 ·rw [yab (by omega)]
  refine dM [.nil,.i L.flatten.length] (.sl 0 0 0) (.sl 0 0 0) [.arr 2 []] [.arr 2 []] (Zw _ hL) ⟨⟨trivial,trivial,trivial⟩,rfl,rfl,trivial⟩ (by simp [ren]) (by simp [bJ]) trivial ?_
  simp -implicitDefEqProofs only [rX,↓rY,aA,↓reduceIte,reduceCtorEq]
  intro hm2
  refine aV (fun k:Nat=>⟨[(27,.i k),(26,.i L.length),(25,.bro 1 (L.map enL)),(6,.sl 0 0 (L.take k).flatten.length)],[.arr 2 ((L.take k).flatten.map enS)],0⟩) (fun k=>k≤L.length) (fun k=>L.length-k) 0 (by omega) ?_ ?_
  ·simp -implicitDefEqProofs only [rX,↓reduceIte,Nat.reduceEqDiff,leE,leH,leB,aC,aB,wfE,wfB,wfV,yaL,List.flatten_nil]
  rintro k hk
  have hle:=tS (L:=L) (k:=k)
  unfold c69l1
  simp -implicitDefEqProofs only [rX,↓rY,aA,↓reduceIte,Nat.reduceEqDiff,Nat.reduceAdd,aU,aY,leE,leH,leB,aC,aB,wfE,wfB,wfV,aP,aS,kill,St.kill,Nat.reduceLeDiff,yar,yaf,Ti,bT]
  simp only [br,decide_eq_true_eq,decide_eq_false_iff_not]
  refine ⟨fun h=>?_,fun h=>?_⟩
  ·have hk':k<L.length:=by omega
   have hle2:=tS (L:=L) (k:=k+1)
   have hf:=yD hk'
   have hfl:(L.take (k+1)).flatten.length=(L.take k).flatten.length+L[k].length:=by rw [hf,yad]
   refine ⟨⟨by omega,h⟩,hk',by simp,by omega,by simp only [lo,hi,maxLen] at *;omega,k+1,⟨by omega,by omega⟩,?_⟩
   have htk:yac (L.take k).flatten.length ((L.take k).flatten.map enS)=(L.take k).flatten.map enS:=yab (by rw [yaj];exact yaa _)
   rw [htk,hfl,hf,yaq]
   exact ⟨⟨by simp,rfl⟩,rfl⟩
  ·rw [yab (by omega)]
   exact ⟨rfl,rfl⟩
end Go.Fx.H
namespace Go.Fx.R
open Go
def srt (l:List Int):List Int:=l.mergeSort fun x y=>decide (x≤y)
theorem y0 {l:List Int}:(srt l).length=l.length:=List.length_mergeSort ..
abbrev Asc (l:List Int):Prop:=l.Pairwise (·<·)
theorem Om {d:Array Int} (hs:∀ i j,i≤j→j<d.size→d[i]!≤d[j]!):∀ m,m≤d.size→Asc (Lib.compactUpTo d m)∧∀ x,x∈Lib.compactUpTo d m↔∃ j,j<m∧d[j]! = x
 | 0,_=>by
  constructor
  ·simp [Lib.compactUpTo,Asc]
  ·intro x;simp [Lib.compactUpTo]
 | m+1,hm=>by
  obtain ⟨h1,h2⟩:=Om hs m (by omega)
  rw [Lib.compactUpTo_succ]
  by_cases hk:Lib.keeps d m=true
  ·rw [if_pos hk]
   constructor
   ·rw [Asc,ycg]
    refine ⟨h1,by simp,fun x hx y hy=>?_⟩
    rw [yap] at hy
    subst hy
    obtain ⟨j,hj,rfl⟩:=(h2 x).1 hx
    have h3:=hs j m (by omega) (by omega)
    simp only [Lib.keeps,decide_eq_true_eq] at hk
    rcases hk with hk|hk
    ·omega
    ·have h4:=hs j (m-1) (by omega) (by omega)
     have h5:=hs (m-1) m (by omega) (by omega)
     omega
   ·intro x
    rw [yao,yap,h2]
    constructor
    ·rintro (⟨j,hj,he⟩|he)
     ·exact ⟨j,by omega,he⟩
     ·exact ⟨m,by omega,he.symm⟩
    ·rintro ⟨j,hj,he⟩
     by_cases hjm:j=m
     ·subst hjm;exact .inr he.symm
     ·exact .inl ⟨j,by omega,he⟩
  ·rw [if_neg hk,yak]
   refine ⟨h1,fun x=>?_⟩
   rw [h2]
   simp only [Lib.keeps,decide_eq_true_eq,not_or,ne_eq,Decidable.not_not] at hk
   constructor
   ·rintro ⟨j,hj,he⟩
    exact ⟨j,by omega,he⟩
   ·rintro ⟨j,hj,he⟩
    by_cases hjm:j=m
    ·subst hjm
     exact ⟨j-1,by omega,by rw [←hk.2];exact he⟩
    ·exact ⟨j,by omega,he⟩
theorem Uk {l:List Int}:(srt l).Pairwise (·≤·):=by
 have:=List.pairwise_mergeSort (le:=fun x y:Int=>decide (x≤y)) (fun a b c h1 h2=>by simp at *;omega) (fun a b=>by simp;omega) l
 exact this.imp fun h=>by simpa using h
theorem Hw {l:List Int} {x:Int}:x∈srt l↔x∈l:=List.mem_mergeSort
def uni (l:List Int):List Int:=Lib.compact (srt l)
theorem jL {l:List Int}:Asc (uni l)∧∀ x,x∈uni l↔x∈l:=by
 have hs:∀ i j,i≤j→j<(srt l).toArray.size→(srt l).toArray[i]!≤(srt l).toArray[j]!:=fun i j hij hj=>by
  have hj':j<(srt l).length:=by simpa using hj
  rw [getElem!_pos (srt l).toArray i (by simp;omega),getElem!_pos (srt l).toArray j (by simpa using hj')]
  simp only [ycn]
  by_cases he:i=j
  ·subst he;exact Int.le_refl _
  ·exact (ybi.1 Uk) i j (by omega) hj' (by omega)
 obtain ⟨h1,h2⟩:=Om hs (srt l).length (by simp)
 refine ⟨h1,fun x=>?_⟩
 rw [uni,Lib.compact,h2]
 constructor
 ·rintro ⟨j,hj,he⟩
  rw [getElem!_pos (srt l).toArray j (by simpa using hj)] at he
  simp only [ycn] at he
  have:x∈srt l:=he▸ybk hj
  rwa [Hw] at this
 ·intro h
  have:x∈srt l:=by rw [Hw];exact h
  obtain ⟨j,hj,he⟩:=ybB this
  refine ⟨j,hj,?_⟩
  rw [getElem!_pos (srt l).toArray j (by simpa using hj)]
  simpa using he
theorem tV {l:List Int}:(Lib.compact l).length≤l.length:=by
 have h:=yco (Lib.keeps l.toArray) (yay l.length)
 rw [List.length_range] at h
 simpa [Lib.compact,Lib.compactUpTo] using h
theorem Qh {l:List Int}:(uni l).length≤l.length:=by
 have h1:=tV (l:=srt l)
 rw [y0] at h1
 exact h1
def dG (l:List Sp):List Int:=l.flatMap fun s=>[s.1,s.2]
theorem mI {l:List Sp} {x:Int}:x∈dG l↔∃ s∈l,x=s.1∨x=s.2:=by
 simp only [dG,List.mem_flatMap,yaw,yaG,or_false]
theorem pS:∀ {l:List Sp},(dG l).length=2*l.length
 | []=>rfl
 | s::l=>by
  have:=pS (l:=l)
  unfold dG at *
  rw [ybN,yad,this,yas]
  simp;omega
def b8 (a b:List Sp):List Int:=uni (dG (a++b))
def pieces:List Int→List Sp
 | x::y::r=>(x,y)::pieces (y::r)
 | _=>[]
theorem fQ:∀ {E:List Int},(pieces E).length=E.length-1
 | []=>rfl
 | [_]=>rfl
 | x::y::r=>by
  have:=fQ (E:=y::r)
  simp only [pieces,yas] at *
  omega
theorem lH:∀ {E:List Int} {k:Nat} (h:k<(pieces E).length),(pieces E)[k]=(E[k]'(by rw [fQ] at h;omega),E[k+1]'(by rw [fQ] at h;omega))
 | [],k,h=>by simp [pieces] at h
 | [_],k,h=>by simp [pieces] at h
 | x::y::r,0,h=>rfl
 | x::y::r,k+1,h=>by
  have:=lH (E:=y::r) (k:=k) (by simpa [pieces] using h)
  simpa [pieces] using this
theorem lI:∀ {E:List Int} {x u v:Int},Asc E→u∈E→v∈E→u≤x→x<v→∃ s∈pieces E,s.1≤x∧x<s.2
 | [],_,u,_,_,hu,_,_,_=>by simp at hu
 | [a],_,u,v,_,hu,hv,h1,h2=>by
  simp at hu hv;omega
 | a::b::r,x,u,v,h,hu,hv,h1,h2=>by
  obtain ⟨h3,h4⟩:=ybL.1 h
  by_cases c:x<b
  ·refine ⟨(a,b),by simp [pieces],?_,c⟩
   rcases yaw.1 hu with rfl|hu
   ·exact h1
   ·have:=h3 u hu;simp only;omega
  ·have hvb:v∈b::r:=by
    rcases yaw.1 hv with rfl|hv
    ·have:=h3 b (by simp);omega
    ·exact hv
   obtain ⟨s,hs,h5⟩:=lI h4 (u:=b) (by simp) hvb (by omega) h2
   exact ⟨s,by simp [pieces,hs],h5⟩
theorem rP {E:List Int} (h:Asc E) {s:Sp} (hs:s∈pieces E):s.1<s.2∧s.1∈E∧s.2∈E∧∀ e∈E,e≤s.1∨s.2≤e:=by
 obtain ⟨k,hk,rfl⟩:=ybB hs
 rw [lH hk]
 have hk':=hk
 rw [fQ] at hk'
 have hp:=ybi.1 h
 refine ⟨hp k (k+1) (by omega) (by omega) (by omega),ybk _,ybk _,fun e he=>?_⟩
 obtain ⟨j,hj,rfl⟩:=ybB he
 rcases yax k j with c|c
 ·right
  rcases yax (k+1) j with c2|c2
  ·have:=hp (k+1) j (by omega) hj c2;simp only;omega
  ·have:j=k+1:=by omega
   subst this;simp only;omega
 ·left
  rcases yax j k with c2|c2
  ·have:=hp j k (by omega) (by omega) c2;simp only;omega
  ·have:j=k:=by omega
   subst this;simp only;omega
def hasB (l:List Sp) (x:Int):Bool:=l.any fun s=>decide (s.1≤x)&&decide (x<s.2)
theorem eC {l:List Sp} {x:Int}:hasB l x=true↔inS l x:=by
 simp only [hasB,List.any_eq_true,yaR,decide_eq_true_eq,inS]
theorem Df {E:List Int} (h:Asc E) {a:List Sp} (ha:∀ s∈a,s.1∈E∧s.2∈E) {s:Sp} (hs:s∈pieces E) {x:Int} (h1:s.1≤x) (h2:x<s.2):inS a x↔inS a s.1:=by
 obtain ⟨p1,p2,p3,p4⟩:=rP h hs
 constructor
 ·rintro ⟨t,ht,h3,h4⟩
  have a1:=p4 _ (ha t ht).1
  have a2:=p4 _ (ha t ht).2
  exact ⟨t,ht,by omega,by omega⟩
 ·rintro ⟨t,ht,h3,h4⟩
  have a2:=p4 _ (ha t ht).2
  exact ⟨t,ht,by omega,by omega⟩
theorem j2 {a b:List Sp}:Asc (b8 a b):=jL.1
theorem Fw {a b:List Sp}:∀ s∈a,s.1∈b8 a b∧s.2∈b8 a b:=fun s hs=>by
 unfold b8
 rw [jL.2,jL.2,mI,mI]
 exact ⟨⟨s,by simp [hs],.inl rfl⟩,⟨s,by simp [hs],.inr rfl⟩⟩
theorem Fv {a b:List Sp}:∀ s∈b,s.1∈b8 a b∧s.2∈b8 a b:=fun s hs=>by
 unfold b8
 rw [jL.2,jL.2,mI,mI]
 exact ⟨⟨s,by simp [hs],.inl rfl⟩,⟨s,by simp [hs],.inr rfl⟩⟩
theorem Nk {a b:List Sp} {f:Bool→Bool→Bool} (hf:f false false=false) {x:Int}:inS ((pieces (b8 a b)).filter fun s=>f (hasB a s.1) (hasB b s.1)) x↔f (hasB a x) (hasB b x)=true:=by
 have heq:∀ s∈pieces (b8 a b),s.1≤x→x<s.2→hasB a x=hasB a s.1∧hasB b x=hasB b s.1:=fun s hs h1 h2=>by
  constructor
  ·rw [ybs,eC,eC];exact Df j2 Fw hs h1 h2
  ·rw [ybs,eC,eC];exact Df j2 Fv hs h1 h2
 constructor
 ·rintro ⟨s,hs,h1,h2⟩
  rw [ybZ] at hs
  obtain ⟨e1,e2⟩:=heq s hs.1 h1 h2
  rw [e1,e2]
  exact hs.2
 ·intro h
  have hcov:∃ s∈pieces (b8 a b),s.1≤x∧x<s.2:=by
   by_cases ha:hasB a x=true
   ·obtain ⟨t,ht,h1,h2⟩:=eC.1 ha
    exact lI j2 (Fw t ht).1 (Fw t ht).2 h1 h2
   ·by_cases hb:hasB b x=true
    ·obtain ⟨t,ht,h1,h2⟩:=eC.1 hb
     exact lI j2 (Fv t ht).1 (Fv t ht).2 h1 h2
    ·have e1:hasB a x=false:=by simpa using ha
     have e2:hasB b x=false:=by simpa using hb
     rw [e1,e2,hf] at h;cases h
  obtain ⟨s,hs,h1,h2⟩:=hcov
  obtain ⟨e1,e2⟩:=heq s hs h1 h2
  rw [e1,e2] at h
  exact ⟨s,ybZ.2 ⟨hs,h⟩,h1,h2⟩
def Iy (f:Bool→Bool→Bool) (a b:List Sp):List Sp:=ofS ((pieces (b8 a b)).filter fun s=>f (hasB a s.1) (hasB b s.1))
theorem Lo {a b:List Sp} (ha:Sep a):Iy (fun x y=>x&&y) a b=xX a b:=by
 refine Sep.ext fE (xN ha) fun x=>?_
 unfold Iy
 rw [oF,Nk (f:=fun x y=>x&&y) rfl,Dg,yaR,eC,eC]
theorem Ix {a b:List Sp} (ha:Sep a):Iy (fun x y=>x&&!y) a b=i5 a b:=by
 refine Sep.ext fE (nX ha) fun x=>?_
 unfold Iy
 rw [oF,Nk (f:=fun x y=>x&&!y) rfl,nC,yaR,eC,Bool.not_eq_true',←Bool.not_eq_true,eC]
end Go.Fx.R
namespace Go.Fx.H
open Go Go.Fx Go.Proofs Go.Fx.R Go.RowKit
set_option maxRecDepth 20000
theorem n5 {S:Nat→Prop} {w:World} {b:Nat}:∀ {l:List Int} {off:Nat},cC S w 1 b off (l.map encI)→∀ j (h:j<l.length),w.cell? ⟨b,off+j,none⟩=some (.int .i64 l[j])
 | [],_,_,j,h=>by simp at h
 | x::r,off,hr,j,h=>by
  obtain ⟨⟨_,⟨val,h1,h2⟩,_⟩,h3⟩:=hr
  cases j with
  | zero =>
   have:val=.int .i64 x:=h2.1
   subst this;exact h1
  | succ j =>
   have:=n5 h3 j (by simpa using h)
   rw [show off+(j+1)=off+1+j by omega]
   exact this
theorem rL {S:Nat→Prop} {w:World} {b:Nat}:∀ {l:List Int} {off:Nat},(∀ j (h:j<l.length),w.cell? ⟨b,off+j,none⟩=some (.int .i64 l[j]))→cC S w 1 b off (l.map encI)
 | [],_,_=>trivial
 | x::r,off,h=>⟨⟨rfl,⟨_,h 0 (by simp),rfl,rfl⟩,trivial⟩,rL fun j hj=>by
   have:=h (j+1) (by simpa using hj)
   rw [show off+1+j=off+(j+1) by omega]
   exact this⟩
theorem Zo (l:List Int) (hl:l.length<4611686018427387904):OkN Tryz.prog 133 [.sl 0 0 l.length] [.arr 1 (l.map encI)] [] (IsA (.tup []) [.arr 1 ((srt l).map encI)]):=by
 refine ⟨cal Tryz.func133 (by kernel_rfl) (by kernel_rfl),?_⟩
 intro ρ X w vals hr ha
 match vals,ha with
 | [val],⟨hv,_⟩ =>
 obtain ⟨cap,h1,h2,h3⟩:=hv
 rcases h3 with ⟨h4,a,rfl⟩|⟨hre,rfl,hroom⟩
 ·have hl0:l=[]:=ybh.1 (by omega)
  subst hl0
  refine (Tryz.slices_Sort_int_none a 0 w).mono ?_
  rintro e w' ⟨rfl,rfl⟩
  exact ⟨_,.tup [],[.arr 1 []],ρ,rfl,⟨⟨rfl,by simp [srt]⟩,yaa _⟩,Fr.refl _ _,hr,⟨#[],rfl,trivial⟩,fun _ _ _=>rfl⟩
 ·have hb:=hr.blk 0 _ rfl
  obtain ⟨⟨hsz,_⟩,hb|⟨_,c,T,hc,hcs,hlen,hels⟩⟩:=hb
  ·rw [hb.1] at hre;cases hre
  have hoff:(ρ 0).off+0*(ρ 0).sz=(ρ 0).off:=by omega
  rw [hoff]
  rw [yaj] at hlen
  have hg:=fun j hj=>n5 hels j hj
  have hH:Sort.Holds (Value.int .i64) w (ρ 0).blk (ρ 0).off l.toArray:=by
   intro j hj
   have hj':j<l.length:=by simpa using hj
   refine ⟨?_,by simp [World.frozen?,hc]⟩
   rw [hg j hj']
   simp [hj']
  refine (Tryz.slices_Sort_int (ρ 0).blk (ρ 0).off cap l w hH (hr.lt 0 hre) hl).mono ?_
  rintro e w' ⟨rfl,n,os,rfl⟩
  have hbl:=hr.lt 0 hre
  have hsl:(srt l).length=l.length:=y0
  have hw1:(Sort.grow (Sort.putRow (Value.int .i64) (Sort.ahead w n) (ρ 0).blk (ρ 0).off (srt l).toArray) os).heap[(ρ 0).blk]?=some (.cells (Sort.putCells (Value.int .i64) (ρ 0).off (srt l).toArray c) T (0,0)):=by
   simp only [Sort.grow,Sort.putRow,Sort.mapBlock,Sort.ahead]
   rw [ybA (by simpa using hbl),yaW,if_pos rfl,hc]
   rfl
  have hw2:∀ b,b<w.heap.size→b≠(ρ 0).blk→(Sort.grow (Sort.putRow (Value.int .i64) (Sort.ahead w n) (ρ 0).blk (ρ 0).off (srt l).toArray) os).heap[b]?=w.heap[b]?:=by
   intro b hb hne
   simp only [Sort.grow,Sort.putRow,Sort.mapBlock,Sort.ahead]
   rw [ybA (by simpa using hb),yaW,if_neg (fun h=>hne h.symm)]
  have hsize:w.heap.size≤(Sort.grow (Sort.putRow (Value.int .i64) (Sort.ahead w n) (ρ 0).blk (ρ 0).off (srt l).toArray) os).heap.size:=by
   simp [Sort.grow,Sort.putRow,Sort.mapBlock,Sort.ahead]
  have hfr:Fr ρ w ρ (Sort.grow (Sort.putRow (Value.int .i64) (Sort.ahead w n) (ρ 0).blk (ρ 0).off (srt l).toArray) os):=⟨rfl,rfl,rfl,hsize,fun b hb ho=>⟨hw2 b hb fun h=>ho ⟨0,hre,h.symm⟩,ho⟩⟩
  have hcell:∀ j (hj:j<l.length),(Sort.grow (Sort.putRow (Value.int .i64) (Sort.ahead w n) (ρ 0).blk (ρ 0).off (srt l).toArray) os).cell? ⟨(ρ 0).blk,(ρ 0).off+j,none⟩=some (.int .i64 ((srt l)[j]'(by rw [hsl];exact hj))):=by
   intro j hj
   have hjc:(ρ 0).off+j<c.size:=by rw [hcs];rw [hsz] at hroom;omega
   simp only [World.cell?,hw1]
   simp [Sort.putCells,hjc,hsl,hj]
  refine ⟨_,.tup [],[.arr 1 ((srt l).map encI)],ρ,rfl,⟨⟨rfl,rfl⟩,yaa _⟩,hfr,⟨hr.inj,hr.out,fun k b hk=>?_,hr.disj,fun k hk=>ybY (hr.lt k hk) hsize,hr.xfr hfr⟩,⟨#[],rfl,trivial⟩,fun _ _ _=>rfl⟩
  cases k with
  | succ k=>simp at hk
  | zero =>
   simp only [yaB,ybj] at hk
   subst hk
   refine ⟨⟨hsz,by omega⟩,.inr ⟨hre,_,T,hw1,by simp [Sort.putCells,hcs],by rw [yaj,hsl];exact hlen,rL fun j hj=>?_⟩⟩
   rw [hsl] at hj
   exact hcell j hj
theorem Zn (l:List Int) (hl:l.length<4611686018427387904):OkN Tryz.prog 134 [.sl 0 0 l.length] [.arr 1 (l.map encI)] [] (IsA (.sl 0 0 (Lib.compact l).length) [.arr 1 ((Lib.compact l++yah (l.length-(Lib.compact l).length) 0).map encI)]):=by
 refine ⟨cal Tryz.func134 (by kernel_rfl) (by kernel_rfl),?_⟩
 intro ρ X w vals hr ha
 match vals,ha with
 | [val],⟨hv,_⟩ =>
 obtain ⟨cap,h1,h2,h3⟩:=hv
 rcases h3 with ⟨h4,a,rfl⟩|⟨hre,rfl,hroom⟩
 ·have hl0:l=[]:=ybh.1 (by omega)
  subst hl0
  refine (Tryz.slices_Compact_int_empty a 0 w).mono ?_
  rintro e w' ⟨rfl,rfl⟩
  refine ⟨_,.sl 0 0 0,[.arr 1 []],ρ,rfl,⟨⟨rfl,rfl⟩,yaa _⟩,Fr.refl _ _,hr,?_,fun _ _ _=>rfl⟩
  exact ⟨0,yaa _,yai _,.inl ⟨rfl,a,rfl⟩⟩
 ·have hb:=hr.blk 0 _ rfl
  obtain ⟨⟨hsz,_⟩,hb|⟨_,c,T,hc,hcs,hlen,hels⟩⟩:=hb
  ·rw [hb.1] at hre;cases hre
  have hoff:(ρ 0).off+0*(ρ 0).sz=(ρ 0).off:=by omega
  rw [hoff]
  rw [yaj] at hlen
  have hg:=fun j hj=>n5 hels j hj
  have hH:Sort.Holds (Value.int .i64) w (ρ 0).blk (ρ 0).off l.toArray:=by
   intro j hj
   have hj':j<l.length:=by simpa using hj
   refine ⟨?_,by simp [World.frozen?,hc]⟩
   rw [hg j hj']
   simp [hj']
  refine (Tryz.slices_Compact_int (ρ 0).blk (ρ 0).off cap l w hH (by omega) (by simpa using h1)).mono ?_
  rintro e w' ⟨rfl,q,rfl⟩
  have hbl:=hr.lt 0 hre
  generalize hL:Lib.compact l++yah (l.length-(Lib.compact l).length) 0=L
  have hsl:L.length=l.length:=by
   rw [←hL,yad,ych]
   have:=tV (l:=l)
   omega
  have hw1:(Sort.putRow (Value.int .i64) (Sort.ahead w q) (ρ 0).blk (ρ 0).off L.toArray).heap[(ρ 0).blk]?=some (.cells (Sort.putCells (Value.int .i64) (ρ 0).off L.toArray c) T (0,0)):=by
   simp only [Sort.putRow,Sort.mapBlock,Sort.ahead]
   rw [yaW,if_pos rfl,hc]
   rfl
  have hw2:∀ b,b<w.heap.size→b≠(ρ 0).blk→(Sort.putRow (Value.int .i64) (Sort.ahead w q) (ρ 0).blk (ρ 0).off L.toArray).heap[b]?=w.heap[b]?:=by
   intro b hb hne
   simp only [Sort.putRow,Sort.mapBlock,Sort.ahead]
   rw [yaW,if_neg (fun h=>hne h.symm)]
  have hsize:w.heap.size≤(Sort.putRow (Value.int .i64) (Sort.ahead w q) (ρ 0).blk (ρ 0).off L.toArray).heap.size:=by
   simp [Sort.putRow,Sort.mapBlock,Sort.ahead]
  have hfr:Fr ρ w ρ (Sort.putRow (Value.int .i64) (Sort.ahead w q) (ρ 0).blk (ρ 0).off L.toArray):=⟨rfl,rfl,rfl,hsize,fun b hb ho=>⟨hw2 b hb fun h=>ho ⟨0,hre,h.symm⟩,ho⟩⟩
  have hcell:∀ j (hj:j<l.length),(Sort.putRow (Value.int .i64) (Sort.ahead w q) (ρ 0).blk (ρ 0).off L.toArray).cell? ⟨(ρ 0).blk,(ρ 0).off+j,none⟩=some (.int .i64 (L[j]'(by rw [hsl];exact hj))):=by
   intro j hj
   have hjc:(ρ 0).off+j<c.size:=by rw [hcs];rw [hsz] at hroom;omega
   simp only [World.cell?,hw1]
   simp [Sort.putCells,hjc,hsl,hj]
  refine ⟨_,.sl 0 0 (Lib.compact l).length,[.arr 1 (L.map encI)],ρ,rfl,⟨⟨rfl,rfl⟩,yaa _⟩,hfr,⟨hr.inj,hr.out,fun k b hk=>?_,hr.disj,fun k hk=>ybY (hr.lt k hk) hsize,hr.xfr hfr⟩,?_,fun _ _ _=>rfl⟩
  ·cases k with
   | succ k=>simp at hk
   | zero =>
    simp only [yaB,ybj] at hk
    subst hk
    refine ⟨⟨hsz,by omega⟩,.inr ⟨hre,_,T,hw1,by simp [Sort.putCells,hcs],by rw [yaj,hsl];exact hlen,rL fun j hj=>?_⟩⟩
    rw [hsl] at hj
    exact hcell j hj
  ·have hcl:=tV (l:=l)
   exact ⟨cap,by omega,h2,.inr ⟨hre,by simp,hroom⟩⟩
end Go.Fx.H
namespace Go.Fx.H
open Go Go.Fx Go.Proofs Go.Fx.R
set_option maxRecDepth 20000
abbrev hpM (A B o:List Sp):List Blk:=[.var [.sl 4 0 o.length],.var [aG A],.var [aG B],.rcd .ready [(5,.ptr 0 0 0)],.arr 2 (o.map enS)]
structure E94 (A B:List Sp) (i j n:Nat) (e:Env):Prop where
 e0:get e 0=.itr 3
 e1:get e 1=.ptr 1 0 0
 e2:get e 2=.ptr 2 0 0
 e4:get e 4=.ro 1 ((b8 A B).map encI)
 e7:get e 7=.i i
 e8:get e 8=.i j
 e9:get e 9=.i n
structure Past (A:List Sp) (i:Nat) (x:Int):Prop where
 l:i≤A.length
 h:∀ j (hj:j<A.length),j<i→A[j].2≤x
theorem Past.mono {A:List Sp} {i:Nat} {x y:Int} (h:Past A i x) (hxy:x≤y):Past A i y:=⟨h.l,fun j hj hlt=>Int.le_trans (h.h j hj hlt) hxy⟩
section
variable {A B:List Sp} {fx:List Nat} {Y:Yt} {K:List Blk→Prop} {Inv:Nat→List Sp→Prop}
structure EN (E:List Int) (i j n:Nat) (e:Env):Prop where
 e0:get e 0=.itr 3
 e1:get e 1=.ptr 1 0 0
 e2:get e 2=.ptr 2 0 0
 e4:get e 4=.ro 1 (E.map encI)
 e7:get e 7=.i i
 e8:get e 8=.i j
 e9:get e 9=.i n
 e10:get e 10=.ptr 5 0 0
structure At (A:List Sp) (i:Nat) (x:Int):Prop extends Past A i x where
 s:∀ h:i<A.length,x<A[i].2
theorem At.has {A:List Sp} {i:Nat} {x:Int} (hA:Sep A) (h:At A i x):hasB A x=if h:i<A.length then decide (A[i].1≤x) else false:=by
 have hp:=ybi.1 hA.2
 rw [ybs,eC]
 constructor
 ·rintro ⟨s,hs,h1,h2⟩
  obtain ⟨k,hk,rfl⟩:=ybB hs
  rcases Nat.lt_trichotomy k i with c|c|c
  ·have:=h.h k hk c;omega
  ·subst c;rw [dif_pos hk];simpa using h1
  ·have:=hp i k (by omega) hk c
   have:=h.s (by omega)
   omega
 ·intro hh
  split at hh
  ·rename_i hi
   exact ⟨A[i],ybk hi,by simpa using hh,h.s hi⟩
  ·cases hh
theorem aaH {X:Nat→St→Prop} {R:St→Prop} {E:List Int} {o:List Sp} {a b:Int} {n i j bb:Nat} {e:Env} (hm:A.length≤maxLen) (he:EN E i j n e) (hP:Past A i a)
  (hX:∀ i' e' b',At A i' a→EN E i' j n e'→X 4 ⟨e',hpM A B o++[.var [.i a,.i b]],b'⟩) :
  sQ [3] (fun N=>aw ⟨C0 Tryz.prog,[3],[],I0 Tryz.prog,fun k' xs s Z=>k'=3∧Y xs s Z,none⟩ c132l2 N X R) ⟨e,hpM A B o++[.var [.i a,.i b]],bb⟩:=by
 have e0:=he.e0;have e1:=he.e1;have e2:=he.e2;have e4:=he.e4;have e7:=he.e7;have e8:=he.e8;have e9:=he.e9;have e10:=he.e10
 refine aV (fun i:Nat=>⟨[(10,.ptr 5 0 0),(9,.i n),(8,.i j),(7,.i i),(4,.ro 1 (E.map encI)),(2,.ptr 2 0 0),(1,.ptr 1 0 0),(0,.itr 3)],hpM A B o++[.var [.i a,.i b]],0⟩) (fun i=>Past A i a) (fun i=>A.length-i) i hP ?_ ?_
 ·simp -implicitDefEqProofs only [rX,↓reduceIte,leE,leH,leB,leV,c7,aC,aB,wfE,wfB,wfV,wfL,e0,e1,e2,e4,e7,e8,e9,e10,or_true]
 intro i hP
 have hl:=hP.l
 unfold c132l2
 rcases yax i A.length with h1|h1
 ·have hd:decide ((i:Int)<(A.length:Int))=true:=decide_eq_true (by omega)
  cases h2:decide (A[i].2≤a) with
  | true =>
   simp -implicitDefEqProofs only [rX,↓rY,aA,↓reduceIte,Nat.reduceEqDiff,Nat.reduceAdd,reduceCtorEq,leE,leH,leB,leV,c7,aC,aB,wfE,wfB,wfV,wfL,yar,yaf,j0,hd,h2]
   refine fun _=>⟨⟨by omega,by omega⟩,h1,by simp only [lo,hi,maxLen] at *;omega,i+1,⟨⟨by omega,fun k hk hlt=>?_⟩,by omega⟩,by simp⟩
   by_cases c:k=i
   ·subst c;simpa using h2
   ·exact hP.h k hk (by omega)
  | false =>
   simp -implicitDefEqProofs only [rX,↓rY,↓reduceIte,Nat.reduceEqDiff,Nat.reduceAdd,yar,yaf,j0,hd,h2]
   refine fun _=>⟨⟨by omega,by omega⟩,h1,hX i _ _ ⟨hP,fun _=>by simpa using h2⟩ ⟨rfl,rfl,rfl,rfl,rfl,rfl,rfl,rfl⟩⟩
 ·have hd:decide ((i:Int)<(A.length:Int))=false:=decide_eq_false (by omega)
  simp -implicitDefEqProofs only [rX,↓rY,aA,↓reduceIte,Nat.reduceEqDiff,Nat.reduceAdd,hd]
  exact fun _=>hX i _ _ ⟨hP,fun h=>absurd h (by omega)⟩ ⟨rfl,rfl,rfl,rfl,rfl,rfl,rfl,rfl⟩
theorem aaG {X:Nat→St→Prop} {R:St→Prop} {E:List Int} {o:List Sp} {a b:Int} {n i j bb:Nat} {e:Env} (hm:B.length≤maxLen) (he:EN E i j n e) (hP:Past B j a)
  (hX:∀ j' e' b',At B j' a→EN E i j' n e'→X 6 ⟨e',hpM A B o++[.var [.i a,.i b]],b'⟩) :
  sQ [3] (fun N=>aw ⟨C0 Tryz.prog,[3],[],I0 Tryz.prog,fun k' xs s Z=>k'=3∧Y xs s Z,none⟩ c132l3 N X R) ⟨e,hpM A B o++[.var [.i a,.i b]],bb⟩:=by
 have e0:=he.e0;have e1:=he.e1;have e2:=he.e2;have e4:=he.e4;have e7:=he.e7;have e8:=he.e8;have e9:=he.e9;have e10:=he.e10
 refine aV (fun j:Nat=>⟨[(10,.ptr 5 0 0),(9,.i n),(8,.i j),(7,.i i),(4,.ro 1 (E.map encI)),(2,.ptr 2 0 0),(1,.ptr 1 0 0),(0,.itr 3)],hpM A B o++[.var [.i a,.i b]],0⟩) (fun j=>Past B j a) (fun j=>B.length-j) j hP ?_ ?_
 ·simp -implicitDefEqProofs only [rX,↓reduceIte,leE,leH,leB,leV,c7,aC,aB,wfE,wfB,wfV,wfL,e0,e1,e2,e4,e7,e8,e9,e10,or_true]
 intro j hP
 have hl:=hP.l
 unfold c132l3
 rcases yax j B.length with h1|h1
 ·have hd:decide ((j:Int)<(B.length:Int))=true:=decide_eq_true (by omega)
  cases h2:decide (B[j].2≤a) with
  | true =>
   simp -implicitDefEqProofs only [rX,↓rY,aA,↓reduceIte,Nat.reduceEqDiff,Nat.reduceAdd,reduceCtorEq,leE,leH,leB,leV,c7,aC,aB,wfE,wfB,wfV,wfL,yar,yaf,j0,hd,h2]
   refine fun _=>⟨⟨by omega,by omega⟩,h1,by simp only [lo,hi,maxLen] at *;omega,j+1,⟨⟨by omega,fun k hk hlt=>?_⟩,by omega⟩,by simp⟩
   by_cases c:k=j
   ·subst c;simpa using h2
   ·exact hP.h k hk (by omega)
  | false =>
   simp -implicitDefEqProofs only [rX,↓rY,↓reduceIte,Nat.reduceEqDiff,Nat.reduceAdd,yar,yaf,j0,hd,h2]
   refine fun _=>⟨⟨by omega,by omega⟩,h1,hX j _ _ ⟨hP,fun _=>by simpa using h2⟩ ⟨rfl,rfl,rfl,rfl,rfl,rfl,rfl,rfl⟩⟩
 ·have hd:decide ((j:Int)<(B.length:Int))=false:=decide_eq_false (by omega)
  simp -implicitDefEqProofs only [rX,↓rY,aA,↓reduceIte,Nat.reduceEqDiff,Nat.reduceAdd,hd]
  exact fun _=>hX j _ _ ⟨hP,fun h=>absurd h (by omega)⟩ ⟨rfl,rfl,rfl,rfl,rfl,rfl,rfl,rfl⟩
theorem Th (hA:Vd A) (hB:Vd B) (hfx:fx=[3])
  (hY:∀ n o (hn:n<(pieces (b8 A B)).length),Inv n o→∀ (e:Env) (bb:Nat) (Z:V→St→Prop) (i j:Nat),E94 A B i j (n+1) e →
   (∀ e' o' tl,E94 A B i j (n+1) e'→Inv (n+1) o'→Z (.b true) ⟨e',hpM A B o'++tl,bb⟩) →
   Y [.agg (enS (pieces (b8 A B))[n]),.agg [.b (hasB A (pieces (b8 A B))[n].1),.b (hasB B (pieces (b8 A B))[n].1)]] ⟨e,hpM A B o++[.var (enS (pieces (b8 A B))[n])],bb⟩ Z)
  (hK:∀ o,Inv (pieces (b8 A B)).length o→K (hpM A B o)) (o:List Sp) (ho:Inv 0 o) :
  I0 Tryz.prog 132 [.itr 3,.ptr 1 0 0,.ptr 2 0 0] fx 3 Y (hpM A B o) K:=by
 refine Fk pol fx lw132 (by simp) ?_
 subst hfx
 have hal:=hA.len
 have hbl:=hB.len
 unfold c132
 simp -implicitDefEqProofs only [rX,↓rY,aA,cells?,↓reduceIte,Nat.reduceEqDiff,Nat.reduceAdd,reduceCtorEq,aD,bU,isD,Nat.reduceLT,aL]
 refine dM [.bro 1 ([A,B].map enL)] (.sl 0 0 (A++B).length) (.sl 6 0 (A++B).length) [.arr 2 ((A++B).map enS)] [.arr 2 ((A++B).map enS)] ?_ ?_ ?_ ?_ ?_ ?_
 ·have:=Yx [A,B] (by simp;omega)
  rw [show [A,B].flatten=A++B by simp] at this
  exact this
 ·simp [aM,bG,aX,cY,wkL,wk,wkB,blk,enL]
 ·simp [ren]
 ·simp [bJ]
 ·simp [aC,aB]
 simp -implicitDefEqProofs only [rX,↓rY,aA,↓reduceIte]
 intro hm
 rw [←yad] at *
 have hcl:(A++B).length≤2199023255552:=by rw [yad];omega
 have hbd:∀ s∈A++B,(0≤s.1∧s.1≤1099511627776)∧0≤s.2∧s.2≤1099511627776:=fun s hs=>(yao.1 hs).elim (hA.2 s) (hB.2 s)
 have hE:b8 A B=Lib.compact (srt (dG (A++B))):=rfl
 generalize hC:A++B=C at *
 refine eV (.virt 1 1 (by decide) (.nilE 4 7 rfl (.refl _))) (fun k:Nat=>⟨[(16,.i k),(15,.i C.length),(14,.sl 6 0 C.length),(4,.sl 7 0 (dG (C.take k)).length),(2,.ptr 2 0 0),(1,.ptr 1 0 0),(0,.itr 3)],hpM A B o++[.dead,.arr 2 (C.map enS),.arr 1 ((dG (C.take k)).map encI)],0⟩) (fun k=>k≤C.length) (fun k=>C.length-k) 0 (by omega) ?_ ?_
 ·simp -implicitDefEqProofs only [rX,↓reduceIte,Nat.reduceEqDiff,reduceCtorEq,leE,leH,leB,leV,c7,aC,aB,wfE,wfB,wfV,wfL,yaL,yaz,dG,List.flatMap_nil,or_true]
 intro k hk
 have hel:(dG (C.take k)).length=2*k:=by rw [pS,yaJ];omega
 unfold c132l0
 rcases yax k C.length with hk1|hk1
 ·have hd:decide ((k:Int)<(C.length:Int))=true:=decide_eq_true (by omega)
  have hst:dG (C.take (k+1))=dG (C.take k)++[C[k].1,C[k].2]:=by
   unfold dG
   rw [yaK,yan hk1,List.flatMap_append];simp
  simp -implicitDefEqProofs only [rX,↓rY,aA,cells?,splice,↓reduceIte,Nat.reduceEqDiff,fK,Nat.reduceAdd,reduceCtorEq,aD,bU,leE,leH,leB,leV,c7,aC,aB,wfE,wfB,wfV,wfL,aP,aS,kill,a8,St.kill,isD,Nat.reduceLT,yar,yaf,bE,bR,pT,j0,fH,dH,hd]
  have htk:yac (dG (C.take k)).length ((dG (C.take k)).map encI)=(dG (C.take k)).map encI:=yab (by rw [yaj];exact yaa _)
  refine ⟨⟨by omega,by omega⟩,hk1,by omega,by simp only [lo,hi];omega,k+1,⟨by omega,by omega⟩,?_⟩
  rw [htk,hst,yad,yaq]
  exact ⟨⟨by simp,rfl⟩,.inl trivial,rfl⟩
 ·have hd:decide ((k:Int)<(C.length:Int))=false:=decide_eq_false (by omega)
  rw [yab hk1]
  have hel2:(dG C).length=2*C.length:=pS
  simp -implicitDefEqProofs only [rX,↓rY,↓reduceIte,Nat.reduceEqDiff,Nat.reduceAdd,hd]
  refine eF [7] [.sl 0 0 (dG C).length] (.tup []) (.tup []) [.arr 1 ((dG C).map encI)] [.arr 1 ((srt (dG C)).map encI)] _ (Zo (dG C) (by omega)) (by simp) (by simp [blk,bJ]) (by simp [aM,bG,aX,cY,wkL,wk,pos]) (by simp) rfl rfl (by simp [aC,aB,bM,bJ]) ?_
  simp -implicitDefEqProofs only [rX,↓reduceIte,Nat.reduceEqDiff,Nat.reduceAdd,bM,bJ]
  have hsl:(srt (dG C)).length=(dG C).length:=y0
  have h97:=Zn (srt (dG C)) (by omega)
  rw [←hE] at h97
  have hEl:(b8 A B).length≤(dG C).length:=by rw [←hsl,hE];exact tV
  generalize hZ:b8 A B++yah ((srt (dG C)).length-(b8 A B).length) 0=Z at h97
  have hZt:yac (b8 A B).length (Z.map encI)=(b8 A B).map encI:=by
   rw [←hZ,yaq,List.take_left' (by simp)]
  have hZl:(b8 A B).length≤Z.length:=by rw [←hZ];simp
  rw [←hsl]
  refine eF [7] [.sl 0 0 (srt (dG C)).length] (.sl 0 0 (b8 A B).length) (.sl 7 0 (b8 A B).length) [.arr 1 ((srt (dG C)).map encI)] [.arr 1 (Z.map encI)] _ h97 (by simp) (by simp [blk,bJ]) (by simp [aM,bG,aX,cY,wkL,wk,pos]) (by simp) rfl (by simp [ren,back]) (by simp [aC,aB,bM,bJ]) ?_
  simp -implicitDefEqProofs only [rX,aA,↓reduceIte,Nat.reduceAdd,bM,bJ]
  refine eV (.give (fun k=>k==7) (by simp) (.refl _)) (fun g:(Nat × Nat × Nat) × List Sp=>⟨[(9,.i (g.1.1+1:Nat)),(8,.i g.1.2.2),(7,.i g.1.2.1),(4,.ro 1 ((b8 A B).map encI)),(2,.ptr 2 0 0),(1,.ptr 1 0 0),(0,.itr 3)],hpM A B g.2,0⟩)
   (fun g=>g.1.1≤(pieces (b8 A B)).length∧(∀ h:g.1.1<(pieces (b8 A B)).length,Past A g.1.2.1 (pieces (b8 A B))[g.1.1].1∧Past B g.1.2.2 (pieces (b8 A B))[g.1.1].1)∧Inv g.1.1 g.2) (fun g=>(pieces (b8 A B)).length-g.1.1) ((0,0,0),o) ⟨yai _,fun h=>⟨⟨yai _,fun j hj h=>absurd h (ybg _)⟩,⟨yai _,fun j hj h=>absurd h (ybg _)⟩⟩,ho⟩ ?_ ?_
  ·simp -implicitDefEqProofs only [rX,↓reduceIte,Nat.reduceEqDiff,Nat.reduceAdd,reduceCtorEq,leE,leH,leB,leV,c7,aC,aB,wfE,wfB,wfV,wfL,St.give,gvE,gvV,gvH,gvB,gvL,Nat.reduceBEq]
   rw [if_pos hZl,hZt]
   exact ⟨⟨rfl,rfl,rfl,rfl⟩,.inl trivial⟩
  rintro ⟨⟨n,i,j⟩,o⟩ ⟨hn,hP,hI⟩
  simp only at hn hP hI
  have hpl:=fQ (E:=b8 A B)
  have hasc:Asc (b8 A B):=j2
  generalize hEE:b8 A B=E at *
  unfold c132l1
  rcases yax n (pieces E).length with hn1|hn1
  ·have hd:decide (((n+1:Nat):Int)<(E.length:Int))=true:=decide_eq_true (by omega)
   obtain ⟨hPA,hPB⟩:=hP hn1
   have hg:=lH hn1
   have hlt:=rP hasc (ybk hn1)
   have he1:n<E.length:=by omega
   have he2:n+1<E.length:=by omega
   have hm1:(((n+1:Nat):Int)-1).toNat=n:=by omega
   simp -implicitDefEqProofs only [rX,↓rY,rdK,aA,cells?,splice,↓reduceIte,Nat.reduceEqDiff,Nat.reduceAdd,aD,bY,isC,Nat.reduceLeDiff,yar,yaf,Wr,hd,hm1]
   refine fun hmE=>⟨by simp only [lo,hi,maxLen] at *;omega,⟨by omega,by omega⟩,he1,⟨by omega,by omega⟩,he2,?_⟩
   have hp1:(pieces E)[n].1=E[n]:=by rw [hg]
   have hp2:enS (pieces E)[n]=[.i E[n],.i E[n+1]]:=by rw [hg];rfl
   have hYn:=hY n o hn1 hI
   rw [hp2,hp1] at hYn
   rw [hp1] at hPA hPB
   refine aaH (by simp only [maxLen];omega) ⟨rfl,rfl,rfl,rfl,rfl,rfl,rfl,rfl⟩ hPA ?_
   intro i' e' b1 hAt he'
   simp -implicitDefEqProofs only [rX,↓reduceIte]
   refine aaG (by simp only [maxLen];omega) he' hPB ?_
   clear he'
   intro j' e' b2 hBt he'
   have q0:=he'.e0;have q1:=he'.e1;have q2:=he'.e2;have q4:=he'.e4;have q7:=he'.e7;have q8:=he'.e8;have q9:=he'.e9;have q10:=he'.e10
   have hfa:=hAt.has hA.1
   have hfb:=hBt.has hB.1
   simp -implicitDefEqProofs only [rX,↓rY,rZ,↓rW,aA,cells?,splice,↓reduceIte,Nat.reduceEqDiff,Nat.reduceAdd,bY,Nat.reduceLeDiff,yar,yaf,pT,Ei,Tu,To,Kf,q0,q1,q2,q7,q8,q10]
   have hmono:∀ h:n+1<(pieces E).length,E[n]≤(pieces E)[n+1].1:=fun h=>by
    rw [lH h]
    have:=(ybi.1 hasc) n (n+1) he1 he2 (by omega)
    simp only
    omega
   rcases Decidable.em (i'<A.length) with a1|a1<;>rcases Decidable.em (j'<B.length) with c1|c1
   ·
    rw [dif_pos a1] at hfa
    rw [dif_pos c1] at hfb
    rw [hfa,hfb] at hYn
    have hdA:decide ((i':Int)<(A.length:Int))=true:=decide_eq_true (by omega)
    have hdB:decide ((j':Int)<(B.length:Int))=true:=decide_eq_true (by omega)
    simp only [hdA,hdB,ke,kf]
    refine fun _=>⟨⟨by omega,by omega⟩,a1,fun _=>⟨⟨by omega,by omega⟩,c1,⟨rfl,?_⟩⟩⟩
    refine hYn _ _ _ i' j' ⟨by first|rfl|exact q0,by first|rfl|exact q1,by first|rfl|exact q2,by rw [hEE];exact q4,by first|rfl|exact q7,by first|rfl|exact q8,by first|rfl|exact q9⟩ ?_
    intro e3 o3 tl he3 hI3
    have r0:=he3.e0;have r1:=he3.e1;have r2:=he3.e2;have r4:=he3.e4;have r7:=he3.e7;have r8:=he3.e8;have r9:=he3.e9
    simp -implicitDefEqProofs only [rX,↓rY,rZ,aA,↓reduceIte,Nat.reduceEqDiff,reduceCtorEq,leE,leH,leB,leV,c7,aC,aB,wfE,wfB,wfV,wfL,p6,r9]
    refine ⟨by simp only [lo,hi,maxLen] at *;omega,((n+1,i',j'),o3),⟨⟨by simp only;omega,fun h=>⟨hAt.toPast.mono (hmono h),hBt.toPast.mono (hmono h)⟩,hI3⟩,by simp only;omega⟩,?_⟩
    simp -implicitDefEqProofs only [rX,r0,r1,r2,r4,r7,r8]
    exact ⟨⟨by simp,by rw [hEE]⟩,.inl trivial⟩
   ·
    rw [dif_pos a1] at hfa
    rw [dif_neg c1] at hfb
    rw [hfa,hfb] at hYn
    have hdA:decide ((i':Int)<(A.length:Int))=true:=decide_eq_true (by omega)
    have hdB:decide ((j':Int)<(B.length:Int))=false:=decide_eq_false (by omega)
    simp only [hdA,hdB,ke,kf]
    refine fun _=>⟨⟨by omega,by omega⟩,a1,fun _=>⟨rfl,?_⟩⟩
    refine hYn _ _ _ i' j' ⟨by first|rfl|exact q0,by first|rfl|exact q1,by first|rfl|exact q2,by rw [hEE];exact q4,by first|rfl|exact q7,by first|rfl|exact q8,by first|rfl|exact q9⟩ ?_
    intro e3 o3 tl he3 hI3
    have r0:=he3.e0;have r1:=he3.e1;have r2:=he3.e2;have r4:=he3.e4;have r7:=he3.e7;have r8:=he3.e8;have r9:=he3.e9
    simp -implicitDefEqProofs only [rX,↓rY,rZ,aA,↓reduceIte,Nat.reduceEqDiff,reduceCtorEq,leE,leH,leB,leV,c7,aC,aB,wfE,wfB,wfV,wfL,p6,r9]
    refine ⟨by simp only [lo,hi,maxLen] at *;omega,((n+1,i',j'),o3),⟨⟨by simp only;omega,fun h=>⟨hAt.toPast.mono (hmono h),hBt.toPast.mono (hmono h)⟩,hI3⟩,by simp only;omega⟩,?_⟩
    simp -implicitDefEqProofs only [rX,r0,r1,r2,r4,r7,r8]
    exact ⟨⟨by simp,by rw [hEE]⟩,.inl trivial⟩
   ·
    rw [dif_neg a1] at hfa
    rw [dif_pos c1] at hfb
    rw [hfa,hfb] at hYn
    have hdA:decide ((i':Int)<(A.length:Int))=false:=decide_eq_false (by omega)
    have hdB:decide ((j':Int)<(B.length:Int))=true:=decide_eq_true (by omega)
    simp only [hdA,hdB,ke,kf]
    refine fun _=>fun _=>⟨⟨by omega,by omega⟩,c1,⟨rfl,?_⟩⟩
    refine hYn _ _ _ i' j' ⟨by first|rfl|exact q0,by first|rfl|exact q1,by first|rfl|exact q2,by rw [hEE];exact q4,by first|rfl|exact q7,by first|rfl|exact q8,by first|rfl|exact q9⟩ ?_
    intro e3 o3 tl he3 hI3
    have r0:=he3.e0;have r1:=he3.e1;have r2:=he3.e2;have r4:=he3.e4;have r7:=he3.e7;have r8:=he3.e8;have r9:=he3.e9
    simp -implicitDefEqProofs only [rX,↓rY,rZ,aA,↓reduceIte,Nat.reduceEqDiff,reduceCtorEq,leE,leH,leB,leV,c7,aC,aB,wfE,wfB,wfV,wfL,p6,r9]
    refine ⟨by simp only [lo,hi,maxLen] at *;omega,((n+1,i',j'),o3),⟨⟨by simp only;omega,fun h=>⟨hAt.toPast.mono (hmono h),hBt.toPast.mono (hmono h)⟩,hI3⟩,by simp only;omega⟩,?_⟩
    simp -implicitDefEqProofs only [rX,r0,r1,r2,r4,r7,r8]
    exact ⟨⟨by simp,by rw [hEE]⟩,.inl trivial⟩
   ·
    rw [dif_neg a1] at hfa
    rw [dif_neg c1] at hfb
    rw [hfa,hfb] at hYn
    have hdA:decide ((i':Int)<(A.length:Int))=false:=decide_eq_false (by omega)
    have hdB:decide ((j':Int)<(B.length:Int))=false:=decide_eq_false (by omega)
    simp only [hdA,hdB,ke,kf]
    refine fun _=>fun _=>⟨rfl,?_⟩
    refine hYn _ _ _ i' j' ⟨by first|rfl|exact q0,by first|rfl|exact q1,by first|rfl|exact q2,by rw [hEE];exact q4,by first|rfl|exact q7,by first|rfl|exact q8,by first|rfl|exact q9⟩ ?_
    intro e3 o3 tl he3 hI3
    have r0:=he3.e0;have r1:=he3.e1;have r2:=he3.e2;have r4:=he3.e4;have r7:=he3.e7;have r8:=he3.e8;have r9:=he3.e9
    simp -implicitDefEqProofs only [rX,↓rY,rZ,aA,↓reduceIte,Nat.reduceEqDiff,reduceCtorEq,leE,leH,leB,leV,c7,aC,aB,wfE,wfB,wfV,wfL,p6,r9]
    refine ⟨by simp only [lo,hi,maxLen] at *;omega,((n+1,i',j'),o3),⟨⟨by simp only;omega,fun h=>⟨hAt.toPast.mono (hmono h),hBt.toPast.mono (hmono h)⟩,hI3⟩,by simp only;omega⟩,?_⟩
    simp -implicitDefEqProofs only [rX,r0,r1,r2,r4,r7,r8]
    exact ⟨⟨by simp,by rw [hEE]⟩,.inl trivial⟩
  ·have hd:decide (((n+1:Nat):Int)<(E.length:Int))=false:=decide_eq_false (by omega)
   have hne:n=(pieces E).length:=by omega
   subst hne
   have:=hK o hI
   simp -implicitDefEqProofs only [rX,↓rY,↓reduceIte,Nat.reduceEqDiff,Nat.reduceAdd,hd]
   exact fun _=>this
end
end Go.Fx.H
namespace Go.Fx.H
open Go Go.Fx Go.Proofs Go.Fx.R
set_option maxRecDepth 20000
theorem Yu (A B:List Sp):Ok 86 [aG A,aG B] (IsA (.clo 132 [.ptr 0 0 0,.ptr 1 0 0]) [.var [aG A],.var [aG B]]):=by
 refine bW lw86 (by simp) ?_
 unfold c86
 simp -implicitDefEqProofs only [rX,↓rY,aA,cells?,↓reduceIte,Nat.reduceEqDiff,Nat.reduceAdd,reduceCtorEq,aD,aU,aY,leH,leB,leV,c7,aC,aB,wfB,wfV,wfL,Nat.reduceLeDiff,cxN,aL,bT]
theorem xG {l:List Sp} {n:Nat} (h:n=l.length):yac n (l.map enS)=l.map enS:=yab (by simp [h])
def jN (f:Bool→Bool→Bool) (A B:List Sp) (n:Nat):List Sp:=((pieces (b8 A B)).take n).filter fun s=>f (hasB A s.1) (hasB B s.1)
theorem xP {f:Bool→Bool→Bool} {A B:List Sp} {n:Nat} (h:n<(pieces (b8 A B)).length):jN f A B (n+1)=jN f A B n++if f (hasB A (pieces (b8 A B))[n].1) (hasB B (pieces (b8 A B))[n].1) then [(pieces (b8 A B))[n]] else []:=by
 unfold jN
 rw [yaK,yan h,List.filter_append,Option.toList_some]
 congr 1
 rw [List.filter_cons,List.filter_nil]
theorem Cc {f:Bool→Bool→Bool} {A B:List Sp}:ofS (jN f A B (pieces (b8 A B)).length)=Iy f A B:=by
 unfold jN Iy
 rw [ybT]
theorem oZ {f:Bool→Bool→Bool} {A B:List Sp} {n:Nat} (hA:Vd A) (hB:Vd B):(jN f A B n).length≤4398046511104:=by
 have h1:(jN f A B n).length≤(pieces (b8 A B)).length:=by
  unfold jN
  refine ybx (yco _ _) ?_
  rw [yaJ];omega
 have h2:=fQ (E:=b8 A B)
 have h3:(b8 A B).length≤(dG (A++B)).length:=Qh
 rw [pS,yad] at h3
 have:=hA.len
 have:=hB.len
 omega
theorem Cb {f:Bool→Bool→Bool} {A B:List Sp} {n:Nat} (hA:Vd A) (hB:Vd B):Mid (jN f A B n):=by
 intro s hs
 unfold jN at hs
 rw [ybZ] at hs
 obtain ⟨_,h1,_,_⟩:=rP j2 (ybt hs.1)
 unfold b8 at h1
 rw [jL.2,mI] at h1
 obtain ⟨t,ht,h2⟩:=h1
 have:(0≤t.1∧t.1≤1099511627776)∧0≤t.2∧t.2≤1099511627776:=(yao.1 ht).elim (hA.2 t) (hB.2 t)
 omega
theorem adV (A B:List Sp) (hA:Vd A) (hB:Vd B):Ok 47 [aG A,aG B] (Is (aG (xX A B))):=by
 rw [←Lo hA.1,←Cc]
 refine bW lw47 (by simp) ?_
 unfold c47
 simp -implicitDefEqProofs only [rX,↓rY,aA,cells?,↓reduceIte,Nat.reduceEqDiff,reduceCtorEq,aD,cxN,aL]
 refine dM [aG A,aG B] (.clo 132 [.ptr 0 0 0,.ptr 1 0 0]) (.clo 132 [.ptr 1 0 0,.ptr 2 0 0]) [.var [aG A],.var [aG B]] [.var [aG A],.var [aG B]] (Yu A B) ⟨⟨trivial,trivial,trivial⟩,⟨rfl,rfl⟩,⟨rfl,rfl⟩,trivial⟩ (by simp [ren,b9]) (by simp [bJ,b9,ren]) trivial ?_
 simp -implicitDefEqProofs only [rX]
 refine rJ 3 rfl rfl trivial ?_
 refine mW (as':=[.itr 3,.ptr 1 0 0,.ptr 2 0 0]) (h':=hpM A B []) rfl ⟨_,.virt 1 2 (by decide) (.nilB 0 [.nil] [.sl 4 0 0] rfl ⟨rfl,fun i a b h1 h2=>?_⟩ (.refl _)),?_⟩ (Th hA hB rfl (Inv:=fun n o=>o=jN (fun x y=>x&&y) A B n) ?_ ?_ _ ?_)
 ·match i with
  | 0=>simp at h1 h2;subst h1 h2;exact .inr ⟨rfl,_,rfl⟩
  | i+1=>simp at h1
 ·simp -implicitDefEqProofs only [rX,↓reduceIte,Nat.reduceEqDiff,Nat.reduceAdd,reduceCtorEq,leE,leH,leB,leV,c7,aC,aB,wfE,wfB,wfV,wfL,aL,yaz,or_true]
 ·rintro n o hn rfl e bb Z i j he hZ
  have hst:=xP (f:=fun x y=>x&&y) (A:=A) (B:=B) hn
  have hlen:=oZ (f:=fun x y=>x&&y) (n:=n) hA hB
  have hnext:∀ (e':Env) o',E94 A B i j (n+1) e'→o'=jN (fun x y=>x&&y) A B (n+1)→∀ tl,Z (.b true) ⟨e',hpM A B o'++tl,bb⟩:=fun e' o' h1 h2 tl=>hZ e' o' tl h1 h2
  have hkill:E94 A B i j (n+1) (aP [4] e):=by
   refine ⟨?_,?_,?_,?_,?_,?_,?_⟩<;>rw [aO]
   ·rw [he.e0];simp [kill]
   ·rw [he.e1];simp [kill]
   ·rw [he.e2];simp [kill]
   ·rw [he.e4];rfl
   ·rw [he.e7];rfl
   ·rw [he.e8];rfl
   ·rw [he.e9];rfl
  generalize jN (fun x y=>x&&y) A B n=o at *
  have htk:yac o.length (o.map enS)=o.map enS:=xG rfl
  refine xE 6 rfl rfl rfl ?_
  unfold c47a0
  cases hfa:hasB A (pieces (b8 A B))[n].1 with
  | false =>
   rw [hfa] at hst
   simp -implicitDefEqProofs only [rX,↓rY,rZ,↓rW,aA,cells?,splice,↓reduceIte,Nat.reduceEqDiff,Nat.reduceAdd,aD,isC,bE,fH,fC]
   unfold c47r0
   simp -implicitDefEqProofs only [rX,↓rY,rZ,↓rW,aA,cells?,splice,↓reduceIte,Nat.reduceEqDiff,Nat.reduceAdd,reduceCtorEq,aD,bU,aP,aS,kill,a8,St.kill,isC,Nat.reduceLT,yal,bE,bR,iL,dH,show yam 0=0 from rfl,show yam 1=1 from rfl,yaY]
   refine ⟨by omega,?_⟩
   exact hnext e o he (by rw [hst];simp) [_,_,_,_]
  | true =>
   cases hfb:hasB B (pieces (b8 A B))[n].1 with
   | false =>
    rw [hfa,hfb] at hst
    simp -implicitDefEqProofs only [rX,↓rY,rZ,↓rW,aA,cells?,splice,↓reduceIte,Nat.reduceEqDiff,Nat.reduceAdd,aD,isC,bE,fH,fC]
    unfold c47r0
    simp -implicitDefEqProofs only [rX,↓rY,rZ,↓rW,aA,cells?,splice,↓reduceIte,Nat.reduceEqDiff,Nat.reduceAdd,reduceCtorEq,aD,bU,aP,aS,kill,a8,St.kill,isC,Nat.reduceLT,yal,bE,bR,iL,dH,show yam 0=0 from rfl,show yam 1=1 from rfl,yaY]
    refine ⟨by omega,by omega,?_⟩
    exact hnext e o he (by rw [hst];simp) [_,_,_,_]
   | true =>
    rw [hfa,hfb] at hst
    simp -implicitDefEqProofs only [rX,↓rY,rZ,↓rW,aA,cells?,splice,↓reduceIte,Nat.reduceEqDiff,Nat.reduceAdd,aD,isC,bE,fH,fC]
    unfold c47r0
    simp -implicitDefEqProofs only [rX,↓rY,rZ,↓rW,aA,cells?,splice,↓reduceIte,Nat.reduceEqDiff,Nat.reduceAdd,reduceCtorEq,aD,bU,aP,aS,kill,a8,St.kill,isC,Nat.reduceLT,yal,bE,bR,iL,dH,show yam 0=0 from rfl,show yam 1=1 from rfl,yaY]
    refine ⟨by omega,by omega,by omega,?_⟩
    have:=hnext _ (o++[(pieces (b8 A B))[n]]) hkill (by rw [hst];simp) [.var (enS (pieces (b8 A B))[n]),.dead,.var (enS (pieces (b8 A B))[n]),.var [.b true,.b true],.arr 2 [enS (pieces (b8 A B))[n]],.dead]
    simp only [hpM,yad,yas,yaA,yaq,yaI,yaS,yaH,ybc,yaE] at this
    rw [htk]
    exact this
 ·rintro o rfl
  have hlen:=oZ (f:=fun x y=>x&&y) (n:=(pieces (b8 A B)).length) hA hB
  have hmid:=Cb (f:=fun x y=>x&&y) (n:=(pieces (b8 A B)).length) hA hB
  simp -implicitDefEqProofs only [rX,↓rY,rZ,↓rW,↓reduceIte,Nat.reduceAdd,aB,wfE,wfB,wfV,wfL]
  generalize jN (fun x y=>x&&y) A B (pieces (b8 A B)).length=o at *
  refine j3 o rfl hlen hmid rfl rfl (by simp) trivial ?_
  simp -implicitDefEqProofs only [rX,↓reduceIte,reduceCtorEq,aU,aY,wfV,aP,aS,kill,a8,St.kill]
 ·simp [jN]
end Go.Fx.H
namespace Go.Fx.H
open Go Go.Fx Go.Proofs Go.Fx.R
set_option maxRecDepth 20000
theorem adW (A B:List Sp) (hA:Vd A) (hB:Vd B):Ok 46 [aG A,aG B] (Is (aG (i5 A B))):=by
 rw [←Ix hA.1,←Cc]
 refine bW lw46 (by simp) ?_
 unfold c46
 simp -implicitDefEqProofs only [rX,↓rY,aA,cells?,↓reduceIte,Nat.reduceEqDiff,reduceCtorEq,aD,cxN,aL]
 refine dM [aG A,aG B] (.clo 132 [.ptr 0 0 0,.ptr 1 0 0]) (.clo 132 [.ptr 1 0 0,.ptr 2 0 0]) [.var [aG A],.var [aG B]] [.var [aG A],.var [aG B]] (Yu A B) ⟨⟨trivial,trivial,trivial⟩,⟨rfl,rfl⟩,⟨rfl,rfl⟩,trivial⟩ (by simp [ren,b9]) (by simp [bJ,b9,ren]) trivial ?_
 simp -implicitDefEqProofs only [rX]
 refine rJ 3 rfl rfl trivial ?_
 refine mW (as':=[.itr 3,.ptr 1 0 0,.ptr 2 0 0]) (h':=hpM A B []) rfl ⟨_,.virt 1 2 (by decide) (.nilB 0 [.nil] [.sl 4 0 0] rfl ⟨rfl,fun i a b h1 h2=>?_⟩ (.refl _)),?_⟩ (Th hA hB rfl (Inv:=fun n o=>o=jN (fun x y=>x&&!y) A B n) ?_ ?_ _ ?_)
 ·match i with
  | 0=>simp at h1 h2;subst h1 h2;exact .inr ⟨rfl,_,rfl⟩
  | i+1=>simp at h1
 ·simp -implicitDefEqProofs only [rX,↓reduceIte,Nat.reduceEqDiff,Nat.reduceAdd,reduceCtorEq,leE,leH,leB,leV,c7,aC,aB,wfE,wfB,wfV,wfL,aL,yaz,or_true]
 ·rintro n o hn rfl e bb Z i j he hZ
  have hst:=xP (f:=fun x y=>x&&!y) (A:=A) (B:=B) hn
  have hlen:=oZ (f:=fun x y=>x&&!y) (n:=n) hA hB
  have hnext:∀ (e':Env) o',E94 A B i j (n+1) e'→o'=jN (fun x y=>x&&!y) A B (n+1)→∀ tl,Z (.b true) ⟨e',hpM A B o'++tl,bb⟩:=fun e' o' h1 h2 tl=>hZ e' o' tl h1 h2
  have hkill:E94 A B i j (n+1) (aP [4] e):=by
   refine ⟨?_,?_,?_,?_,?_,?_,?_⟩<;>rw [aO]
   ·rw [he.e0];simp [kill]
   ·rw [he.e1];simp [kill]
   ·rw [he.e2];simp [kill]
   ·rw [he.e4];rfl
   ·rw [he.e7];rfl
   ·rw [he.e8];rfl
   ·rw [he.e9];rfl
  generalize jN (fun x y=>x&&!y) A B n=o at *
  have htk:yac o.length (o.map enS)=o.map enS:=xG rfl
  refine xE 6 rfl rfl rfl ?_
  unfold c46a0
  cases hfa:hasB A (pieces (b8 A B))[n].1 with
  | false =>
   rw [hfa] at hst
   simp -implicitDefEqProofs only [rX,↓rY,rZ,↓rW,aA,cells?,splice,↓reduceIte,Nat.reduceEqDiff,Nat.reduceAdd,aD,isC,bE,fH,fC]
   unfold c46r0
   simp -implicitDefEqProofs only [rX,↓rY,rZ,↓rW,aA,cells?,splice,↓reduceIte,Nat.reduceEqDiff,Nat.reduceAdd,reduceCtorEq,aD,bU,aP,aS,kill,a8,St.kill,isC,Nat.reduceLT,yal,bE,bR,iL,dH,show yam 0=0 from rfl,show yam 1=1 from rfl,yaY]
   refine ⟨by omega,?_⟩
   exact hnext e o he (by rw [hst];simp) [_,_,_,_]
  | true =>
   cases hfb:hasB B (pieces (b8 A B))[n].1 with
   | false =>
    rw [hfa,hfb] at hst
    simp -implicitDefEqProofs only [rX,↓rY,rZ,↓rW,aA,cells?,splice,↓reduceIte,Nat.reduceEqDiff,Nat.reduceAdd,aD,isC,bE,fH,fC]
    unfold c46r0
    simp -implicitDefEqProofs only [rX,↓rY,rZ,↓rW,aA,cells?,splice,↓reduceIte,Nat.reduceEqDiff,Nat.reduceAdd,reduceCtorEq,aD,bU,aP,aS,kill,a8,St.kill,isC,Nat.reduceLT,yal,bE,bR,iL,dH,show yam 0=0 from rfl,show yam 1=1 from rfl,yaY]
    refine ⟨by omega,by omega,by omega,?_⟩
    have:=hnext _ (o++[(pieces (b8 A B))[n]]) hkill (by rw [hst];simp) [.var (enS (pieces (b8 A B))[n]),.dead,.var (enS (pieces (b8 A B))[n]),.var [.b true,.b false],.arr 2 [enS (pieces (b8 A B))[n]],.dead]
    simp only [hpM,yad,yas,yaA,yaq,yaI,yaS,yaH,ybc,yaE] at this
    rw [htk]
    exact this
   | true =>
    rw [hfa,hfb] at hst
    simp -implicitDefEqProofs only [rX,↓rY,rZ,↓rW,aA,cells?,splice,↓reduceIte,Nat.reduceEqDiff,Nat.reduceAdd,aD,isC,bE,fH,fC]
    unfold c46r0
    simp -implicitDefEqProofs only [rX,↓rY,rZ,↓rW,aA,cells?,splice,↓reduceIte,Nat.reduceEqDiff,Nat.reduceAdd,reduceCtorEq,aD,bU,aP,aS,kill,a8,St.kill,isC,Nat.reduceLT,yal,bE,bR,iL,dH,show yam 0=0 from rfl,show yam 1=1 from rfl,yaY]
    refine ⟨by omega,by omega,?_⟩
    exact hnext e o he (by rw [hst];simp) [_,_,_,_]
 ·rintro o rfl
  have hlen:=oZ (f:=fun x y=>x&&!y) (n:=(pieces (b8 A B)).length) hA hB
  have hmid:=Cb (f:=fun x y=>x&&!y) (n:=(pieces (b8 A B)).length) hA hB
  simp -implicitDefEqProofs only [rX,↓rY,rZ,↓rW,↓reduceIte,Nat.reduceAdd,aB,wfE,wfB,wfV,wfL]
  generalize jN (fun x y=>x&&!y) A B (pieces (b8 A B)).length=o at *
  refine j3 o rfl hlen hmid rfl rfl (by simp) trivial ?_
  simp -implicitDefEqProofs only [rX,↓reduceIte,reduceCtorEq,aU,aY,wfV,aP,aS,kill,a8,St.kill]
 ·simp [jN]
theorem cZ {cx:Cx} {f:FuncId} {args:List V} {e:Env} {h:List Blk} {b:Nat} {K:V→St→Prop} (ι mv M:List Nat) (xs:List V) (x x':V) (h0 h1 h':List Blk) (e':Env) (hC:cx.C f xs h0 mv (IsA x h1))
  (hι:ι.Nodup∧∀ k∈ι,k<h.length∧k∉cx.bn) (hM:mv.filterMap (ι[·]?)=M∧∀ j∈mv,∀ k,ι[j]?=some k→k∉cx.fx) (r0:ι.map (fun k=>bJ (pos ι) (blk h k))=h0) (ha:aM h (pos ι) args∧wkL xs (aX h (pos ι) args))
  (hh:bM ι (h1.map (bJ (back ι h.length))) (h.map (aS M))=h') (hx:ren (back ι h.length) x=x') (he:aP M e=e') (keep:aC cx.fx h') (h3:K x' ⟨e',h',b⟩):eG cx f args ⟨e,h,b⟩ K:=by
 refine ⟨ι,xs,mv,IsA x h1,⟨hι,hM.2⟩,ha.1,ha.2,by rw [r0];exact hC,?_⟩
 rintro r h2 ⟨rfl,rfl⟩ _
 rw [hM.1,hh,hx,he]
 exact ⟨keep,h3⟩
end Go.Fx.H
namespace Go.Fx.H
open Go Go.Fx Go.Proofs Go.Fx.R
set_option maxRecDepth 20000
def nb (n b:Nat):Nat:=(n+b-1)/b
theorem sP {n b j:Nat} (hb:1≤b):j*b<n↔j<nb n b:=by
 unfold nb
 have h:=Nat.le_div_iff_mul_le (x:=j+1) (y:=n+b-1) (k:=b) (by omega)
 rw [Nat.succ_mul] at h
 omega
theorem xT {n b:Nat} (hb:1≤b):nb n b≤n:=by
 rcases Nat.eq_zero_or_pos (nb n b) with h|h
 ·omega
 ·have:=(sP (n:=n) (j:=nb n b-1) hb).2 (by omega)
  have h2:nb n b-1≤(nb n b-1)*b:=ycp _ hb
  omega
theorem Mu {n b:Nat} (hb:1≤b):mR n b=nb n b:=by
 rw [Ay (by omega) (by omega)]
 unfold nb
 have:((n:Int)+b-1)=((n+b-1:Nat):Int):=by omega
 rw [this,ybD]
def bk (t:Bs) (b j:Nat):Bs:=(t.drop (j*b)).take b
theorem Ox {t:Bs} {b j:Nat}:(t.take (min t.length (j*b+b))).drop (j*b)=bk t b j:=by
 unfold bk
 rw [List.drop_take]
 rcases Nat.le_total (j*b+b) t.length with h|h
 ·rw [Nat.min_eq_right h];congr 1;omega
 ·rw [yaZ h,yab (by simp),yab (by simp;omega)]
theorem oN {t:Bs} {b j:Nat}:(bk t b j).length=min b (t.length-j*b):=by simp [bk]
def Jt (t:Bs) (b:Nat):List Bs:=(yay (nb t.length b)).map (bk t b)
def lvs (t:Bs) (b:Nat):List Bs:=(Jt t b).map lf
theorem Ow {t:Bs} {b:Nat}:(Jt t b).length=nb t.length b:=by simp [Jt]
theorem fG {t:Bs} {b:Nat}:(lvs t b).length=nb t.length b:=by simp [lvs,Ow]
theorem Cw {t:Bs} {b:Nat}:D16 (lvs t b):=by
 intro d hd
 obtain ⟨x,_,rfl⟩:=ybb.1 hd
 exact oE
structure EB (k a c b i:Nat) (e:Env):Prop where
 e0:get e 0=.itr k
 e1:get e 1=.ptr a 0 0
 e2:get e 2=.ptr c 0 0
 e4:get e 4=.i ((i*b:Nat):Int)
structure ItB {G:Type} (hp:G→List Blk) (L:Nat) (t:Bs) (b:Nat) (k a c:Nat) (fx:List Nat):Prop where
 hb:1≤b∧b≤1000000000
 hm:t.length≤1000000000
 len:∀ g,(hp g).length=L
 ha:∀ g tl,(hp g++tl)[a]?=some (.var [sv t])
 hc:∀ g tl,(hp g++tl)[c]?=some (.var [.i b])
 kp:∀ g,aC fx (hp g)
 wf:∀ g,wfB (hp g) (hp g)
 lk:∀ g,∃ t e,(hp g)[k]?=some (.rcd t e)
section
variable {G:Type} {hp:G→List Blk} {L:Nat} {t:Bs} {b k a c:Nat} {fx:List Nat} {Y:Yt} {K:List Blk→Prop} {Inv:Nat→G→Prop}
abbrev Yr {G:Type} (hp:G→List Blk) (b k a c:Nat) (g:Nat × G):St:=⟨[(4,.i ((g.1*b:Nat):Int)),(0,.itr k),(1,.ptr a 0 0),(2,.ptr c 0 0)],hp g.2,0⟩
theorem Nj (H:ItB hp L t b k a c fx)
  (hY:∀ i g,i<nb t.length b→Inv i g→∀ (e:Env) (bb:Nat) (Z:V→St→Prop),EB k a c b i e →
   (∀ e' g' tl,EB k a c b i e'→Inv (i+1) g'→Z (.b true) ⟨e',hp g'++tl,bb⟩)→Y [.i ((i*b:Nat):Int),sv (bk t b i)] ⟨e,hp g,bb⟩ Z)
  (hK:∀ g,Inv (nb t.length b) g→K (hp g)) (g:G) (hg:Inv 0 g) :
  I0 Tryz.prog 111 [.itr k,.ptr a 0 0,.ptr c 0 0] fx k Y (hp g) K:=by
 refine Fk pol fx lw111 (by simp) ?_
 have hlen:=H.len g
 have a0:=H.ha g []
 have c0:=H.hc g []
 rw [yak] at a0 c0
 obtain ⟨tk,ek,lk⟩:=H.lk g
 unfold c111
 simp -implicitDefEqProofs only [rX,aA,Nat.reduceAdd,aL]
 refine aV (Yr hp b k a c) (fun g=>g.1≤nb t.length b∧Inv g.1 g.2) (fun g=>nb t.length b-g.1) (0,g) ⟨yai _,hg⟩ ?_ ?_
 ·simp -implicitDefEqProofs only [rX,↓reduceIte,Nat.reduceEqDiff,reduceCtorEq,leE,aB,wfE,wfV,lk,a0,c0,eq_true (H.kp g),eq_true (H.wf g),Nat.zero_mul,yaL]
  exact cH _
 rintro ⟨i,g⟩ ⟨hi,hI⟩
 simp only at hi hI
 have hlen:=H.len g
 have go:∀ j tl,(hp g++tl)[L+j]?=tl[j]?:=fun j tl=>by
  rw [ybq (by omega),hlen];congr 1;omega
 have a0:=H.ha g []
 have c0:=H.hc g []
 rw [yak] at a0 c0
 unfold c111l0 Yr
 have hbl:=H.hb
 have hml:=H.hm
 rcases yax i (nb t.length b) with hi1|hi1
 ·have hlt:=(sP hbl.1).2 hi1
  have hd:decide (((i*b:Nat):Int)<(t.length:Int))=true:=decide_eq_true (by omega)
  simp -implicitDefEqProofs only [rX,↓rY,rZ,↓rW,zD,↓reduceIte,Nat.reduceEqDiff,reduceCtorEq,cP,yaf,bQ,Ei,Pv,Ir,Ps,hd,hlen,a0,c0]
  have e1:(min (t.length:Int) (((i*b:Nat):Int)+(b:Int))).toNat=min t.length (i*b+b):=by omega
  have e2:(sb t).extract (i*b) (min (t.length:Int) (((i*b:Nat):Int)+(b:Int))).toNat=sb (bk t b i):=by
   rw [e1,eQ,Ox]
  rw [e2]
  refine ⟨by simp only [lo,Fx.hi];omega,by omega,?_⟩
  refine ⟨rfl,?_⟩
  refine hY i g hi1 hI _ _ _ ⟨rfl,rfl,rfl,rfl⟩ ?_
  intro e' g' tl he' hI'
  have c1:=H.hc g' tl
  have f1:=he'.e0;have f2:=he'.e1;have f3:=he'.e2;have f4:=he'.e4
  simp -implicitDefEqProofs only [rX,↓rY,rZ,↓reduceIte,Nat.reduceEqDiff,reduceCtorEq,leE,aB,wfE,wfV,p6,f1,f2,f3,f4,c1]
  refine ⟨by simp only [lo,Fx.hi];omega,(i+1,g'),⟨⟨by show i+1≤_;omega,hI'⟩,by show nb t.length b-(i+1)<nb t.length b-i;omega⟩,?_⟩
  have e5:((i*b:Nat):Int)+(b:Int)=(((i+1)*b:Nat):Int):=by rw [Nat.succ_mul];omega
  obtain ⟨tk,ek,lk⟩:=H.lk g'
  have a1:=H.ha g' []
  have c2:=H.hc g' []
  rw [yak] at a1 c2
  rw [e5]
  simp -implicitDefEqProofs only [rX,a1,c2,eq_true (Ad (hp g') tl),eq_true (H.kp g'),eq_true (H.wf g'),lk]
 ·have hlt:¬i*b<t.length:=fun h=>by have:=(sP hbl.1).1 h;omega
  have hd:decide (((i*b:Nat):Int)<(t.length:Int))=false:=decide_eq_false (by omega)
  have hie:i=nb t.length b:=by omega
  subst hie
  have:=hK g hI
  simp -implicitDefEqProofs only [rX,↓rY,↓reduceIte,Nat.reduceEqDiff,reduceCtorEq,bQ,hd,a0]
  exact this
end
theorem Vo (t:Bs) (b:Nat):Ok 60 [sv t,.i b] (IsA (.clo 111 [.ptr 0 0 0,.ptr 1 0 0]) [.var [sv t],.var [.i b]]):=by
 refine bW lw60 (by simp) ?_
 unfold c60
 simp -implicitDefEqProofs only [rX,↓rY,aA,cells?,↓reduceIte,Nat.reduceEqDiff,Nat.reduceAdd,reduceCtorEq,aD,aU,aY,leH,leB,leV,c7,aC,aB,wfB,wfV,wfL,Nat.reduceLeDiff,cxN,aL,bT]
abbrev hpL (t:Bs) (b:Nat) (i:Nat):List Blk:=[.var [.sl 4 0 i],.var [sv t],.var [.i b],.rcd .ready [(10,.clo 111 [.ptr 1 0 0,.ptr 2 0 0]),(5,.ptr 0 0 0),(0,sv t),(1,.i b)],.arr 16 (((lvs t b).take i).map us)]
theorem itL (t:Bs) (b:Nat) (hb:1≤b∧b≤1000000000) (ht:t.length≤1000000000):ItB (hpL t b) 5 t b 3 1 2 [3]:=by
 refine ⟨hb,ht,fun g=>rfl,fun g tl=>rfl,fun g tl=>rfl,fun g=>⟨trivial,trivial⟩,fun g=>?_,fun g=>⟨_,_,rfl⟩⟩
 simp -implicitDefEqProofs only [rX,aB,wfE,wfB,wfV,wfL]
theorem Vq (t:Bs) (b:Nat) (hb:1≤b∧b≤1000000000) (ht:t.length≤1000000000):Ok 33 [sv t,.i b] (Is (.ro 16 ((lvs t b).map us))):=by
 refine jW (R:=fun q hs=>wk (.ro 16 ((lvs t b).map us)) (gvV (fun _=>true) hs q)) ?_ fun _ _ h=>h
 refine bW lw33 (by simp) ?_
 unfold c33
 simp -implicitDefEqProofs only [rX,↓rY,aA,cells?,↓reduceIte,Nat.reduceEqDiff,reduceCtorEq,aD,cxN,aL]
 refine dM [sv t,.i b] (.clo 111 [.ptr 0 0 0,.ptr 1 0 0]) (.clo 111 [.ptr 1 0 0,.ptr 2 0 0]) [.var [sv t],.var [.i b]] [.var [sv t],.var [.i b]] (Vo t b) ⟨⟨trivial,trivial,trivial⟩,rfl,rfl,trivial⟩ (by simp [ren,b9]) (by simp [bJ,b9,ren]) trivial ?_
 simp -implicitDefEqProofs only [rX]
 refine rJ 3 rfl rfl trivial ?_
 refine mW (as':=[.itr 3,.ptr 1 0 0,.ptr 2 0 0]) (h':=hpL t b 0) rfl ⟨_,.virt 1 16 (by decide) (.nilB 0 [.nil] [.sl 4 0 0] rfl ⟨rfl,fun i a b h1 h2=>?_⟩ (.refl _)),?_⟩ (Nj (Inv:=fun i g=>g=i) (itL t b hb ht) ?_ ?_ _ rfl)
 ·match i with
  | 0=>simp at h1 h2;subst h1 h2;exact .inr ⟨rfl,_,rfl⟩
  | i+1=>simp at h1
 ·simp -implicitDefEqProofs only [rX,↓reduceIte,Nat.reduceEqDiff,Nat.reduceAdd,reduceCtorEq,leE,leH,leB,leV,c7,aC,aB,wfE,wfB,wfV,wfL,aL,yaz,or_true]
 ·rintro i g hi rfl e bb Z he hZ
  refine xE 5 rfl rfl rfl ?_
  unfold c33a0
  simp -implicitDefEqProofs only [rX,rZ,↓rW,↓reduceIte,Nat.reduceAdd,fC]
  unfold c33r0
  simp -implicitDefEqProofs only [rX,↓rY,rdK,↓reduceIte,Nat.reduceEqDiff,Nat.reduceAdd]
  have hbl:(bk t b g).length≤1000000000:=by rw [oN];omega
  refine aE (Vp (bk t b g) (by omega)) ⟨⟨trivial,trivial⟩,rfl,trivial⟩ (by simp [ren,bB]) ⟨trivial,trivial,trivial⟩ ?_
  obtain ⟨u1,u2,u3⟩:=fM (oE (t:=bk t b g))
  have hl:(lvs t b).length=nb t.length b:=fG
  have hlg:(yac g (lvs t b)).length=g:=by rw [yaJ];omega
  simp -implicitDefEqProofs only [rX,↓rY,rZ,↓rW,cells?,splice,↓reduceIte,Nat.reduceEqDiff,reduceCtorEq,aD,bU,aP,aS,kill,a8,St.kill,isC,Nat.reduceLT,u1,Qg,hlg]
  have hlt:=(sP hb.1).2 hi
  have h1:g≤g*b:=ycp _ hb.1
  refine ⟨by omega,?_⟩
  have h2:yac g (yae us (yac g (lvs t b)))++[us (lf (bk t b g))]=((lvs t b).take (g+1)).map us:=by
   rw [yab (by simp;omega),yaK,yan (by omega),yaq]
   congr 1
   simp [lvs,Jt]
  rw [h2]
  refine hZ (aP [4] e) (g+1) [Blk.dead,Blk.arr 16 [us (lf (bk t b g))],Blk.dead] ?_ rfl
  refine ⟨?_,?_,?_,?_⟩<;>rw [aO]
  ·rw [he.e0];simp [kill]
  ·rw [he.e1];simp [kill]
  ·rw [he.e2];simp [kill]
  ·rw [he.e4];rfl
 ·rintro g rfl
  have hl:(lvs t b).length=nb t.length b:=fG
  simp -implicitDefEqProofs only [rX,↓rY,rZ,↓rW,↓reduceIte,Nat.reduceEqDiff,Nat.reduceAdd,aU,aY,aC,aB,wfE,wfB,wfV,wfL,dT]
  refine ⟨[.dead,.dead,.dead,.dead,.arr 16 ((lvs t b).map us)],⟨?_,yai _,trivial,trivial⟩,?_⟩
  ·rw [yab (by omega)]
   exact ⟨trivial,trivial,trivial,trivial,bF _,trivial⟩
  ·rw [←hl]
   simp [gvV,gvB,wk,wkR,blk]
   exact yab (by simp)
end Go.Fx.H
namespace Go.Fx.H
open Go Go.Fx Go.Proofs Go.Fx.R
set_option maxRecDepth 20000
def mkE (t:Bs) (b:Int):Int:=if b<1∨4096<b then 1 else if 65536<(t.length:Int)∨4096<mR t.length b then 2 else 0
def mkM (t:Bs) (b:Int):Man:=if mkE t b=0 then ⟨t.length,b,root (lvs t b.toNat)⟩ else ⟨0,0,yah 16 0⟩
def yT:Man:=⟨0,0,yah 16 0⟩
theorem zM:[V.v (Value.int IntKind.i64 0),V.v (Value.int IntKind.i64 0),V.v (Value.int IntKind.u8 0),V.v (Value.int IntKind.u8 0),V.v (Value.int IntKind.u8 0),V.v (Value.int IntKind.u8 0),V.v (Value.int IntKind.u8 0),V.v (Value.int IntKind.u8 0),V.v (Value.int IntKind.u8 0),V.v (Value.int IntKind.u8 0),V.v (Value.int IntKind.u8 0),V.v (Value.int IntKind.u8 0),V.v (Value.int IntKind.u8 0),V.v (Value.int IntKind.u8 0),V.v (Value.int IntKind.u8 0),V.v (Value.int IntKind.u8 0),V.v (Value.int IntKind.u8 0),V.v (Value.int IntKind.u8 0)]=yT.enc:=by unfold Man.enc us;rfl
theorem fP {m:Man} (h:m.rt.length=16):m.enc.length=18∧m.enc.take 18=m.enc∧m.enc.drop 18=[]:=by
 have hl:m.enc.length=18:=by simp [Man.enc,dW,h]
 exact ⟨hl,yab (by omega),yau (by omega)⟩
theorem Cv {m:Man}:m.enc.all isC=true:=by simp [Man.enc,iP,isC,isD]
theorem mJ {m:Man} {q:List Blk}:wfL q m.enc:=by simp [Man.enc,wfL,wfV,dV]
theorem Vr (t:Bs) (b:Int) (ht:t.length≤1000000000):Ok 27 [sv t,.i b] (Is (.tup [.agg (mkM t b).enc,.i (mkE t b)])):=by
 refine bW lw27 (by simp) ?_
 unfold c27
 obtain ⟨q1,q2,q3⟩:=fP (m:=yT) rfl
 simp -implicitDefEqProofs only [rX,↓rY,aA,cells?,splice,↓reduceIte,Nat.reduceEqDiff,reduceCtorEq,aD,bY,aU,aY,wfV,wfL,cxN,bQ,aL,zM,q1,q2,q3,Cv,mJ]
 simp only [br,decide_eq_true_eq,decide_eq_false_iff_not]
 have er:∀ e:Int,mkE t b=e→e≠0→mkM t b=yT:=fun e h1 h2=>by unfold mkM;rw [if_neg (by rw [h1];exact h2)];rfl
 refine ⟨fun h1=>?_,fun h1=>⟨fun h2=>?_,fun h2=>⟨fun h3=>?_,fun h3=>?_⟩⟩⟩
 ·have h:mkE t b=1:=by unfold mkE;rw [if_pos (.inl h1)]
  rw [er 1 h (by decide),h]
 ·have h:mkE t b=1:=by unfold mkE;rw [if_pos (.inr h2)]
  rw [er 1 h (by decide),h]
 ·have h:mkE t b=2:=by unfold mkE;rw [if_neg (by omega),if_pos (.inl h3)]
  rw [er 2 h (by decide),h]
 ·refine aE (Yv t.length b ⟨by omega,by omega⟩ ⟨by omega,by omega⟩) ⟨⟨trivial,trivial,trivial⟩,rfl,rfl,trivial⟩ rfl trivial ?_
  simp -implicitDefEqProofs only [rX,↓rY,aA,cells?,splice,↓reduceIte,Nat.reduceEqDiff,reduceCtorEq,bY,aU,aY,wfV,wfL,bQ,zM,q1,q2,q3,Cv,mJ]
  simp only [br,decide_eq_true_eq,decide_eq_false_iff_not]
  refine ⟨fun h4=>?_,fun h4=>?_⟩
  ·have h:mkE t b=2:=by unfold mkE;rw [if_neg (by omega),if_pos (.inr h4)]
   rw [er 2 h (by decide),h]
  ·have h:mkE t b=0:=by unfold mkE;rw [if_neg (by omega),if_neg (by omega)]
   obtain ⟨n,rfl⟩:∃ n:Nat,b=n:=⟨b.toNat,by omega⟩
   refine aE (Vq t n ⟨by omega,by omega⟩ ht) ⟨⟨trivial,trivial,trivial⟩,rfl,rfl,trivial⟩ (by simp [ren]) trivial ?_
   simp -implicitDefEqProofs only [rX,↓reduceIte]
   have hn:nb t.length n≤t.length:=xT (by omega)
   refine aE (Mk _ (lvs t n) rfl Cw (by rw [fG];omega)) ⟨⟨trivial,trivial⟩,⟨rfl,rfl⟩,trivial⟩ (by simp [ren,bB]) trivial ?_
   have hr:=eL _ (lvs t n) rfl Cw
   obtain ⟨u1,u2,u3⟩:=fM hr
   have hm:mkM t n=⟨t.length,n,root (lvs t n)⟩:=by unfold mkM;rw [if_pos h,yaf]
   simp -implicitDefEqProofs only [rX,↓rY,aA,cells?,splice,↓reduceIte,Nat.reduceEqDiff,Nat.reduceAdd,bY,aU,aY,wfV,wfL,isC,Nat.reduceLeDiff,zM,q1,u1]
   rw [hm,h]
   have d1:(yav 1 yT.enc).length=17:=by rw [yaP,q1]
   have d2:(yav 1 (yav 1 yT.enc)).length=16:=by rw [yaP,d1]
   have d18:∀ x y:V,yav 18 (x::y::yav 1 (yav 1 yT.enc))=[]:=fun x y=>yau (by simp only [yas,d2];omega)
   have tk:=Cu (m:=⟨t.length,n,root (lvs t n)⟩) hr
   simp only [d1,d2,d18,yaA,yak,ybe,q3,iP,yaU,tk,mJ,true_and,Nat.reduceAdd,yaa,Nat.reduceLeDiff]
end Go.Fx.H
namespace Go.Fx.H
open Go Go.Fx Go.Proofs Go.Fx.R
set_option maxRecDepth 20000
abbrev rD (l:List Bs):V:=.ro 16 (l.map us)
theorem Wg:∀ (n:Nat) (l:List Bs) (i:Nat),l.length=n→D16 l→D16 (eB l i):=by
 intro n
 induction n using yby with
 | ind n ih =>
  intro l i hn hD
  by_cases h2:2≤l.length
  ·have hs:=eP h2
   by_cases hi:i<spl l.length
   ·rw [Ah h2 hi]
    intro d hd
    rcases yao.1 hd with hd|hd
    ·exact ih (l.take (spl l.length)).length (by simp;omega) _ _ rfl (hD.take _) d hd
    ·simp at hd;subst hd;exact eL _ _ rfl (hD.drop _)
   ·rw [Aj h2 hi]
    intro d hd
    rcases yao.1 hd with hd|hd
    ·exact ih (l.drop (spl l.length)).length (by simp;omega) _ _ rfl (hD.drop _) d hd
    ·simp at hd;subst hd;exact eL _ _ rfl (hD.take _)
  ·rw [vD h2];intro d hd;simp at hd
theorem Ws:∀ (n i:Nat),dep i n≤n:=by
 intro n
 induction n using yby with
 | ind n ih =>
  intro i
  by_cases h2:2≤n
  ·have hs:=eP h2
   by_cases hi:i<spl n
   ·rw [Fs h2 hi];have:=ih (spl n) (by omega) i;omega
   ·rw [Ft h2 hi];have:=ih (n-spl n) (by omega) (i-spl n);omega
  ·rw [Av h2];omega
theorem Ai {l:List Bs} {i:Nat} (h:i<l.length):(eB l i).length≤l.length:=by
 rw [(Ie _ l i rfl h).1];exact Ws _ _
theorem dS {l:Bs} {h:List Blk} {g:Nat→Option Nat}:aM h g (us l)∧wkL (us l) (aX h g (us l)):=cX _ mY
def inE (l:List Bs) (i:Int):Int:=if i<0∨(l.length:Int)≤i then 1 else 0
def inL (l:List Bs) (i:Int):List Bs:=if i<0∨(l.length:Int)≤i then [] else eB l i.toNat
theorem Od {a b:UInt8} {K:Bool→Prop}:eqC (.int .u8) (some (u8 a)) (some (u8 b)) K=K (a==b):=by
 have e:eqK (.int .u8 a.toNat) (.int .u8 b.toNat)=(a==b):=by
  show ((a.toNat:Int)==(b.toNat:Int))=(a==b)
  by_cases h:a=b
  ·subst h;simp
  ·have h2:a.toNat≠b.toNat:=fun h3=>h (UInt8.toNat_inj.1 h3)
   have h3:(a==b)=false:=by simpa using h
   rw [h3];simp;omega
 show ((_∧_)∧K (eqK _ _))=_
 rw [e]
 exact propext ⟨fun h=>h.2,fun h=>⟨⟨rfl,rfl⟩,h⟩⟩
theorem vJ {l1 l2:Bs} {xs ys:List V} (hx:∀ i (h:i<l1.length),xs[i]?=some (u8 l1[i])) (hy:∀ i (h:i<l2.length),ys[i]?=some (u8 l2[i])):∀ {m a:Nat} {K:Bool→Prop},a+m≤l1.length→a+m≤l2.length →
  eS xs ys ((List.range' a m).map fun i=>(i,.int .u8)) K=K ((l1.drop a).take m==(l2.drop a).take m)
 | 0,a,K,_,_=>by simp [eS]
 | m+1,a,K,h1,h2=>by
  rw [List.range'_succ,yaI,eS,hx a (by omega),hy a (by omega),Od,vJ hx hy (by omega) (by omega),ybW (show a<l1.length by omega),ybW (show a<l2.length by omega),ycq,ycq]
  rfl
theorem Ss {l:Bs} {i:Nat} (h:i<l.length):(us l)[i]?=some (u8 l[i]):=by
 rw [Uc h];unfold bn;rw [yat,yan h];rfl
theorem r5 {a b:Bs} (ha:a.length=16) (hb:b.length=16) {K:Bool→Prop}:(cR (j6 (.agg (us a))) fun xs=>cR (j6 (.agg (us b))) fun ys=>eS xs ys ((List.range' 0 16).map fun i=>(i,.int .u8)) K)=K (a==b):=by
 show eS (us a) (us b) _ K=_
 rw [vJ (fun i h=>Ss h) (fun i h=>Ss h) (by omega) (by omega)]
 simp only [ybf]
 rw [yab (by omega),yab (by omega)]
end Go.Fx.H
