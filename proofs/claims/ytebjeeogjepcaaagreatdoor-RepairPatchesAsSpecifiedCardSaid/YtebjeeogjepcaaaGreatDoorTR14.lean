import Derived.Test.YtebjeeogjepcaaaGreatDoorHLow0
import Derived.Test.YtebjeeogjepcaaaGreatDoorHLow
import Derived.Sort.Walk0
import Derived.Shelf.Small.Bits
import Derived.Ground.Names2Prog
import Derived.Ground.NamesProg
import Derived.Test.YtebjeeogjepcaaaGreatDoorProg
import Derived.Shelf.SlSortCmp.WholeK
import Derived.Shelf.SlSortCmp.NoneTotal
import Derived.Shelf.Sort.Plain
import Derived.Shelf.Slices.CompactI
import Derived.Shelf.Slices.In.SortNone
import Derived.Shelf.SlGeneric
import Derived.Shelf.SlLaysF0
import Derived.Ground.SlsfProg
import Derived.Lib.AppendZerosOnto
import Derived.Lib.SliceRun
import Derived.Lib.Walk
import Derived.Lib.SlicesCompact
set_option linter.unusedVariables false
set_option linter.unusedSimpArgs false
set_option linter.unusedSectionVars false
open Nat renaming le_refl → yaa, mul_one → yaf, zero_le → yai, zero_add → yaA, log2 → yaK, lt_or_ge → yaR, add_zero → yaV, min_eq_left → yba, sub_self → ybu, mul_comm → yby, shiftRight_eq_div_pow → ybC, le_trans → ybU, not_lt_zero → ybV, add_mul → ybX, lt_of_lt_of_le → ybZ
open List renaming take_of_length_le → yab, map → yac, take → yad, length_append → yae, length_map → yag, replicate → yak, append_nil → yal, map_append → yam, getD_eq_getElem?_getD → yan, mem_singleton → yao, length_cons → yap, getElem?_eq_getElem → yaq, getElem?_cons_zero → yar, drop_of_length_le → yas, range → yau, mem_append → yav, mem_cons → yax, getElem_map → yay, length_nil → yaz, append_assoc → yaB, not_mem_nil → yaC, map_nil → yaD, drop → yaE, set_cons_zero → yaF, map_cons → yaG, all_cons → yaL, map_take → yaO, take_append_of_le_length → yaP, cons_append → yaQ, replicate_succ → yaT, all_nil → yaU, drop_zero → yaW, length_take → yaX, foldl → yaZ, map_drop → ybc, take_zero → ybd, nil_append → ybf, set_append_right → ybg, length_eq_zero_iff → ybj, getElem?_map → ybo, drop_append_of_le_length → ybp, length_drop → ybq, map_map → ybr, mem_map → ybs, length_replicate → ybt, drop_nil → ybv, length_range → ybx, map_set → ybE, getElem?_append_right → ybG, drop_left → ybH, mem_cons_self → ybI, mem_cons_of_mem → ybJ, pairwise_cons → ybK, foldl_cons → ybL, flatMap_cons → ybM, eq_nil_or_concat → ybN, concat_eq_append → ybO, dropLast_concat → ybP, mem_of_mem_take → ybR, flatten_append → ybT, take_add_one → ybW, pairwise_iff_getElem → ybY, getElem_mem → yca, getElem_of_mem → ycb, set_eq_take_append_cons_drop → yce, take_length_add_append → ycf, pairwise_append → ycg, getElem?_append_left → ych, take_append_drop → yci, take_append_getElem → ycj, length_singleton → yck, getLastD_concat → ycl, getElem_toArray → ycn
open Int renaming toNat_natCast → yah, reduceToNat → yaI, reduceLE → yaJ, reduceLT → yaM, natCast_nonneg → yaN, fdiv_eq_ediv_of_nonneg → ybb, toNat → ybh, natCast_zero → ybi, fdiv → ybn, tmod → ybw, natCast_ediv → ybD, mul_le_mul_of_nonneg_left → ycm
open BitVec renaming ofInt → yaj, ofNat → yaS, ofNat_toNat → ybl, setWidth_eq → ybm, toNat_ofNat → ybA, toNat_ushiftRight → ybB, toNat_ofInt → ybS, ofInt_natCast → ycc, eq_of_toNat_eq → ycd
open Option renaming getD_some → yat
open Bool renaming and_true → yaw, and_self → yaH, and_eq_true → ybe, eq_iff_iff → ybQ
open Array renaming getElem?_modify → yaY, getElem?_append_left → ybz, replicate → ybF
open Option.some renaming injEq → ybk
namespace Go.Fx.H
open Go Go.Fx
abbrev W:=BitVec 32
abbrev w (x:W):V:=.v (.int .u32 (x.toNat:Int))
abbrev u8 (b:UInt8):V:=.v (.int .u8 (b.toNat:Int))
abbrev n64 (n:Nat):V:=.v (.int .u64 (n:Int))
theorem ofI (x:W):yaj 32 (x.toNat:Int)=x:=by
 rw [ycc,ybl,ybm]
theorem wrapN (n:Nat):IntKind.u32.wrap (n:Int)=((yaS 32 n).toNat:Int):=by
 rw [ybA]
 simp [IntKind.wrap,IntKind.bits,IntKind.signed]
theorem Lc (x:W):IntKind.u32.wrap (x.toNat:Int)=(x.toNat:Int):=by
 rw [wrapN,ybl,ybm]
section
variable {x y:W} {K:V→Prop}
theorem nP:b9 .add false .u32 (x.toNat:Int) (y.toNat:Int) K=K (w (x+y)):=by
 show K (.v (.int .u32 (IntKind.u32.wrap (x.toNat+y.toNat))))=_
 rw [←Int.natCast_add,wrapN,BitVec.ofNat_add,ybl,ybl,ybm,ybm]
theorem fI:b9 .xor false .u32 (x.toNat:Int) (y.toNat:Int) K=K (w (x ^^^ y)):=by
 show K (.v (.int .u32 (IntKind.u32.wrap ((yaj 32 (x.toNat:Int) ^^^ yaj 32 (y.toNat:Int)).toNat:Int))))=_
 rw [ofI,ofI,Lc]
theorem Bo:b9 .and false .u32 (x.toNat:Int) (y.toNat:Int) K=K (w (x &&& y)):=by
 show K (.v (.int .u32 (IntKind.u32.wrap ((yaj 32 (x.toNat:Int) &&& yaj 32 (y.toNat:Int)).toNat:Int))))=_
 rw [ofI,ofI,Lc]
theorem Jg:b9 .or false .u32 (x.toNat:Int) (y.toNat:Int) K=K (w (x ||| y)):=by
 show K (.v (.int .u32 (IntKind.u32.wrap ((yaj 32 (x.toNat:Int) ||| yaj 32 (y.toNat:Int)).toNat:Int))))=_
 rw [ofI,ofI,Lc]
theorem Ta:x ^^^ (4294967295#32) = ~~~x:=by
 rw [show (4294967295#32)=BitVec.allOnes 32 from rfl,BitVec.xor_allOnes]
theorem Sk:b9 .xor false .u32 (x.toNat:Int) 4294967295 K=K (w (~~~x)):=by
 have h:((4294967295:Int))=((4294967295#32).toNat:Int):=rfl
 rw [h,fI,Ta]
theorem Xk:b9 .xor false .u32 (if IntKind.signed .u32 then -1 else IntKind.max .u32) (x.toNat:Int) K=K (w (~~~x)):=by
 have h:(if IntKind.signed .u32 then -1 else IntKind.max .u32:Int)=((4294967295#32).toNat:Int):=rfl
 rw [h,fI,BitVec.xor_comm,Ta]
theorem Bn {n:Nat} (hn:n≤32):bL .shl .u32 (x.toNat:Int) (n:Int) K=K (w (x <<< n)):=by
 have h:bL .shl .u32 (x.toNat:Int) (n:Int) K=(0≤(n:Int)∧K (.v (.int .u32 (IntKind.u32.wrap (x.toNat*2 ^ (min (n:Int).toNat 32)))))):=rfl
 rw [h,yah,yba hn]
 have e:((x.toNat:Int)*2 ^ n)=((x.toNat*2 ^ n:Nat):Int):=by simp
 rw [e,wrapN]
 have e2:yaS 32 (x.toNat*2 ^ n)=x <<< n:=by
  apply ycd
  rw [ybA,BitVec.toNat_shiftLeft,Nat.shiftLeft_eq]
 rw [e2]
 exact propext ⟨fun h=>h.2,fun h=>⟨yaN n,h⟩⟩
theorem nO {n:Nat} (hn:n≤32):bL .shr .u32 (x.toNat:Int) (n:Int) K=K (w (x >>> n)):=by
 have h:bL .shr .u32 (x.toNat:Int) (n:Int) K=(0≤(n:Int)∧K (.v (.int .u32 (ybn (x.toNat:Int) (2 ^ (min (n:Int).toNat 32)))))):=rfl
 rw [h,yah,yba hn]
 have e:ybn (x.toNat:Int) (2 ^ n)=((x >>> n).toNat:Int):=by
  have h2:(2:Int) ^ n=((2 ^ n:Nat):Int):=by simp
  rw [ybB,ybC,h2,ybb _ (yaN _),ybD]
 rw [e]
 exact propext ⟨fun h=>h.2,fun h=>⟨yaN n,h⟩⟩
end
def rr (x:W) (n:Nat):W:=(x >>> n) ||| (x <<< (32-n))
theorem Yv:∀ n:Fin 32,n.val≠0→IntKind.u64.wrap (-(n.val:Int))=18446744073709551616-n.val:=by decide
theorem Yu:∀ n:Fin 32,n.val≠0→(IntKind.u64.wrap ((yaj 64 (18446744073709551616-(n.val:Int)) &&& yaj 64 31).toNat:Int))=((32-n.val:Nat):Int):=by decide
structure S8 where
 a:W
 b:W
 c:W
 d:W
 e:W
 f:W
 g:W
 h:W
def S8.l (s:S8):List W:=[s.a,s.b,s.c,s.d,s.e,s.f,s.g,s.h]
def S8.enc (s:S8):List V:=[w s.a,w s.b,w s.c,w s.d,w s.e,w s.f,w s.g,w s.h]
def S8.add (s t:S8):S8:=⟨s.a+t.a,s.b+t.b,s.c+t.c,s.d+t.d,s.e+t.e,s.f+t.f,s.g+t.g,s.h+t.h⟩
def t1 (s:S8) (k x:W):W:=s.h+(rr s.e 6 ^^^ rr s.e 11 ^^^ rr s.e 25)+((s.e &&& s.f) ^^^ (~~~s.e &&& s.g))+k+x
def t2 (s:S8):W:=(rr s.a 2 ^^^ rr s.a 13 ^^^ rr s.a 22)+((s.a &&& s.b) ^^^ (s.a &&& s.c) ^^^ (s.b &&& s.c))
def S8.rnd (s:S8) (k x:W):S8:=⟨t1 s k x+t2 s,s.a,s.b,s.c,s.d+t1 s k x,s.e,s.f,s.g⟩
def kW (i:Nat):W:=yaS 32 (Fw.getD i 0)
def i6 (ws:Nat→W) (s:S8):Nat→S8
 | 0=>s
 | i+1=>(i6 ws s i).rnd (kW i) (ws i)
def B32 (b:UInt8):W:=b.toBitVec.setWidth 32
theorem Uk (b:UInt8):(B32 b).toNat=b.toNat:=by
 unfold B32
 rw [BitVec.toNat_setWidth]
 have:b.toBitVec.toNat=b.toNat:=rfl
 rw [this]
 have:=b.toNat_lt
 omega
theorem Pg {x:W} {b:UInt8} {K:V→Prop}:b9 .or false .u32 (x.toNat:Int) (b.toNat:Int) K=K (w (x ||| B32 b)):=by
 rw [show (b.toNat:Int)=((B32 b).toNat:Int) by rw [Uk],Jg]
theorem Bm {b:UInt8} {n:Nat} {K:V→Prop} (hn:n≤32):bL .shl .u32 (b.toNat:Int) (n:Int) K=K (w (B32 b <<< n)):=by
 rw [show (b.toNat:Int)=((B32 b).toNat:Int) by rw [Uk],Bn hn]
def word (b0 b1 b2 b3:UInt8):W:=(B32 b0 <<< 24) ||| (B32 b1 <<< 16) ||| (B32 b2 <<< 8) ||| B32 b3
theorem Qj (b0 b1 b2 b3:UInt8):(((((0#32 <<< 8 ||| B32 b0) <<< 8) ||| B32 b1) <<< 8 ||| B32 b2) <<< 8 ||| B32 b3)=word b0 b1 b2 b3:=by
 unfold word
 have h:(0#32 <<< 8 ||| B32 b0)=B32 b0:=by simp
 rw [h]
 simp only [BitVec.shiftLeft_or_distrib,←BitVec.shiftLeft_add]
def wn (l:List W) (i:Nat):W:=l.getD i 0
def next (ws:List W):W :=
 let i:=ws.length
 let x:=wn ws (i-15)
 let y:=wn ws (i-2)
 wn ws (i-16)+(rr x 7 ^^^ rr x 18 ^^^ (x >>> 3))+wn ws (i-7)+(rr y 17 ^^^ rr y 19 ^^^ (y >>> 10))
def bn (bs:List UInt8) (i:Nat):UInt8:=bs.getD i 0
def rQ (bs:List UInt8) (i:Nat):W:=word (bn bs (4*i)) (bn bs (4*i+1)) (bn bs (4*i+2)) (bn bs (4*i+3))
def wds (bs:List UInt8):Nat→List W
 | 0=>[]
 | i+1=>wds bs i++[if i<16 then rQ bs i else next (wds bs i)]
theorem eY (bs:List UInt8):∀ i,(wds bs i).length=i
 | 0=>rfl
 | i+1=>by simp [wds,eY bs i]
def dZ (bs:List UInt8) (i:Nat):List W:=wds bs i++yak (64-i) 0
def comp (s:S8) (bs:List UInt8):S8:=s.add (i6 (fun i=>wn (wds bs 64) i) s 64)
def iv:S8:=⟨1779033703,3144134277,1013904242,2773480762,1359893119,2600822924,528734635,1541459225⟩
def ws (l:List W):List V:=l.map w
theorem m6 {l:List W}:(ws l).length=l.length:=by simp [ws]
theorem Qh {l:List W}:(ws l).all isC=true:=by simp [ws,isC,isD]
theorem cW {l:List W} {q:List Blk}:wfL q (ws l):=by
 unfold ws
 induction l with
 | nil=>trivial
 | cons x r ih=>exact ⟨trivial,ih⟩
theorem Qf {l:List W} {n:Nat}:(ws l).take n=ws (l.take n):=by simp [ws,yaO]
theorem Qg {l:List W} {n:Nat}:(ws l).drop n=ws (l.drop n):=by simp [ws,ybc]
theorem Lb {l:List W} {f:Nat→Option Nat}:cH f (ws l)=ws l:=by
 unfold ws
 induction l with
 | nil=>rfl
 | cons x r ih=>exact congrArg (w x::·) ih
theorem Uv {l:List W} {i:Nat} {x:W} (hi:i<l.length):(ws l).take i++w x::(ws l).drop (i+1)=ws (l.set i x):=by
 unfold ws
 rw [ybE,yce,if_pos (by simpa using hi)]
theorem y6 {l:List W} {i:Nat} {x:W} (hi:i<l.length):(ws l).take i++[w x]++(ws l).drop (i+1)=ws (l.set i x):=by
 rw [←Uv hi]
 simp
theorem nJ {l:List W} {i:Nat} (hi:i<l.length):(ws l)[i]?=some (w (wn l i)):=by
 unfold ws wn
 rw [ybo,yaq hi,yan,yaq hi]
 rfl
def z64:List W:=yak 64 0
theorem i7:z64.length=64:=rfl
theorem w0:yac V.v (ybF 64 (Value.int IntKind.u32 0)).toList=ws z64:=rfl
theorem Qi {l:List W} (h:l.length=64):(ws l).take 64=ws l:=by rw [Qf,yab (by omega)]
theorem Ha {l:List W} (h:l.length=64):(ws l).drop 64=[]:=by rw [Qg,yas (by omega)];rfl
attribute [irreducible] ws z64
def by1 (b:UInt8):List V:=[u8 b]
theorem Ug {b:UInt8}:(by1 b)[0]?=some (u8 b):=rfl
end Go.Fx.H
namespace Go.Fx.H
open Go Go.Fx
abbrev Bs:=List UInt8
def dQ (s:S8) (m:Bs):Nat→S8
 | 0=>s
 | k+1=>comp (dQ s m k) ((m.drop (64*k)).take 64)
theorem pF {s:S8} {m c:Bs}:∀ {k:Nat},64*k≤m.length→dQ s (m++c) k=dQ s m k
 | 0,_=>rfl
 | k+1,h=>by
  rw [dQ,dQ,pF (by omega),ybp (by omega),yaP (by simp;omega)]
structure Stm where
 st:S8
 blk:Bs
 n:Nat
structure Rp (S:Stm) (m:Bs):Prop where
 n:S.n=m.length
 len:S.blk.length=64
 st:S.st=dQ iv m (m.length/64)
 blk:S.blk.take (m.length%64)=m.drop (64*(m.length/64))
def k6 (blk c:Bs) (j:Nat):Bs:=blk.take j++c++blk.drop (j+c.length)
theorem Ct {blk c:Bs} {j:Nat} (h:j+c.length≤blk.length):(k6 blk c j).length=blk.length:=by
 unfold k6;simp;omega
theorem Rp.step {S:Stm} {m c:Bs} (h:Rp S m) (hc:S.n%64+c.length≤64) :
  Rp ⟨if S.n%64+c.length=64 then comp S.st (k6 S.blk c (S.n%64)) else S.st,k6 S.blk c (S.n%64),S.n+c.length⟩ (m++c):=by
 have hn:=h.n
 have hl:=h.len
 have hb:=h.blk
 have hdl:(m.drop (64*(m.length/64))).length=m.length%64:=by rw [ybq];omega
 rw [hn] at hc ⊢
 have hpl:(k6 S.blk c (m.length%64)).length=64:=by rw [Ct (by omega),hl]
 have htk:(k6 S.blk c (m.length%64)).take (m.length%64+c.length)=m.drop (64*(m.length/64))++c:=by
  unfold k6
  rw [hb,yaP (by rw [yae,hdl];exact yaa _),yab (by rw [yae,hdl];exact yaa _)]
 by_cases h64:m.length%64+c.length=64
 ·have e1:(m++c).length/64=m.length/64+1:=by rw [yae];omega
  have e2:(m++c).length%64=0:=by rw [yae];omega
  refine ⟨by simp,hpl,?_,?_⟩
  ·simp only [if_pos h64]
   rw [e1,dQ,pF (by omega),h.st]
   congr 1
   rw [ybp (by omega),←htk,h64,List.take_take,Nat.min_self,yab (by omega)]
  ·rw [e2,e1]
   simp only [ybd]
   rw [yas (by rw [yae];omega)]
 ·have e1:(m++c).length/64=m.length/64:=by rw [yae];omega
  have e2:(m++c).length%64=m.length%64+c.length:=by rw [yae];omega
  refine ⟨by simp,hpl,?_,?_⟩
  ·simp only [if_neg h64]
   rw [e1,pF (by omega),h.st]
  ·rw [e1,e2]
   show (k6 S.blk c (m.length%64)).take _=_
   rw [htk,ybp (by omega)]
def len8 (n:Nat):Bs:=(yau 8).map fun i=>UInt8.ofNat (8*n/2 ^ (56-8*i))
def zeros (n:Nat):Nat:=(119-n%64)%64
def pad (n:Nat):Bs:=128::(yak (zeros n) 0++len8 n)
theorem uG (n:Nat):(n+1+zeros n)%64=56:=by unfold zeros;omega
def Xy (m:Bs):S8:=dQ iv (m++pad m.length) ((m++pad m.length).length/64)
def o6 (s:S8) (i:Nat):UInt8:=UInt8.ofNat ((wn s.l (i/4)).toNat/2 ^ (24-8*(i%4)))
def sha (m:Bs):Bs:=(yau 32).map (o6 (Xy m))
def sC (st:S8) (blk:Bs) (n:Nat):List V:=st.enc++(blk.map u8++[n64 n])
section
variable {s:S8} {b:Bs} {n:Nat}
theorem eL (h:b.length=64):(sC s b n).length=73:=by simp [sC,S8.enc,h]
theorem rS (h:b.length=64):(b.map u8).length=64:=by simpa using h
theorem Ra (h:b.length=64):(sC s b n)[72]?=some (n64 n):=by
 unfold sC
 rw [ybG (by simp [S8.enc]),ybG (by simp [S8.enc,h])]
 simp [S8.enc,h]
theorem Xz:(sC s b n).take 8=s.enc:=by
 unfold sC
 rw [yaP (by simp [S8.enc]),yab (by simp [S8.enc])]
theorem Vk {m:Nat} (h:b.length=64):(sC s b n).take 72++[n64 m]++(sC s b n).drop 73=sC s b m:=by
 rw [yas (by rw [eL h];exact yaa _),yal]
 unfold sC
 rw [show (72:Nat)=s.enc.length+64 from rfl,ycf,yaP (by rw [rS h];exact yaa _),yab (by rw [rS h];exact yaa _),yaB]
theorem Vj {t:S8}:t.enc++(sC s b n).drop 8=sC t b n:=by
 unfold sC
 rw [show (8:Nat)=s.enc.length from rfl,ybH]
theorem Rb {c:Bs} {j:Nat} (h:b.length=64) (hj:j+c.length≤64):(sC s b n).take (8+j)++c.map u8++(sC s b n).drop (8+j+c.length)=sC s (k6 b c j) n:=by
 unfold sC k6
 have e8:(8:Nat)=s.enc.length:=rfl
 rw [show 8+j=s.enc.length+j from rfl,ycf,Nat.add_assoc,List.drop_length_add_append]
 rw [yaP (by simp;omega),ybp (by simp;omega)]
 simp [yaO,ybc,yaB]
theorem Qz (h:b.length=64):(((sC s b n).drop 8).take 64).map (fun c=>[c])=b.map by1:=by
 unfold sC
 rw [show (8:Nat)=s.enc.length from rfl,ybH,yaP (by rw [rS h];exact yaa _),yab (by rw [rS h];exact yaa _),ybr]
 rfl
theorem Me (h:b.length=64):(((sC s b n).drop 8).take 64).all isD=true:=by
 unfold sC
 rw [show (8:Nat)=s.enc.length from rfl,ybH,yaP (by rw [rS h];exact yaa _),yab (by rw [rS h];exact yaa _)]
 simp [isD]
theorem Rc:(sC s b n).all isC=true:=by simp [sC,S8.enc,isC,isD]
theorem iR {q:List Blk}:wfL q (sC s b n):=by
 have:∀ l:List V,l.all isD=true→wfL q l:=by
  intro l
  induction l with
  | nil=>intro _;trivial
  | cons x r ih =>
   intro h
   simp only [yaL,ybe] at h
   refine ⟨?_,ih h.2⟩
   cases x<;>simp [isD] at h<;>trivial
 exact this _ (by simp [sC,S8.enc,isD])
theorem jN (h:b.length=64):(sC s b n).take 73=sC s b n:=yab (by rw [eL h];exact yaa _)
theorem uT (h:b.length=64):(sC s b n).drop 73=[]:=yas (by rw [eL h];exact yaa _)
theorem tX {f:Nat→Option Nat}:cH f (sC s b n)=sC s b n:=by
 have:∀ l:List V,l.all isD=true→(∀ x∈l,∃ u,x=.v u)→cH f l=l:=by
  intro l
  induction l with
  | nil=>intro _ _;rfl
  | cons x r ih =>
   intro h hx
   obtain ⟨u,rfl⟩:=hx x ybI
   simp only [yaL,ybe] at h
   show V.v u::cH f r=_
   rw [ih h.2 fun y hy=>hx y (ybJ _ hy)]
 refine this _ (by simp [sC,S8.enc,isD]) ?_
 intro x hx
 simp only [sC,S8.enc,yav,ybs,yax,yaC,or_false] at hx
 rcases hx with (rfl|rfl|rfl|rfl|rfl|rfl|rfl|rfl)|⟨u,_,rfl⟩|rfl<;>exact ⟨_,rfl⟩
end
attribute [irreducible] sC
end Go.Fx.H

namespace Go.Fx.R
abbrev Sp:=Int × Int
def Sep (l:List Sp):Prop:=(∀ s∈l,s.1<s.2)∧l.Pairwise (fun s t=>s.2<t.1)
def inS (l:List Sp) (x:Int):Prop:=∃ s∈l,s.1≤x∧x<s.2
theorem mB:Sep []:=⟨by simp,.nil⟩
theorem fA {s:Sp} {l:List Sp}:Sep (s::l)↔s.1<s.2∧(∀ t∈l,s.2<t.1)∧Sep l:=by
 unfold Sep
 rw [ybK]
 simp only [yax,forall_eq_or_imp]
 constructor
 ·rintro ⟨⟨h1,h2⟩,h3,h4⟩;exact ⟨h1,h3,h2,h4⟩
 ·rintro ⟨h1,h3,h2,h4⟩;exact ⟨⟨h1,h2⟩,h3,h4⟩
theorem hO {l m:List Sp}:Sep (l++m)↔Sep l∧Sep m∧∀ s∈l,∀ t∈m,s.2<t.1:=by
 unfold Sep
 rw [ycg]
 simp only [yav]
 constructor
 ·rintro ⟨h1,h2,h3,h4⟩
  exact ⟨⟨fun s h=>h1 s (.inl h),h2⟩,⟨fun s h=>h1 s (.inr h),h3⟩,h4⟩
 ·rintro ⟨⟨h1,h2⟩,⟨h3,h4⟩,h5⟩
  exact ⟨fun s h=>h.elim (h1 s) (h3 s),h2,h4,h5⟩
theorem fS {s:Sp}:Sep [s]↔s.1<s.2:=by simp [Sep]
theorem dS {x:Int}:inS [] x↔False:=by simp [inS]
theorem cS {s:Sp} {l:List Sp} {x:Int}:inS (s::l) x↔(s.1≤x∧x<s.2)∨inS l x:=by
 simp [inS]
theorem mJ {l m:List Sp} {x:Int}:inS (l++m) x↔inS l x∨inS m x:=by
 simp only [inS,yav]
 constructor
 ·rintro ⟨s,h|h,h1⟩
  ·exact .inl ⟨s,h,h1⟩
  ·exact .inr ⟨s,h,h1⟩
 ·rintro (⟨s,h,h1⟩|⟨s,h,h1⟩)
  ·exact ⟨s,.inl h,h1⟩
  ·exact ⟨s,.inr h,h1⟩
theorem Ny {l:List Sp} {b x:Int} (h:∀ t∈l,b<t.1) (hx:inS l x):b<x:=by
 obtain ⟨t,h1,h2,_⟩:=hx
 have:=h t h1
 omega
theorem Sep.ext:∀ {l m:List Sp},Sep l→Sep m→(∀ x,inS l x↔inS m x)→l=m
 | [],[],_,_,_=>rfl
 | [],t::m,_,h,e=>by
  rw [fA] at h
  have:=(e t.1).2 (cS.2 (.inl ⟨by omega,h.1⟩))
  exact (dS.1 this).elim
 | s::l,[],h,_,e=>by
  rw [fA] at h
  have:=(e s.1).1 (cS.2 (.inl ⟨by omega,h.1⟩))
  exact (dS.1 this).elim
 | s::l,t::m,hl,hm,e=>by
  rw [fA] at hl hm
  obtain ⟨a1,a2,a3⟩:=hl
  obtain ⟨b1,b2,b3⟩:=hm
  have lb:∀ x,inS l x→s.2<x:=fun x h=>Ny a2 h
  have mb:∀ x,inS m x→t.2<x:=fun x h=>Ny b2 h
  have e':∀ x,((s.1≤x∧x<s.2)∨inS l x)↔((t.1≤x∧x<t.2)∨inS m x):=fun x=>by
   rw [←cS,←cS];exact e x
  have h1:s.1=t.1:=by
   have p:=(e' s.1).1 (.inl ⟨by omega,a1⟩)
   have q:=(e' t.1).2 (.inl ⟨by omega,b1⟩)
   have p':t.1≤s.1:=by
    rcases p with p|p
    ·exact p.1
    ·have:=mb _ p;omega
   have q':s.1≤t.1:=by
    rcases q with q|q
    ·exact q.1
    ·have:=lb _ q;omega
   omega
  have h2:s.2=t.2:=by
   rcases Int.lt_trichotomy s.2 t.2 with c|c|c
   ·have p:=(e' s.2).2 (.inl ⟨by omega,c⟩)
    rcases p with p|p
    ·omega
    ·have:=lb _ p;omega
   ·exact c
   ·have p:=(e' t.2).1 (.inl ⟨by omega,c⟩)
    rcases p with p|p
    ·omega
    ·have:=mb _ p;omega
  have h3:s=t:=Prod.ext h1 h2
  subst h3
  congr 1
  refine Sep.ext a3 b3 fun x=>⟨fun h=>?_,fun h=>?_⟩
  ·have:=lb x h
   rcases (e' x).1 (.inr h) with p|p
   ·omega
   ·exact p
  ·have:=mb x h
   rcases (e' x).2 (.inr h) with p|p
   ·omega
   ·exact p
def jQ (st:List Sp × Bool × Sp) (t:Sp):List Sp × Bool × Sp :=
 if t.2<st.2.2.1 then (st.1++[t],st.2.1,st.2.2)
 else if st.2.2.2<t.1 then ((if st.2.1 then st.1 else st.1++[st.2.2])++[t],true,st.2.2)
 else (st.1,st.2.1,(min st.2.2.1 t.1,max st.2.2.2 t.2))
def pG (st:List Sp × Bool × Sp):List Sp:=if st.2.1 then st.1 else st.1++[st.2.2]
def Gw (l:List Sp) (s:Sp):List Sp:=if s.2≤s.1 then l else pG (l.foldl jQ ([],false,s))
theorem Bt:∀ (q:List Sp) (o:List Sp) (t:Sp) (S:Int→Prop),Sep q→Sep (o++[t])→(∀ u∈o,∀ v∈q,u.2<v.1)→(∀ x,inS (o++[t]) x↔S x) →
  Sep (pG (q.foldl jQ (o,false,t)))∧∀ x,inS (pG (q.foldl jQ (o,false,t))) x↔S x∨inS q x
 | [],o,t,S,_,h2,_,h4=>by
  refine ⟨by simpa [pG] using h2,fun x=>?_⟩
  rw [dS,or_false,←h4];simp [pG]
 | v::q,o,t,S,h1,h2,h3,h4=>by
  obtain ⟨v1,v2,v3⟩:=fA.1 h1
  obtain ⟨o1,o2,o3⟩:=hO.1 h2
  have t1:t.1<t.2:=fS.1 o2
  have o4:∀ u∈o,u.2<t.1:=fun u hu=>o3 u hu t (by simp)
  rw [ybL]
  by_cases c1:v.2<t.1
  ·have e:jQ (o,false,t) v=(o++[v],false,t):=if_pos c1
   rw [e]
   have r:=Bt q (o++[v]) t (fun x=>S x∨inS [v] x) v3 (by
    rw [yaB]
    refine hO.2 ⟨o1,fA.2 ⟨v1,by simpa using c1,fS.2 t1⟩,fun u hu w hw=>?_⟩
    simp only [yaQ,ybf,yax,yaC,or_false] at hw
    rcases hw with rfl|rfl
    ·exact h3 u hu _ (by simp)
    ·exact o4 u hu) (fun u hu w hw=>by
    rw [yav,yao] at hu
    rcases hu with hu|rfl
    ·exact h3 u hu w (by simp [hw])
    ·exact v2 w hw) (fun x=>by
    rw [←h4]
    simp only [mJ,cS,dS,or_false]
    constructor
    ·rintro ((h|h)|h)<;>simp [h]
    ·rintro ((h|h)|h)<;>simp [h])
   refine ⟨r.1,fun x=>(r.2 x).trans ?_⟩
   simp only [cS,dS,or_false,or_assoc]
  ·by_cases c2:t.2<v.1
   ·have e:jQ (o,false,t) v=(o++[t]++[v],true,t):=by
     show (if v.2<t.1 then _ else if t.2<v.1 then ((if false=true then o else o++[t])++[v],true,t) else _)=_
     rw [if_neg c1,if_pos c2];rfl
    rw [e]
    have tl:∀ (q o:List Sp),(∀ w∈q,t.2<w.1∧w.1<w.2)→q.foldl jQ (o,true,t)=(o++q,true,t):=by
     intro q
     induction q with
     | nil=>intro o _;simp
     | cons w q ih =>
      intro o hq
      have hw:=hq w (by simp)
      rw [ybL]
      have e:jQ (o,true,t) w=(o++[w],true,t):=by
       show (if w.2<t.1 then _ else if t.2<w.1 then ((if true=true then o else o++[t])++[w],true,t) else _)=_
       rw [if_neg (by omega),if_pos hw.1];rfl
      rw [e,ih _ fun w hw=>hq w (by simp [hw])]
      simp
    rw [tl q _ fun w hw=>⟨by have:=v2 w hw;omega,v3.1 w hw⟩]
    have e2:pG (o++[t]++[v]++q,true,t)=(o++[t])++(v::q):=by simp [pG]
    rw [e2]
    refine ⟨hO.2 ⟨h2,h1,fun u hu w hw=>?_⟩,fun x=>by rw [mJ,h4]⟩
    rw [yav,yao] at hu
    rcases hu with hu|rfl
    ·exact h3 u hu w hw
    ·rw [yax] at hw
     rcases hw with rfl|hw
     ·exact c2
     ·have:=v2 w hw;omega
   ·have e:jQ (o,false,t) v=(o,false,(min t.1 v.1,max t.2 v.2)):=by
     show (if v.2<t.1 then _ else if t.2<v.1 then _ else (o,false,(min t.1 v.1,max t.2 v.2)))=_
     rw [if_neg c1,if_neg c2]
    rw [e]
    have r:=Bt q o (min t.1 v.1,max t.2 v.2) (fun x=>S x∨inS [v] x) v3 (by
     refine hO.2 ⟨o1,fS.2 (by show min t.1 v.1<max t.2 v.2;omega),fun u hu w hw=>?_⟩
     rw [yao] at hw
     subst hw
     have:=o4 u hu
     have:=h3 u hu v (by simp)
     show u.2<min t.1 v.1
     omega) (fun u hu w hw=>h3 u hu w (by simp [hw])) (fun x=>by
     rw [←h4]
     simp only [mJ,cS,dS,or_false]
     constructor
     ·rintro (h|h)
      ·exact .inl (.inl h)
      ·by_cases c:t.1≤x∧x<t.2
       ·exact .inl (.inr c)
       ·exact .inr (by omega)
     ·rintro ((h|h)|h)
      ·exact .inl h
      ·exact .inr (by omega)
      ·exact .inr (by omega))
    refine ⟨r.1,fun x=>(r.2 x).trans ?_⟩
    simp only [cS,dS,or_false,or_assoc]
theorem uS {l:List Sp} {s:Sp} (h:Sep l):Sep (Gw l s):=by
 unfold Gw
 split
 ·exact h
 ·exact (Bt l [] s (inS [s]) h (by simpa [fS] using Int.not_le.1 ‹_›) (by simp) (by simp)).1
theorem Iw {l:List Sp} {s:Sp} {x:Int} (h:Sep l):inS (Gw l s) x↔inS l x∨(s.1≤x∧x<s.2):=by
 unfold Gw
 split
 ·constructor
  ·exact .inl
  ·rintro (h|h)
   ·exact h
   ·omega
 ·rw [(Bt l [] s (inS [s]) h (by simpa [fS] using Int.not_le.1 ‹_›) (by simp) (by simp)).2]
  rw [cS,dS,or_false,or_comm]
def Ec (a b:List Sp):List Sp:=b.foldl Gw a
theorem x9:∀ {b a:List Sp},Sep a→Sep (Ec a b)
 | [],_,h=>h
 | _::b,_,h=>x9 (b:=b) (uS h)
theorem Do {x:Int}:∀ {b a:List Sp},Sep a→(inS (Ec a b) x↔inS a x∨inS b x)
 | [],_,_=>by simp [Ec,dS]
 | s::b,a,h=>by
  have:=Do (x:=x) (b:=b) (uS (s:=s) h)
  show inS (Ec (Gw a s) b) x↔_
  rw [this,Iw h,cS,or_assoc]
def ofS (l:List Sp):List Sp:=Ec [] l
theorem Ae {l:List Sp}:Sep (ofS l):=x9 mB
theorem Ga {l:List Sp} {x:Int}:inS (ofS l) x↔inS l x:=by
 unfold ofS
 rw [Do mB,dS,false_or]
def w7 (s t:Sp):List Sp:=(if min t.2 s.1≤t.1 then [] else [(t.1,min t.2 s.1)])++(if t.2≤max t.1 s.2 then [] else [(max t.1 s.2,t.2)])
def Gi (l:List Sp) (s:Sp):List Sp:=if s.2≤s.1 then l else l.flatMap (w7 s)
theorem Bh {s t u:Sp} (h:u∈w7 s t):t.1≤u.1∧u.2≤t.2∧u.1<u.2:=by
 unfold w7 at h
 rw [yav] at h
 rcases h with h|h
 ·split at h
  ·simp at h
  ·rw [yao] at h;subst h;simp only;omega
 ·split at h
  ·simp at h
  ·rw [yao] at h;subst h;simp only;omega
theorem Oz {s t:Sp} (hs:s.1<s.2):Sep (w7 s t):=by
 unfold w7
 refine hO.2 ⟨?_,?_,?_⟩
 ·split
  ·exact mB
  ·exact fS.2 (by simp only;omega)
 ·split
  ·exact mB
  ·exact fS.2 (by simp only;omega)
 ·intro a ha b hb
  split at ha
  ·simp at ha
  ·split at hb
   ·simp at hb
   ·rw [yao] at ha hb;subst ha hb;simp only;omega
theorem Pa {s t:Sp} {x:Int}:inS (w7 s t) x↔(t.1≤x∧x<t.2)∧¬(s.1≤x∧x<s.2)∨(t.1≤x∧x<t.2∧s.2≤s.1)∧inS (w7 s t) x:=by
 constructor
 ·intro h
  by_cases c:s.2≤s.1
  ·obtain ⟨u,h1,h2,h3⟩:=h
   have:=Bh h1
   exact .inr ⟨⟨by omega,by omega,c⟩,⟨u,h1,h2,h3⟩⟩
  ·refine .inl ?_
   obtain ⟨u,h1,h2,h3⟩:=h
   unfold w7 at h1
   rw [yav] at h1
   rcases h1 with h1|h1
   ·split at h1
    ·simp at h1
    ·rw [yao] at h1;subst h1;simp only at h2 h3;omega
   ·split at h1
    ·simp at h1
    ·rw [yao] at h1;subst h1;simp only at h2 h3;omega
 ·rintro (⟨⟨h1,h2⟩,h3⟩|h)
  ·unfold w7
   rw [mJ]
   by_cases c:x<s.1
   ·left
    rw [if_neg (by omega)]
    exact cS.2 (.inl ⟨by simp only;omega,by simp only;omega⟩)
   ·right
    rw [if_neg (by omega)]
    exact cS.2 (.inl ⟨by simp only;omega,by simp only;omega⟩)
  ·exact h.2
theorem Dv {s:Sp} (hs:s.1<s.2):∀ {l:List Sp},Sep l→Sep (l.flatMap (w7 s))
 | [],_=>mB
 | t::l,h=>by
  obtain ⟨h1,h2,h3⟩:=fA.1 h
  rw [ybM]
  refine hO.2 ⟨Oz hs,Dv hs h3,fun a ha b hb=>?_⟩
  rw [List.mem_flatMap] at hb
  obtain ⟨u,hu,hb⟩:=hb
  have:=Bh ha
  have:=Bh hb
  have:=h2 u hu
  omega
theorem Lz {l:List Sp} {s:Sp} (h:Sep l):Sep (Gi l s):=by
 unfold Gi
 split
 ·exact h
 ·exact Dv (by omega) h
theorem Rt {l:List Sp} {s:Sp} {x:Int}:inS (Gi l s) x↔inS l x∧¬(s.1≤x∧x<s.2):=by
 unfold Gi
 split
 ·constructor
  ·exact fun h=>⟨h,by omega⟩
  ·exact fun h=>h.1
 ·have hs:¬s.2≤s.1:=‹_›
  have:∀ l:List Sp,inS (l.flatMap (w7 s)) x↔inS l x∧¬(s.1≤x∧x<s.2):=by
   intro l
   induction l with
   | nil=>simp [dS]
   | cons t l ih =>
    rw [ybM,mJ,ih,cS,Pa]
    constructor
    ·rintro ((h|h)|h)
     ·exact ⟨.inl h.1,h.2⟩
     ·omega
     ·exact ⟨.inr h.1,h.2⟩
    ·rintro ⟨h|h,h'⟩
     ·exact .inl (.inl ⟨h,h'⟩)
     ·exact .inr ⟨h,h'⟩
  exact this l
def nE (a b:List Sp):List Sp:=b.foldl Gi a
theorem uR:∀ {b a:List Sp},Sep a→Sep (nE a b)
 | [],_,h=>h
 | _::b,_,h=>uR (b:=b) (Lz h)
theorem yN {x:Int}:∀ {b a:List Sp},inS (nE a b) x↔inS a x∧¬inS b x
 | [],a=>by simp [nE,dS]
 | s::b,a=>by
  have:=yN (x:=x) (b:=b) (a:=Gi a s)
  show inS (nE (Gi a s) b) x↔_
  rw [this,Rt,cS,not_or,and_assoc]
def mrg (o:List Sp) (s:Sp):List Sp :=
 if s.2≤s.1 then o else
  match o.getLast? with
  | none=>[s]
  | some t=>if s.1≤t.2 then o.dropLast++[(t.1,max t.2 s.2)] else o++[s]
theorem Nl:∀ (d:List Sp) (o:List Sp),d.Pairwise (fun s t=>s.1≤t.1)→Sep o→(∀ s∈o,∀ t∈d,s.1≤t.1) →
  Sep (d.foldl mrg o)∧∀ x,inS (d.foldl mrg o) x↔inS o x∨inS d x
 | [],o,_,h,_=>⟨h,by simp [dS]⟩
 | s::d,o,hp,h,ho=>by
  obtain ⟨hp1,hp2⟩:=ybK.1 hp
  rw [ybL]
  have key:Sep (mrg o s)∧(∀ x,inS (mrg o s) x↔inS o x∨(s.1≤x∧x<s.2))∧∀ u∈mrg o s,∀ t∈d,u.1≤t.1:=by
   unfold mrg
   by_cases c:s.2≤s.1
   ·rw [if_pos c]
    refine ⟨h,fun x=>?_,fun u hu t ht=>ho u hu t (by simp [ht])⟩
    constructor
    ·exact .inl
    ·rintro (h|h)
     ·exact h
     ·omega
   ·rw [if_neg c]
    rcases ybN o with rfl|⟨p,t,rfl⟩
    ·simp only [List.getLast?_nil]
     refine ⟨fS.2 (by omega),fun x=>by rw [cS,dS];simp,fun u hu t ht=>?_⟩
     rw [yao] at hu
     subst hu
     exact hp1 t ht
    ·rw [ybO] at *
     simp only [List.getLast?_append,List.getLast?_singleton,Option.some_or,ybP]
     obtain ⟨p1,p2,p3⟩:=hO.1 h
     have t1:=fS.1 p2
     have hts:=ho t (by simp) s (by simp)
     have p4:∀ u∈p,u.2<t.1:=fun u hu=>p3 u hu t (by simp)
     by_cases c2:s.1≤t.2
     ·rw [if_pos c2]
      refine ⟨hO.2 ⟨p1,fS.2 (by simp only;omega),fun u hu w hw=>by rw [yao] at hw;subst hw;exact p4 u hu⟩,fun x=>?_,fun u hu w hw=>?_⟩
      ·simp only [mJ,cS,dS,or_false,or_assoc]
       constructor
       ·rintro (h|h)
        ·exact .inl h
        ·by_cases c3:x<t.2
         ·exact .inr (.inl ⟨h.1,c3⟩)
         ·exact .inr (.inr (by omega))
       ·rintro (h|h|h)
        ·exact .inl h
        ·exact .inr (by omega)
        ·exact .inr (by omega)
      ·rw [yav,yao] at hu
       rcases hu with hu|rfl
       ·exact ho u (by simp [hu]) w (by simp [hw])
       ·exact ho t (by simp) w (by simp [hw])
     ·rw [if_neg c2]
      refine ⟨hO.2 ⟨h,fS.2 (by omega),fun u hu w hw=>?_⟩,fun x=>by simp only [mJ,cS,dS,or_false],fun u hu w hw=>?_⟩
      ·rw [yao] at hw;subst hw
       rw [yav,yao] at hu
       rcases hu with hu|rfl
       ·have:=p4 u hu;omega
       ·omega
      ·rw [yav,yao (b:=s)] at hu
       rcases hu with hu|rfl
       ·exact ho u hu w (by simp [hw])
       ·exact hp1 w hw
  have r:=Nl d (mrg o s) hp2 key.1 key.2.2
  refine ⟨r.1,fun x=>?_⟩
  rw [r.2,key.2.1,cS,or_assoc]
theorem Wk {d l:List Sp} (hp:d.Pairwise (fun s t=>s.1≤t.1)) (hm:∀ s,s∈d↔s∈l):d.foldl mrg []=ofS l:=by
 have r:=Nl d [] hp mB (by simp)
 refine Sep.ext r.1 Ae fun x=>?_
 rw [r.2,Ga,dS,false_or]
 simp only [inS,hm]
end Go.Fx.R
namespace Go.Fx.H
open Go Go.Fx Go.Proofs Go.Fx.R
abbrev Ok (f:FuncId) (xs:List V) (R:V→List Blk→Prop):Prop:=OkN Tryz.prog f xs [] [] R
theorem bO {f:FuncId} {l0 l:LCode} {rs:List fJ} {nt:Nat} (hl:rlF Tryz.prog f l0=some (l,rs,nt)) {args:List V} {R:V→List Blk→Prop} (hlen:args.length≤nt)
  (h:aw (cxN Tryz.prog []) l (eZ [] 0 rs R) (fun _ _=>False) (eZ [] 0 rs R) ⟨aH 0 args,[],0⟩):Ok f args R :=
 f9 pol [] hl hlen trivial (fun k hk=>by simp at hk) h
theorem agG {a c:Int} {K:V→Prop} {x:Bool}:b9 .and x .u64 a c K=K (.v (.int .u64 (IntKind.u64.wrap ((yaj 64 a &&& yaj 64 c).toNat:Int)))):=rfl
theorem adJ:Ac 0 64=some mI:=by kernel_rfl
theorem adI:Ac 1 64=some mI:=by kernel_rfl
def sb (l:Bs):ByteArray:=⟨l.toArray⟩
abbrev sv (l:Bs):V:=.v (.string (sb l))
theorem aU {l:Bs}:(sb l).size=l.length:=rfl
theorem cO {l:Bs}:(sb l).toList=l:=(ByteArray.toList_eq _).trans rfl
theorem Tm {b:ByteArray}:∃ l,b=sb l:=⟨b.data.toList,by cases b;simp [sb]⟩
theorem d6:Value.string ⟨#[]⟩=.string (sb []):=rfl
theorem eD {l:Bs} {a b:Nat}:(sb l).extract a b=sb ((l.take b).drop a):=by
 apply ByteArray.ext
 show ((sb l).extract a b).data=_
 rw [ByteArray.data_extract]
 apply Array.ext'
 simp [sb,Array.toList_extract,List.extract,List.drop_take]
theorem Xe {P:Program} {fx:List Nat}:(cxN P fx).fx=fx:=rfl
theorem xF {cx:Cx} {f:FuncId} {args:List V} {e:Env} {h:List Blk} {b:Nat} {K:V→St→Prop} {G:Type} (Q:G→Prop) (xs:List V) (x:G→V) (hC:cx.C f xs [] [] (IsQ Q x (fun _=>[])))
  (h1:aG h (fun _=>none) args∧wkL xs (aS h (fun _=>none) args)) (hx:∀ g,ren (fun j=>some (h.length+j)) (x g)=x g) (keep:aC cx.fx h) (h3:∀ g,Q g→K (x g) ⟨e,h,b⟩):eX cx f args ⟨e,h,b⟩ K:=by
 refine pE xs _ h1 hC ?_
 rintro r h' ⟨g,hg,rfl,rfl⟩
 simp only [yaD,yal]
 exact ⟨keep,by rw [hx];exact h3 g hg⟩
theorem dC {fx:List Nat} {f:(St→Prop)→St→Prop} {s:St} {G:Type} (pat:G→St) (I:G→Prop) (μ:G→Nat) (g:G) (h0:I g) (h1:leS fx s (pat g))
  (h:∀ g,I g→∀ N:St→Prop,(∀ s' g',I g'→μ g'<μ g→leS fx s' (pat g')→N s')→f N (pat g)):s6 fx f s :=
 aR pat I μ g h0 h1 fun g hg=>h g hg _ fun s' g' a b c=>⟨g',⟨a,b⟩,c⟩
def enS (s:Sp):List V:=[.i s.1,.i s.2]
def encI (x:Int):List V:=[.i x]
abbrev aO (l:List Sp):V:=.ro 2 (l.map enS)
theorem cG {s:Sp}:(enS s).length=2:=rfl
theorem cQ {s:Sp}:yad 2 (enS s)=enS s:=rfl
theorem tC {s:Sp}:(enS s)[0]?=some (.i s.1):=rfl
theorem mT {s:Sp}:(enS s)[1]?=some (.i s.2):=rfl
theorem lE {s:Sp}:(enS s).all isC=true:=rfl
theorem oP {s:Sp}:(enS s).all isD=true:=rfl
theorem nL {s:Sp}:yaE 2 (enS s)=[]:=rfl
theorem iY {s:Sp} {M:List Nat}:bM M (enS s)=enS s:=rfl
theorem Xb {x:Int}:(encI x)[0]?=some (.i x):=rfl
def enL (a:List Sp):List V:=[aO a]
theorem Ud {a:List Sp}:(enL a)[0]?=some (aO a):=rfl
theorem abN {s t:Sp} {K:Bool→Prop}:(c6 (lK (V.agg (enS s))) fun xs=>c6 (lK (V.agg (enS t))) fun ys=>fH xs ys [(0,TypeDesc.int IntKind.i64),(1,TypeDesc.int IntKind.i64)] K)=K (s==t):=by
 have e:(s.1==t.1&&(s.2==t.2&&true))=(s==t):=by
  obtain ⟨a,b⟩:=s
  obtain ⟨c,d⟩:=t
  rw [ybQ]
  simp
 apply propext
 rw [←e]
 constructor
 ·exact fun h=>h.2.2
 ·exact fun h=>⟨⟨rfl,rfl⟩,⟨rfl,rfl⟩,h⟩
def Bd (l:List Sp):Prop:=∀ s∈l,(0≤s.1∧s.1≤1099511627776)∧0≤s.2∧s.2≤1099511627776
def Vd (l:List Sp):Prop:=Sep l∧Bd l
def vdB:Int→List Sp→Bool
 | _,[]=>true
 | t,s::r=>(decide (0≤s.1)&&decide (s.1<s.2)&&decide (s.2≤1099511627776))&&decide (t<s.1)&&vdB s.2 r
theorem Hj:∀ {l:List Sp} {t:Int},vdB t l=true↔Vd l∧∀ s∈l,t<s.1
 | [],t=>by simp [vdB,Vd,mB,Bd]
 | s::r,t=>by
  have ih:=Hj (l:=r) (t:=s.2)
  simp only [vdB,ybe,decide_eq_true_eq,ih,Vd,fA,Bd,yax,forall_eq_or_imp]
  constructor
  ·rintro ⟨⟨⟨⟨h1,h2⟩,h3⟩,h4⟩,⟨h5,h6⟩,h7⟩
   exact ⟨⟨⟨h2,h7,h5⟩,⟨⟨h1,by omega⟩,by omega,h3⟩,h6⟩,h4,fun u hu=>by have:=h7 u hu;omega⟩
  ·rintro ⟨⟨⟨h2,h7,h5⟩,⟨⟨h1,_⟩,_,h3⟩,h6⟩,h4,_⟩
   exact ⟨⟨⟨⟨h1,h2⟩,h3⟩,h4⟩,⟨h5,h6⟩,h7⟩
def vd (l:List Sp):Bool:=vdB (-1) l
theorem Lh {l:List Sp}:vd l=true↔Vd l:=by
 unfold vd
 rw [Hj]
 constructor
 ·exact fun h=>h.1
 ·exact fun h=>⟨h,fun s hs=>by have:=(h.2 s hs).1.1;omega⟩
def tot (l:List Sp):Int:=(l.map fun s=>s.2-s.1).sum
theorem Qs:tot []=0:=rfl
theorem jZ {s:Sp} {l:List Sp}:tot (s::l)=s.2-s.1+tot l:=by simp [tot]
theorem Qt {l m:List Sp}:tot (l++m)=tot l+tot m:=by simp [tot]
theorem Lo:∀ {l:List Sp} {a b:Int},Sep l→(∀ s∈l,a≤s.1∧s.2≤b)→a≤b→0≤tot l∧tot l≤b-a
 | [],a,b,_,_,h=>by rw [Qs];omega
 | s::l,a,b,h1,h2,h=>by
  obtain ⟨h3,h4,h5⟩:=fA.1 h1
  have hs:=h2 s (by simp)
  have ih:=Lo (l:=l) (a:=s.2) (b:=b) h5 (fun t ht=>⟨by have:=h4 t ht;omega,(h2 t (by simp [ht])).2⟩) hs.2
  rw [jZ]
  omega
theorem Vd.tot {l:List Sp} (h:Vd l):0≤tot l∧H.tot l≤1099511627776:=by
 have:=Lo (a:=0) (b:=1099511627776) h.1 (fun s hs=>⟨(h.2 s hs).1.1,(h.2 s hs).2.2⟩) (by omega)
 omega
theorem Vd.tail {s:Sp} {l:List Sp} (h:Vd (s::l)):Vd l:=⟨(fA.1 h.1).2.2,fun t ht=>h.2 t (by simp [ht])⟩
theorem Vd.take {l:List Sp} (h:Vd l) (k:Nat):Vd (l.take k):=⟨⟨fun s hs=>h.1.1 s (ybR hs),h.1.2.sublist (List.take_sublist k l)⟩,fun t ht=>h.2 t (ybR ht)⟩
theorem Vd.len {l:List Sp} (h:Vd l):l.length≤1099511627776:=by
 have key:∀ {l:List Sp},Sep l→(l.length:Int)≤H.tot l:=by
  intro l
  induction l with
  | nil=>intro _;simp [H.tot]
  | cons s l ih =>
   intro h
   obtain ⟨h1,h2,h3⟩:=fA.1 h
   have:=ih h3
   rw [jZ,yap]
   omega
 have:=key h.1
 have:=h.tot
 omega
theorem Ti {l:List Sp} (h:Sep l) (hx:∀ x,inS l x→0≤x∧x<1099511627776):Vd l:=by
 refine ⟨h,fun s hs=>?_⟩
 have h1:=h.1 s hs
 have a:=hx s.1 ⟨s,hs,by omega,h1⟩
 have b:=hx (s.2-1) ⟨s,hs,by omega,by omega⟩
 omega
theorem Vd.in {l:List Sp} (h:Vd l) {x:Int} (hx:inS l x):0≤x∧x<1099511627776:=by
 obtain ⟨s,hs,h1,h2⟩:=hx
 have:=h.2 s hs
 omega
theorem abY {l:List Sp} (h:Bd l) {x:Int} (hx:inS l x):0≤x∧x<1099511627776:=by
 obtain ⟨s,hs,h1,h2⟩:=hx
 have:=h s hs
 omega
def BdS (s:Sp):Prop:=(0≤s.1∧s.1≤1099511627776)∧0≤s.2∧s.2≤1099511627776
theorem Vd.add {l:List Sp} {s:Sp} (h:Vd l) (hs:BdS s):Vd (Gw l s):=Ti (uS h.1) fun x hx=>by
 rw [Iw h.1] at hx
 rcases hx with hx|hx
 ·exact h.in hx
 ·unfold BdS at hs;omega
theorem Vd.of {l:List Sp} (h:Bd l):Vd (ofS l):=Ti Ae fun x hx=>abY h (Ga.1 hx)
theorem Ys:∀ n:Fin 32,n.val≠0→IntKind.u64.wrap (32-((32-n.val:Nat):Int))=(n.val:Int):=by decide
theorem vF (x:W) (n:Nat) (h:1≤n∧n≤31):Ok 211 [w x,.i (-(n:Int))] (Is (w (rr x n))):=by
 have ra:=Yv ⟨n,by omega⟩ (by simp;omega)
 have rb:=Yu ⟨n,by omega⟩ (by simp;omega)
 have rc:=Ys ⟨n,by omega⟩ (by simp;omega)
 simp only at ra rb rc
 refine bO lw211 (by simp) ?_
 unfold c211
 have s1:∀ {K:V→Prop},bL .shl .u32 (x.toNat:Int) ((32-n:Nat):Int) K=K (w (x <<< (32-n))):=Bn (by omega)
 have s2:∀ {K:V→Prop},bL .shr .u32 (x.toNat:Int) (n:Int) K=K (w (x >>> n)):=nO (by omega)
 simp -implicitDefEqProofs only [rX,↓rY,aA,↓reduceIte,Nat.reduceEqDiff,reduceCtorEq,aT,aY,wfV,cxN,aH,↓agG,ra,rb,rc,↓s1,↓s2,↓Jg]
 unfold rr
 rw [BitVec.or_comm]
theorem oN (x:W) (n:Nat) (h:1≤n∧n≤31):Ok 208 [w x,.i n] (Is (w (rr x n))):=by
 refine bO lw208 (by simp) ?_
 unfold c208
 have s1:∀ {K:V→Prop},bL .shl .u32 (x.toNat:Int) ((32-n:Nat):Int) K=K (w (x <<< (32-n))):=Bn (by omega)
 have s2:∀ {K:V→Prop},bL .shr .u32 (x.toNat:Int) (n:Int) K=K (w (x >>> n)):=nO (by omega)
 have e:(32-(n:Int))=((32-n:Nat):Int):=by omega
 simp -implicitDefEqProofs only [rX,↓rY,aA,↓reduceIte,Nat.reduceEqDiff,reduceCtorEq,aT,aY,wfV,cxN,aH,e,↓s1,↓s2,↓Jg]
 exact ⟨by simp only [lo,Fx.hi];omega,rfl⟩
theorem An {a:Nat} (h:a≤31):IntKind.i64.wrap (-(a:Int))=-(a:Int):=by
 have:=(show ∀ n:Fin 32,IntKind.i64.wrap (-(n.val:Int))=-(n.val:Int) by decide) ⟨a,by omega⟩
 simpa using this
theorem Tt (x:W) (a b c:Nat) (ha:1≤a∧a≤31) (hb:1≤b∧b≤31) (hc:1≤c∧c≤31):Ok 183 [w x,.i a,.i b,.i c] (Is (w (rr x a ^^^ rr x b ^^^ rr x c))):=by
 refine bO lw183 (by simp) ?_
 unfold c183
 simp -implicitDefEqProofs only [rX,aA,↓reduceIte,Nat.reduceEqDiff,Nat.reduceAdd,reduceCtorEq,cxN,aH,An ha.2,An hb.2,An hc.2]
 refine aE (vF x a ha) (by simp [aG,bA,aS,cK,wkL,wk,wkR]) rfl trivial ?_
 simp -implicitDefEqProofs only [rX,↓reduceIte,Nat.reduceEqDiff,reduceCtorEq,An hb.2,An hc.2]
 refine aE (vF x b hb) (by simp [aG,bA,aS,cK,wkL,wk,wkR]) rfl trivial ?_
 simp -implicitDefEqProofs only [rX,↓reduceIte,Nat.reduceEqDiff,reduceCtorEq,An hb.2,An hc.2,↓fI]
 refine aE (vF x c hc) (by simp [aG,bA,aS,cK,wkL,wk,wkR]) rfl trivial ?_
 simp -implicitDefEqProofs only [rX,↓reduceIte,Nat.reduceEqDiff,aT,aY,wfV,An hb.2,An hc.2,↓fI]
set_option maxRecDepth 20000
theorem m8 (bs:List UInt8) {i:Nat} (hi:i≤64):(dZ bs i).length=64:=by
 unfold dZ
 rw [yae,eY,ybt]
 omega
theorem Lp (bs:List UInt8):dZ bs 0=z64:=by unfold dZ z64;rfl
theorem Hl (bs:List UInt8):dZ bs 64=wds bs 64:=by simp [dZ]
theorem uN (bs:List UInt8) {i:Nat} (hi:i<64) (x:W) (hx:x=if i<16 then rQ bs i else next (wds bs i)):(dZ bs i).set i x=dZ bs (i+1):=by
 unfold dZ
 rw [ybg _ _ (by rw [eY];exact yaa _),eY,ybu,show 64-i=(64-(i+1))+1 by omega,yaT,yaF]
 subst hx
 simp [wds]
theorem gR (bs:List UInt8) {i j:Nat} (hi:i≤64) (hj:j<i):wn (dZ bs i) j=wn (wds bs i) j:=by
 unfold dZ wn
 rw [yan,yan,ych (by rw [eY];exact hj)]
def part (bs:List UInt8) (i:Nat):Nat→W
 | 0=>0
 | j+1=>part bs i j <<< 8 ||| B32 (bn bs (4*i+j))
theorem Wb (bs:List UInt8) (i:Nat):part bs i 4=rQ bs i:=by
 unfold rQ
 rw [←Qj]
 rfl
def l9 (bs:List UInt8) (i j:Nat):List W:=(dZ bs i).set i (part bs i j)
theorem Uy (bs:List UInt8) {i:Nat} (hi:i<64):l9 bs i 0=dZ bs i:=by
 unfold l9 dZ
 rw [ybg _ _ (by rw [eY];exact yaa _),eY,ybu,show 64-i=(64-(i+1))+1 by omega,yaT,yaF]
 rfl
theorem Lr (bs:List UInt8) {i j:Nat} (hi:i≤64):(l9 bs i j).length=64:=by
 unfold l9
 rw [List.length_set,m8 bs hi]
theorem Ls (bs:List UInt8) {i j:Nat} (hi:i<64):wn (l9 bs i j) i=part bs i j:=by
 unfold l9 wn
 rw [yan,List.getElem?_set_self (by rw [m8 bs (by omega)];exact hi)]
 rfl
theorem Lq (bs:List UInt8) {i j:Nat} (x:W) (hx:x=part bs i (j+1)):(l9 bs i j).set i x=l9 bs i (j+1):=by
 unfold l9
 rw [List.set_set,hx]
abbrev byV (bs:List UInt8):V:=.bro 1 (bs.map by1)
set_option maxHeartbeats 1000000 in
theorem Zp (bs:List UInt8) (hb:bs.length=64):Ok 182 [byV bs] (Is (.agg (ws (wds bs 64)))):=by
 refine bO lw182 (by simp) ?_
 unfold c182
 simp -implicitDefEqProofs only [rX,↓rY,aA,cells?,Nat.reduceAdd,aD,cxN,aH,w0]
 have lW:(wds bs 64).length=64:=eY bs 64
 refine dC (fun i:Nat=>(⟨[(11,.i i),(3,.ptr 1 0 0),(2,.ptr 0 0 0),(0,byV bs)],[.var (ws z64),.var (ws (dZ bs i))],2⟩:St)) (fun i=>i≤64) (fun i=>64-i) 0 (yai _) ?_ ?_
 ·rw [Lp]
  exact ⟨by simp -implicitDefEqProofs only [rX,↓reduceIte,Nat.reduceEqDiff,reduceCtorEq,leE];rfl,aV _,trivial,by simp -implicitDefEqProofs only [rX,aB,wfE,wfV],⟨cW,cW,trivial⟩⟩
 intro i hi N hN
 simp only [c182l0]
 simp -implicitDefEqProofs only [rX,↓rY,aA,cells?,splice,↓reduceIte,Nat.reduceEqDiff,Nat.reduceAdd,reduceCtorEq,cC,aT,aY,wfV,yaf]
 cases h1:decide ((i:Int)<64) with
 | false =>
  have h1':=of_decide_eq_false h1
  have:i=64:=by omega
  subst this
  simp -implicitDefEqProofs only [rX,↓rY,Hl,m6,Qi lW,lW,i7,Ha i7,Qh,cW]
 | true =>
  have h1':=of_decide_eq_true h1
  have hi64:i<64:=by omega
  have lT:(dZ bs i).length=64:=m8 bs hi
  have fin:∀ (x:W) (e:Env),x=(if i<16 then rQ bs i else next (wds bs i))→get e 3=.ptr 1 0 0→get e 2=.ptr 0 0 0→get e 0=byV bs →
    N (⟨(11,.i ((i:Int)+1))::e,[.var (ws z64),.var (ws ((dZ bs i).set i x))],2⟩:St):=by
   intro x e hx e3 e2 e0
   refine hN _ (i+1) (by omega) (by omega) ?_
   rw [uN bs hi64 x hx]
   exact ⟨by simp -implicitDefEqProofs only [rX,↓reduceIte,Nat.reduceEqDiff,reduceCtorEq,leE,e3,e2,e0];simp,aV _,trivial,by simp -implicitDefEqProofs only [rX,aB,wfE,wfV],⟨cW,cW,trivial⟩⟩
  have sp:∀ x:W,yad i (ws (dZ bs i))++[w x]++yaE (i+1) (ws (dZ bs i))=ws ((dZ bs i).set i x):=fun x=>y6 (by omega)
  simp -implicitDefEqProofs only [↓rY]
  cases h2:decide ((i:Int)<16) with
  | true =>
   have h2':=of_decide_eq_true h2
   have h4:yad ((4*(i:Int)+4).toNat-(4*(i:Int)).toNat) (yaE (4*(i:Int)).toNat (yac by1 bs))=((bs.drop (4*i)).take 4).map by1:=by
    rw [show (4*(i:Int)+4).toNat-(4*(i:Int)).toNat=4 by omega,show (4*(i:Int)).toNat=4*i by omega,yaO,ybc]
   have l4:((bs.drop (4*i)).take 4).length=4:=by simp;omega
   have a1:(lo IntKind.i64≤4*(i:Int)∧4*(i:Int)≤Fx.hi IntKind.i64):=by simp only [lo,Fx.hi];omega
   have a2:(lo IntKind.i64≤4*(i:Int)+4∧4*(i:Int)+4≤Fx.hi IntKind.i64):=by simp only [lo,Fx.hi];omega
   have a3:((0≤4*(i:Int)∧4*(i:Int)≤4*(i:Int)+4)∧4*(i:Int)+4≤(bs.length:Int)∧(bs.length:Int)≤(bs.length:Int)):=by omega
   simp -implicitDefEqProofs only [rX,↓rY,h4,l4,eq_true a1,eq_true a2,eq_true a3]
   intro _
   refine dC (fun j:Nat=>(⟨[(24,.i j),(23,.i 4),(22,.bro 1 (((bs.drop (4*i)).take 4).map by1)),(4,.i i),(11,.i i),(3,.ptr 1 0 0),(2,.ptr 0 0 0),(0,byV bs)],[.var (ws z64),.var (ws (l9 bs i j))],2⟩:St)) (fun j=>j≤4) (fun j=>4-j) 0 (yai _) ?_ ?_
   ·rw [Uy bs hi64]
    exact ⟨by simp -implicitDefEqProofs only [rX,↓reduceIte,Nat.reduceEqDiff,reduceCtorEq,leE];exact ⟨rfl,rfl⟩,aV _,trivial,by simp -implicitDefEqProofs only [rX,aB,wfE,wfV],⟨cW,cW,trivial⟩⟩
   intro j hj M hM
   have lP:(l9 bs i j).length=64:=Lr bs hi
   simp only [c182l1]
   simp -implicitDefEqProofs only [rX,↓rY,aA,cells?,splice,↓reduceIte,Nat.reduceEqDiff,Nat.reduceAdd,yay,yah,Ug,yaf]
   cases h3:decide ((j:Int)<4) with
   | false =>
    have h3':=of_decide_eq_false h3
    have:j=4:=by omega
    subst this
    have hq:l9 bs i 4=(dZ bs i).set i (rQ bs i):=by unfold l9;rw [Wb]
    simp -implicitDefEqProofs only [↓rY,hq]
    exact ⟨by simp only [lo,Fx.hi];omega,fin _ _ (by rw [if_pos (by omega)]) rfl rfl rfl⟩
   | true =>
    have h3':=of_decide_eq_true h3
    have hj4:j<4:=by omega
    have hg:((bs.drop (4*i)).take 4)[j]'(by omega)=bn bs (4*i+j):=by
     unfold bn
     rw [List.getElem_take,List.getElem_drop,yan,yaq (by omega)]
     rfl
    have s8:∀ {x:W} {K:V→Prop},bL .shl .u32 (x.toNat:Int) 8 K=K (w (x <<< 8)):=fun {x K}=>Bn (n:=8) (by omega)
    have gi:(ws (l9 bs i j))[i]?=some (w (part bs i j)):=by rw [nJ (by omega),Ls bs hi64]
    have spP:∀ x:W,yad i (ws (l9 bs i j))++[w x]++yaE (i+1) (ws (l9 bs i j))=ws ((l9 bs i j).set i x):=fun x=>y6 (by omega)
    simp -implicitDefEqProofs only [rX,↓rY,isC,Nat.reduceLeDiff,gi,↓s8,l4,hg,↓Pg,spP,m6,lP]
    refine ⟨by omega,⟨by omega,by omega,?_,by omega,by omega,by simp only [lo,Fx.hi];omega,?_⟩⟩
    ·have:=(bn bs (4*i+j)).toNat_lt
     simp only [lo,Fx.hi];omega
    refine hM _ (j+1) (by omega) (by omega) ?_
    rw [show (l9 bs i j).set i (part bs i j <<< 8 ||| B32 (bn bs (4*i+j)))=l9 bs i (j+1) from Lq bs _ rfl]
    exact ⟨by simp -implicitDefEqProofs only [rX,↓reduceIte,Nat.reduceEqDiff,reduceCtorEq,leE];simp,aV _,trivial,by simp -implicitDefEqProofs only [rX,aB,wfE,wfV],⟨cW,cW,trivial⟩⟩
  | false =>
   have h2':=of_decide_eq_false h2
   have g15:(ws (dZ bs i))[((i:Int)-15).toNat]?=some (w (wn (wds bs i) (i-15))):=by
    rw [show ((i:Int)-15).toNat=i-15 by omega,nJ (by omega),gR bs hi (by omega)]
   have g2:(ws (dZ bs i))[((i:Int)-2).toNat]?=some (w (wn (wds bs i) (i-2))):=by
    rw [show ((i:Int)-2).toNat=i-2 by omega,nJ (by omega),gR bs hi (by omega)]
   have g16:(ws (dZ bs i))[((i:Int)-16).toNat]?=some (w (wn (wds bs i) (i-16))):=by
    rw [show ((i:Int)-16).toNat=i-16 by omega,nJ (by omega),gR bs hi (by omega)]
   have g7:(ws (dZ bs i))[((i:Int)-7).toNat]?=some (w (wn (wds bs i) (i-7))):=by
    rw [show ((i:Int)-7).toNat=i-7 by omega,nJ (by omega),gR bs hi (by omega)]
   have s3:∀ {x:W} {K:V→Prop},bL .shr .u32 (x.toNat:Int) 3 K=K (w (x >>> 3)):=fun {x K}=>nO (n:=3) (by omega)
   have s10:∀ {x:W} {K:V→Prop},bL .shr .u32 (x.toNat:Int) 10 K=K (w (x >>> 10)):=fun {x K}=>nO (n:=10) (by omega)
   simp -implicitDefEqProofs only [↓rY,g15,g2]
   refine ⟨by simp only [lo,Fx.hi];omega,by omega,by simp only [lo,Fx.hi];omega,by omega,?_⟩
   refine aE (vF (wn (wds bs i) (i-15)) 7 (by omega)) (by simp [aG,bA,aS,cK,wkL,wk,wkR]) rfl trivial ?_
   simp -implicitDefEqProofs only [rX,aA,↓reduceIte,Nat.reduceEqDiff]
   refine aE (vF (wn (wds bs i) (i-15)) 18 (by omega)) (by simp [aG,bA,aS,cK,wkL,wk,wkR]) rfl trivial ?_
   simp -implicitDefEqProofs only [qH,qK,qQ,qR,qT,zb,zn,zN,zS,zU,zV,zX,aA,yaz,yap,↓reduceIte,Nat.reduceEqDiff,zZ,yal,yaA,Nat.reduceAdd,yaG,yaD,true_and,wm,↓fI,↓s3]
   refine aE (vF (wn (wds bs i) (i-2)) 17 (by omega)) (by simp [aG,bA,aS,cK,wkL,wk,wkR]) rfl trivial ?_
   simp -implicitDefEqProofs only [rX,aA,↓reduceIte,Nat.reduceEqDiff]
   refine aE (vF (wn (wds bs i) (i-2)) 19 (by omega)) (by simp [aG,bA,aS,cK,wkL,wk,wkR]) rfl trivial ?_
   simp -implicitDefEqProofs only [qH,qI,qQ,qR,qT,qX,qY,zb,zn,zv,zS,zT,zU,zV,zX,aA,cells?,yaz,yap,yaF,splice,zY,yan,yar,↓reduceIte,Nat.reduceEqDiff,yat,zZ,yal,yaA,Nat.reduceAdd,yaL,yaU,isC,yaw,yaH,true_and,and_true,and_self,yaC,not_false_eq_true,Nat.reduceLeDiff,lg0,kj,wm,↓wo,↓wq,↓wu,↓wx,↓wz,↓wB,↓wE,↓jv,↓jy,yah,yaf,↓nP,↓fI,↓s10,g16,g7,yaf,sp,m6,lT]
   refine ⟨by simp only [lo,Fx.hi];omega,by omega,by simp only [lo,Fx.hi];omega,by omega,by omega,by omega,by simp only [lo,Fx.hi];omega,?_⟩
   exact fin _ _ (by rw [if_neg (by omega)];unfold next;rw [eY]) rfl rfl rfl
set_option maxRecDepth 20000
theorem Bp {bs:List UInt8} {i:Nat} (h:i<bs.length):bs[i]=bn bs i:=by
 unfold bn
 rw [yan,yaq h]
 rfl
theorem b8 {b:UInt8}:lo .u32≤(b.toNat:Int)∧(b.toNat:Int)≤Fx.hi .u32:=by
 have:=b.toNat_lt
 simp only [lo,Fx.hi];omega
set_option maxHeartbeats 1000000 in
theorem Zm (bs:List UInt8) (hb:bs.length=64):Ok 207 [byV bs] (Is (.agg (ws (wds bs 64)))):=by
 refine bO lw207 (by simp) ?_
 unfold c207
 simp -implicitDefEqProofs only [rX,↓rY,aA,cells?,Nat.reduceAdd,aD,cxN,aH,w0]
 have lW:(wds bs 64).length=64:=eY bs 64
 refine dC (fun i:Nat=>(⟨[(4,.i i),(3,.ptr 1 0 0),(2,.ptr 0 0 0),(0,byV bs)],[.var (ws z64),.var (ws (dZ bs i))],2⟩:St)) (fun i=>i≤16) (fun i=>16-i) 0 (yai _) ?_ ?_
 ·rw [Lp]
  exact ⟨by simp -implicitDefEqProofs only [rX,↓reduceIte,Nat.reduceEqDiff,reduceCtorEq,leE];rfl,aV _,trivial,by simp -implicitDefEqProofs only [rX,aB,wfE,wfV],⟨cW,cW,trivial⟩⟩
 intro i hi N hN
 have lT:(dZ bs i).length=64:=m8 bs (by omega)
 have sp:∀ x:W,yad i (ws (dZ bs i))++[w x]++yaE (i+1) (ws (dZ bs i))=ws ((dZ bs i).set i x):=fun x=>y6 (by omega)
 simp only [c207l0]
 simp -implicitDefEqProofs only [rX,↓rY,aA,cells?,splice,↓reduceIte,Nat.reduceEqDiff,Nat.reduceAdd,reduceCtorEq,yay,yah,Ug,yaf]
 cases h1:decide ((i:Int)<16) with
 | true =>
  have h1':=of_decide_eq_true h1
  have s24:∀ {b:UInt8} {K:V→Prop},bL .shl .u32 (b.toNat:Int) 24 K=K (w (B32 b <<< 24)):=fun {b K}=>Bm (n:=24) (by omega)
  have s16:∀ {b:UInt8} {K:V→Prop},bL .shl .u32 (b.toNat:Int) 16 K=K (w (B32 b <<< 16)):=fun {b K}=>Bm (n:=16) (by omega)
  have s8:∀ {b:UInt8} {K:V→Prop},bL .shl .u32 (b.toNat:Int) 8 K=K (w (B32 b <<< 8)):=fun {b K}=>Bm (n:=8) (by omega)
  have g0:(lo IntKind.i64≤4*(i:Int)∧4*(i:Int)≤Fx.hi IntKind.i64):=by simp only [lo,Fx.hi];omega
  have g1:(lo IntKind.i64≤4*(i:Int)+1∧4*(i:Int)+1≤Fx.hi IntKind.i64):=by simp only [lo,Fx.hi];omega
  have g2:(lo IntKind.i64≤4*(i:Int)+2∧4*(i:Int)+2≤Fx.hi IntKind.i64):=by simp only [lo,Fx.hi];omega
  have g3:(lo IntKind.i64≤4*(i:Int)+3∧4*(i:Int)+3≤Fx.hi IntKind.i64):=by simp only [lo,Fx.hi];omega
  have j0:(0≤4*(i:Int)∧4*(i:Int)<(bs.length:Int)):=by omega
  have j1:(0≤4*(i:Int)+1∧4*(i:Int)+1<(bs.length:Int)):=by omega
  have j2:(0≤4*(i:Int)+2∧4*(i:Int)+2<(bs.length:Int)):=by omega
  have j3:(0≤4*(i:Int)+3∧4*(i:Int)+3<(bs.length:Int)):=by omega
  have t0:(4*(i:Int)).toNat=4*i:=by omega
  have t1:(4*(i:Int)+1).toNat=4*i+1:=by omega
  have t2:(4*(i:Int)+2).toNat=4*i+2:=by omega
  have t3:(4*(i:Int)+3).toNat=4*i+3:=by omega
  have k0:4*i<bs.length:=by omega
  have k1:4*i+1<bs.length:=by omega
  have k2:4*i+2<bs.length:=by omega
  have k3:4*i+3<bs.length:=by omega
  have b0:=Bp k0
  have b1:=Bp k1
  have b2:=Bp k2
  have b3:=Bp k3
  simp -implicitDefEqProofs only [rX,↓rY,isC,Nat.reduceLeDiff,eq_true g0,eq_true g1,eq_true g2,eq_true g3,eq_true j0,eq_true j1,eq_true j2,eq_true j3,t0,t1,t2,t3,eq_true k0,eq_true k1,eq_true k2,eq_true k3,b0,b1,b2,b3,exists_prop,↓s24,↓s16,↓s8,↓Jg,↓Pg,eq_true b8,sp,m6,lT]
  refine ⟨by omega,by omega,by simp only [lo,Fx.hi];omega,?_⟩
  refine hN _ (i+1) (by omega) (by omega) ?_
  rw [show (dZ bs i).set i (B32 (bn bs (4*i)) <<< 24 ||| B32 (bn bs (4*i+1)) <<< 16 ||| B32 (bn bs (4*i+2)) <<< 8 ||| B32 (bn bs (4*i+3)))=dZ bs (i+1) from uN bs (by omega) _ (by rw [if_pos (by omega)];rfl)]
  exact ⟨by simp -implicitDefEqProofs only [rX,↓reduceIte,Nat.reduceEqDiff,reduceCtorEq,leE];simp,aV _,trivial,by simp -implicitDefEqProofs only [rX,aB,wfE,wfV],⟨cW,cW,trivial⟩⟩
 | false =>
  have h1':=of_decide_eq_false h1
  have:i=16:=by omega
  subst this
  simp -implicitDefEqProofs only [↓rY]
  clear hN N sp lT h1 h1' hi
  refine dC (fun i:Nat=>(⟨[(5,.i i),(3,.ptr 1 0 0),(2,.ptr 0 0 0),(0,byV bs)],[.var (ws z64),.var (ws (dZ bs i))],2⟩:St)) (fun i=>16≤i∧i≤64) (fun i=>64-i) 16 (by omega) ?_ ?_
  ·exact ⟨by simp -implicitDefEqProofs only [rX,↓reduceIte,Nat.reduceEqDiff,reduceCtorEq,leE];rfl,aV _,trivial,by simp -implicitDefEqProofs only [rX,aB,wfE,wfV],⟨cW,cW,trivial⟩⟩
  rintro i ⟨hi0,hi⟩ N hN
  have lT:(dZ bs i).length=64:=m8 bs (by omega)
  simp only [c207l1]
  simp -implicitDefEqProofs only [rX,↓rY,rdK,aA,cells?,splice,↓reduceIte,Nat.reduceEqDiff,Nat.reduceAdd,aT,aY,wfV,yaf]
  cases h1:decide ((i:Int)<64) with
  | false =>
   have h1':=of_decide_eq_false h1
   have:i=64:=by omega
   subst this
   simp -implicitDefEqProofs only [rX,↓rY,Hl,m6,Qi lW,lW,i7,Ha i7,Qh,cW]
  | true =>
   have h1':=of_decide_eq_true h1
   have sp:∀ x:W,yad i (ws (dZ bs i))++[w x]++yaE (i+1) (ws (dZ bs i))=ws ((dZ bs i).set i x):=fun x=>y6 (by omega)
   have g15:(ws (dZ bs i))[((i:Int)-15).toNat]?=some (w (wn (wds bs i) (i-15))):=by
    rw [show ((i:Int)-15).toNat=i-15 by omega,nJ (by omega),gR bs hi (by omega)]
   have g2:(ws (dZ bs i))[((i:Int)-2).toNat]?=some (w (wn (wds bs i) (i-2))):=by
    rw [show ((i:Int)-2).toNat=i-2 by omega,nJ (by omega),gR bs hi (by omega)]
   have g16:(ws (dZ bs i))[((i:Int)-16).toNat]?=some (w (wn (wds bs i) (i-16))):=by
    rw [show ((i:Int)-16).toNat=i-16 by omega,nJ (by omega),gR bs hi (by omega)]
   have g7:(ws (dZ bs i))[((i:Int)-7).toNat]?=some (w (wn (wds bs i) (i-7))):=by
    rw [show ((i:Int)-7).toNat=i-7 by omega,nJ (by omega),gR bs hi (by omega)]
   have s3:∀ {x:W} {K:V→Prop},bL .shr .u32 (x.toNat:Int) 3 K=K (w (x >>> 3)):=fun {x K}=>nO (n:=3) (by omega)
   have s10:∀ {x:W} {K:V→Prop},bL .shr .u32 (x.toNat:Int) 10 K=K (w (x >>> 10)):=fun {x K}=>nO (n:=10) (by omega)
   have a15:(lo IntKind.i64≤(i:Int)-15∧(i:Int)-15≤Fx.hi IntKind.i64):=by simp only [lo,Fx.hi];omega
   have c15:(0≤(i:Int)-15∧(i:Int)-15<((64:Nat):Int)):=by omega
   have a2:(lo IntKind.i64≤(i:Int)-2∧(i:Int)-2≤Fx.hi IntKind.i64):=by simp only [lo,Fx.hi];omega
   have c2:(0≤(i:Int)-2∧(i:Int)-2<((64:Nat):Int)):=by omega
   have a16:(lo IntKind.i64≤(i:Int)-16∧(i:Int)-16≤Fx.hi IntKind.i64):=by simp only [lo,Fx.hi];omega
   have c16:(0≤(i:Int)-16∧(i:Int)-16<((64:Nat):Int)):=by omega
   have a7:(lo IntKind.i64≤(i:Int)-7∧(i:Int)-7≤Fx.hi IntKind.i64):=by simp only [lo,Fx.hi];omega
   have c7:(0≤(i:Int)-7∧(i:Int)-7<((64:Nat):Int)):=by omega
   simp -implicitDefEqProofs only [rX,↓rY,g15,↓s3,eq_true a15,eq_true a2,eq_true a16,eq_true a7,eq_true c15,eq_true c2,eq_true c16,eq_true c7]
   refine aE (oN (wn (wds bs i) (i-15)) 7 (by omega)) (by simp [aG,bA,aS,cK,wkL,wk,wkR]) rfl trivial ?_
   simp -implicitDefEqProofs only [rX,aA,↓reduceIte,Nat.reduceEqDiff]
   refine aE (oN (wn (wds bs i) (i-15)) 18 (by omega)) (by simp [aG,bA,aS,cK,wkL,wk,wkR]) rfl trivial ?_
   simp -implicitDefEqProofs only [rX,↓rY,rdK,aA,↓reduceIte,Nat.reduceEqDiff,Nat.reduceAdd,yaf,↓fI,g2,↓s10,eq_true a15,eq_true a2,eq_true a16,eq_true a7,eq_true c15,eq_true c2,eq_true c16,eq_true c7]
   refine aE (oN (wn (wds bs i) (i-2)) 17 (by omega)) (by simp [aG,bA,aS,cK,wkL,wk,wkR]) rfl trivial ?_
   simp -implicitDefEqProofs only [rX,aA,↓reduceIte,Nat.reduceEqDiff]
   refine aE (oN (wn (wds bs i) (i-2)) 19 (by omega)) (by simp [aG,bA,aS,cK,wkL,wk,wkR]) rfl trivial ?_
   simp -implicitDefEqProofs only [qa,qe,qA,qC,qH,qI,qQ,qR,qT,qX,qY,zb,zv,zS,zT,zU,zV,zX,aA,cells?,yaz,yap,yaF,splice,zY,yan,yar,↓reduceIte,Nat.reduceEqDiff,yat,zZ,yal,yaA,Nat.reduceAdd,yaL,yaU,isC,yaw,yaH,true_and,and_true,and_self,yaC,not_false_eq_true,Nat.reduceLeDiff,lg0,kj,wm,↓wo,↓wq,↓wu,↓wx,↓wz,↓wB,↓wE,↓jv,↓jy,yah,yaf,↓fI,↓nP,g16,g7,sp,m6,lT,eq_true a15,eq_true a2,eq_true a16,eq_true a7,eq_true c15,eq_true c2,eq_true c16,eq_true c7]
   refine ⟨by omega,by omega,by simp only [lo,Fx.hi];omega,?_⟩
   refine hN _ (i+1) (by omega) (by omega) ?_
   rw [uN bs (by omega) _ (by rw [if_neg (by omega)];unfold next;rw [eY])]
   exact ⟨by simp -implicitDefEqProofs only [rX,↓reduceIte,Nat.reduceEqDiff,reduceCtorEq,leE];simp,aV _,trivial,by simp -implicitDefEqProofs only [rX,aB,wfE,wfV],⟨cW,cW,trivial⟩⟩
set_option maxRecDepth 20000
def kA:List V:=mI.map V.v
theorem Nt:yac V.v mI=kA:=rfl
theorem Nu {i:Nat} (h:i<64):kA[i]?=some (w (kW i)):=by
 have:∀ i:Fin 64,Fw.getD i.val 0<4294967296∧i.val<Fw.length:=by decide +kernel
 obtain ⟨h1,h2⟩:=this ⟨i,h⟩
 simp only at h1 h2
 unfold kA mI kW
 rw [ybr,ybo,yaq h2]
 rw [yan,yaq h2] at h1 ⊢
 simp only [yat] at h1
 have h3:(yaS 32 Fw[i]).toNat=Fw[i]:=by rw [ybA];omega
 simp only [Option.map_some,Function.comp,yat,w]
 rw [h3]
theorem Tg {q:List Blk}:∀ l:List Value,wfL q (l.map V.v)
 | []=>trivial
 | _::r=>⟨trivial,Tg r⟩
theorem Ub {q:List Blk}:wfL q kA:=Tg mI
attribute [irreducible] kA
def stp (s r:S8) (i:Nat):S8:=⟨if 0<i then s.a+r.a else s.a,if 1<i then s.b+r.b else s.b,if 2<i then s.c+r.c else s.c,if 3<i then s.d+r.d else s.d,if 0<i then s.e+r.e else s.e,if 1<i then s.f+r.f else s.f,if 2<i then s.g+r.g else s.g,if 3<i then s.h+r.h else s.h⟩
theorem Xv (s r:S8):stp s r 4=s.add r:=rfl
theorem n0:((0:Nat):Int)=0:=rfl
theorem n1:((1:Nat):Int)=1:=rfl
theorem n2:((2:Nat):Int)=2:=rfl
theorem n3:((3:Nat):Int)=3:=rfl
theorem n8:((8:Nat):Int)=8:=rfl
theorem m64:((64:Nat):Int)=64:=rfl
theorem n4:((4:Nat):Int)=4:=rfl
abbrev z8:List V:=[.v (.int .u32 0),.v (.int .u32 0),.v (.int .u32 0),.v (.int .u32 0),.v (.int .u32 0),.v (.int .u32 0),.v (.int .u32 0),.v (.int .u32 0)]
theorem S8.enc_C (s:S8):s.enc.all isC=true:=rfl
set_option maxHeartbeats 2000000 in
theorem Zw (s:S8) (bs:List UInt8) (hb:bs.length=64):Ok 159 [.agg s.enc,byV bs] (Is (.agg (comp s bs).enc)):=by
 refine bO lw159 (by simp) ?_
 unfold c159
 simp -implicitDefEqProofs only [rX,↓rY,aA,cells?,↓reduceIte,Nat.reduceEqDiff,Nat.reduceAdd,reduceCtorEq,aD,cxN,aH,S8.enc]
 have lW:(wds bs 64).length=64:=eY bs 64
 refine aE (Zp bs hb) (by simp [aG,bA,aS,cK,wkL,wk,wkR,wkB]) (by simp [ren,Lb]) trivial ?_
 simp -implicitDefEqProofs only [rX,↓rY,rdK,aA,cells?,splice,↓reduceIte,Nat.reduceEqDiff,Nat.reduceAdd,reduceCtorEq,aD,cC,isC,Nat.reduceLT,Nat.reduceLeDiff,w0,adJ,Nt,m6,i7,lW,Qi lW,Ha i7,Qh,yaI,n8,yaJ,Nat.reduceSub]
 refine ⟨?_,?_⟩
 all_goals
  refine dC (fun i:Nat=>(⟨[(22,.i i),(21,.agg kA),(7,.ptr 4 0 0),(6,.ptr 3 0 0),(5,.ptr 2 0 0),(4,.ptr 1 0 0),(2,.ptr 0 0 0)],[.var [w s.a,w s.b,w s.c,w s.d,w s.e,w s.f,w s.g,w s.h],.var z8,.var (ws (wds bs 64)),.var [w (i6 (wn (wds bs 64)) s i).a,w (i6 (wn (wds bs 64)) s i).b,w (i6 (wn (wds bs 64)) s i).c,w (i6 (wn (wds bs 64)) s i).d],.var [w (i6 (wn (wds bs 64)) s i).e,w (i6 (wn (wds bs 64)) s i).f,w (i6 (wn (wds bs 64)) s i).g,w (i6 (wn (wds bs 64)) s i).h]],5⟩:St)) (fun i=>i≤64) (fun i=>64-i) 0 (yai _) ?_ ?_
  ·refine ⟨by simp -implicitDefEqProofs only [rX,↓reduceIte,Nat.reduceEqDiff,leE];rfl,aV _,trivial,?_,?_⟩
   ·simp -implicitDefEqProofs only [rX,aB,wfE,wfV,Ub]
   ·simp -implicitDefEqProofs only [rX,wfB,wfV,wfL,cW]
  intro i hi N hN
  obtain ⟨r,hr⟩:∃ r,r=i6 (wn (wds bs 64)) s i:=⟨_,rfl⟩
  rw [←hr]
  simp only [c159l0]
  simp -implicitDefEqProofs only [rX,↓rY,rdK,aA,↓reduceIte,Nat.reduceEqDiff,Nat.reduceAdd,yah,yaf]
  cases h1:decide ((i:Int)<64) with
  | false =>
   have h1':=of_decide_eq_false h1
   have:i=64:=by omega
   subst this
   simp -implicitDefEqProofs only [↓rY]
   refine dC (fun i:Nat=>(⟨[(94,.i i),(7,.ptr 4 0 0),(6,.ptr 3 0 0),(4,.ptr 1 0 0),(2,.ptr 0 0 0)],[.var [w (stp s r i).a,w (stp s r i).b,w (stp s r i).c,w (stp s r i).d,w (stp s r i).e,w (stp s r i).f,w (stp s r i).g,w (stp s r i).h],.var z8,.var (ws (wds bs 64)),.var [w r.a,w r.b,w r.c,w r.d],.var [w r.e,w r.f,w r.g,w r.h]],5⟩:St)) (fun i=>i≤4) (fun i=>4-i) 0 (yai _) ?_ ?_
   ·exact ⟨by simp -implicitDefEqProofs only [rX,↓reduceIte,Nat.reduceEqDiff,leE];rfl,aV _,trivial,by simp -implicitDefEqProofs only [rX,aB,wfE,wfV],by simp -implicitDefEqProofs only [rX,wfB,wfV,wfL,cW]⟩
   intro i hi N hN
   have hc:comp s bs=s.add r:=by unfold comp;rw [hr]
   have hcase:i=0∨i=1∨i=2∨i=3∨i=4:=by omega
   rcases hcase with rfl|rfl|rfl|rfl|rfl
   all_goals
    simp only [c159l1]
    simp -implicitDefEqProofs only [qG,qH,qI,qK,qL,qM,qO,qP,qQ,qR,qT,qX,qY,zb,zv,zS,zT,zU,zV,zX,aA,cells?,yaz,yap,yaF,splice,zY,yan,yar,↓reduceIte,Nat.reduceEqDiff,yat,zZ,kb,↓kc,↓ke,ybf,yaQ,yal,yaA,Nat.reduceAdd,yaV,kh,aT,aY,List.reverse_cons,List.reverse_nil,wfV,wfL,yaW,ybd,List.take_nil,ybv,yaL,yaU,isC,yaw,yaH,true_and,and_true,and_self,yaC,yae,not_false_eq_true,Nat.reduceLT,Nat.reduceLeDiff,yaa,lg0,kj,kk,kn,lg1,kr,kv,lg2,ky,kz,lg3,kD,kF,lg4,kI,kJ,lg5,kM,kN,lg6,kQ,kR,lg7,kU,kV,wm,↓wo,↓wq,↓wu,↓wv,↓wx,↓wy,↓wz,↓wB,↓wC,↓wE,↓jv,↓jE,yaf,yaI,Int.reduceAdd,n0,n1,n2,n3,n4,n8,decide_true,decide_false,yaM,yaJ,↓nP]
   ·exact ⟨by decide,by decide,hN _ 1 (by omega) (by omega) ⟨by simp -implicitDefEqProofs only [rX,↓reduceIte,Nat.reduceEqDiff,leE];rfl,aV _,trivial,by simp -implicitDefEqProofs only [rX,aB,wfE,wfV],by simp -implicitDefEqProofs only [rX,wfB,wfV,wfL,cW]⟩⟩
   ·exact ⟨by decide,by decide,hN _ 2 (by omega) (by omega) ⟨by simp -implicitDefEqProofs only [rX,↓reduceIte,Nat.reduceEqDiff,leE];rfl,aV _,trivial,by simp -implicitDefEqProofs only [rX,aB,wfE,wfV],by simp -implicitDefEqProofs only [rX,wfB,wfV,wfL,cW]⟩⟩
   ·exact ⟨by decide,by decide,hN _ 3 (by omega) (by omega) ⟨by simp -implicitDefEqProofs only [rX,↓reduceIte,Nat.reduceEqDiff,leE];rfl,aV _,trivial,by simp -implicitDefEqProofs only [rX,aB,wfE,wfV],by simp -implicitDefEqProofs only [rX,wfB,wfV,wfL,cW]⟩⟩
   ·exact ⟨by decide,by decide,hN _ 4 (by omega) (by omega) ⟨by simp -implicitDefEqProofs only [rX,↓reduceIte,Nat.reduceEqDiff,leE];rfl,aV _,trivial,by simp -implicitDefEqProofs only [rX,aB,wfE,wfV],by simp -implicitDefEqProofs only [rX,wfB,wfV,wfL,cW]⟩⟩
   ·rw [hc,Xv]
  | true =>
   have h1':=of_decide_eq_true h1
   have gw:(ws (wds bs 64))[i]?=some (w (wn (wds bs 64) i)):=nJ (by omega)
   have ck:(0≤(i:Int)∧(i:Int)<((64:Nat):Int)):=by omega
   simp -implicitDefEqProofs only [yar,zZ,↓kc,yaH,true_and,and_self,Nat.reduceLT,lg0,lg1,lg2,↓wo,eq_true ck,Nu (show i<64 by omega),yaI,n4,yaM,yaJ,↓fI,↓Bo,↓Xk,gw]
   refine aE (Tt r.e 6 11 25 (by omega) (by omega) (by omega)) (by simp [aG,bA,aS,cK,wkL,wk,wkR]) rfl trivial ?_
   simp -implicitDefEqProofs only [qa,qe,qn,qy,rdK,qz,qA,qB,qC,qE,qK,qT,qX,zb,zv,zN,zS,zU,zV,zX,aA,yaz,yap,zY,yan,yar,↓reduceIte,Nat.reduceEqDiff,yat,zZ,yal,yaA,Nat.reduceAdd,yaG,yaD,yaw,yaH,true_and,and_true,and_self,Nat.reduceLT,lg0,lg1,lg2,wm,↓wo,↓wq,↓wu,↓wx,↓wE,yaf,eq_true ck,yaI,n4,yaM,yaJ,↓nP,↓fI,↓Bo]
   refine aE (Tt r.a 2 13 22 (by omega) (by omega) (by omega)) (by simp [aG,bA,aS,cK,wkL,wk,wkR]) rfl trivial ?_
   simp -implicitDefEqProofs only [qa,qe,qA,qC,qH,qK,qQ,qR,qT,qX,qY,zb,zk,zv,zS,zT,zU,zV,zX,aA,cells?,yaz,yap,yaF,splice,zY,yan,yar,↓reduceIte,Nat.reduceEqDiff,yat,zZ,ybf,yaQ,yal,yaA,Nat.reduceAdd,yaV,bG,yaG,yaD,yaW,ybd,ybv,yaL,yaU,isC,yaw,yaH,true_and,and_true,and_self,yaC,yae,not_false_eq_true,Nat.reduceLT,Nat.reduceLeDiff,yaa,lg0,kj,kk,kn,lg1,kq,kr,kv,lg2,kx,ky,kz,lg3,kC,kD,wm,↓wo,↓wq,↓wu,↓wx,↓wz,↓wC,↓wE,↓jv,yaf,yaI,n4,yaM,yaJ,↓nP,splice]
   refine ⟨by simp only [lo,Fx.hi];omega,hN _ (i+1) (by omega) (by omega) ?_⟩
   have e:i6 (wn (wds bs 64)) s (i+1)=r.rnd (kW i) (wn (wds bs 64) i):=by rw [hr];rfl
   simp only [e]
   exact ⟨by simp -implicitDefEqProofs only [rX,↓reduceIte,Nat.reduceEqDiff,leE];simp,aV _,trivial,by simp -implicitDefEqProofs only [rX,aB,wfE,wfV,Ub],by simp -implicitDefEqProofs only [rX,wfB,wfV,wfL,cW]⟩
set_option maxRecDepth 20000
def Stm.enc (S:Stm):List V:=sC S.st S.blk S.n
theorem Ou {s:S8} {f:Nat→Option Nat}:cH f s.enc=s.enc:=rfl
theorem Gd {s:S8} {h:List Blk} {g:Nat→Option Nat}:aG h g s.enc:=⟨trivial,trivial,trivial,trivial,trivial,trivial,trivial,trivial,trivial⟩
theorem Se {s:S8} {h:List Blk} {g:Nat→Option Nat}:wkL s.enc (aS h g s.enc):=⟨rfl,rfl,rfl,rfl,rfl,rfl,rfl,rfl,trivial⟩
theorem Sf {s:S8}:s.enc.length=8:=rfl
theorem Qw {t:Bs}:eO (sb t)=t.map by1:=rfl
set_option maxHeartbeats 2000000 in
theorem Mz (S:Stm) (m t:Bs) (h:Rp S m) (hm:m.length+t.length≤1152921504606846976):Ok 129 [.agg S.enc,sv t] (IsQ (fun S'=>Rp S' (m++t)) (fun S'=>.agg S'.enc) (fun _=>[])):=by
 refine bO lw129 (by simp) ?_
 unfold c129
 simp -implicitDefEqProofs only [rX,↓rY,aA,cells?,↓reduceIte,aD,cxN,aH,Stm.enc]
 refine dC (fun g:Stm × Bs × Bs=>(⟨[(1,sv g.2.2),(4,.ptr 1 0 0),(2,.ptr 0 0 0)],[.var (sC g.1.st g.1.blk g.1.n),.var (sC ⟨0,0,0,0,0,0,0,0⟩ (yak 64 0) 0)],2⟩:St)) (fun g=>Rp g.1 (m++g.2.1)∧g.2.1++g.2.2=t) (fun g=>g.2.2.length) (S,[],t) ⟨by simpa using h,rfl⟩ ?_ ?_
 ·refine ⟨by simp -implicitDefEqProofs only [rX,↓reduceIte,Nat.reduceEqDiff,reduceCtorEq,leE],⟨aN _,?_,trivial⟩,trivial,by simp -implicitDefEqProofs only [rX,aB,wfE,wfV],⟨iR,iR,trivial⟩⟩
  show dH _ _
  rw [show sC ⟨0,0,0,0,0,0,0,0⟩ (yak 64 0) 0=yak 8 (w 0)++(yak 64 (u8 0)++[n64 0]) by unfold sC;rfl]
  exact bB _
 rintro ⟨S,c,r⟩ ⟨hR,hcr⟩ N hN
 simp only at hR hcr
 have hl:=hR.len
 have hn:=hR.n
 have hsum:c.length+r.length=t.length:=by rw [←hcr,yae]
 rw [yae] at hn
 obtain ⟨j,hj⟩:∃ j,j=S.n%64:=⟨_,rfl⟩
 have hj64:j<64:=by omega
 obtain ⟨cc,hcc⟩:∃ cc,cc=r.take (64-j):=⟨_,rfl⟩
 have hcl:cc.length=min r.length (64-j):=by rw [hcc,yaX];omega
 have e1:IntKind.i64.wrap (ybw (S.n:Int) 64)=(j:Int):=by
  rw [show ybw (S.n:Int) 64=(j:Int) by rw [hj];simp [Int.tmod_eq_emod]]
  exact gK _ _ ⟨by simp only [lo];omega,by simp only [Fx.hi];omega⟩
 have f1:(yad (64-j) (eO (sb r))).flatten=cc.map u8:=by
  rw [hcc,Qw,←yaO]
  induction r.take (64-j) with
  | nil=>rfl
  | cons x q ih=>rw [yaG,List.flatten_cons,ih];rfl
 have f2:min (eO (sb r)).length (64-j)=cc.length:=by rw [Qw,yag,hcl]
 have e2:IntKind.u64.wrap (cc.length:Int)=(cc.length:Int):=gK _ _ ⟨by simp only [lo];omega,by simp only [Fx.hi];omega⟩
 have e3:IntKind.u64.wrap ((S.n:Int)+(cc.length:Int))=((S.n+cc.length:Nat):Int):=by
  rw [←Int.natCast_add]
  exact gK _ _ ⟨by simp only [lo];omega,by simp only [Fx.hi];omega⟩
 have f3:(sC S.st S.blk S.n).take (8+j)++cc.map u8++(sC S.st S.blk S.n).drop (8+j+cc.length)=sC S.st (k6 S.blk cc j) S.n:=Rb hl (by omega)
 have pl:(k6 S.blk cc j).length=64:=by rw [Ct (by omega),hl]
 have sx:(sb r).extract cc.length r.length=sb (r.drop cc.length):=by rw [eD,List.take_length]
 have hst:=hR.step (c:=cc) (by omega)
 simp only [c129l0]
 simp -implicitDefEqProofs only [rX,↓rY,aA,cells?,splice,↓reduceIte,Nat.reduceEqDiff,Nat.reduceAdd,cC,isC,Nat.reduceLeDiff,yah,aU,cO,d6,d6,cO,Ra hl,eL hl,e1,f1,f2,f3,e2,Ra pl,eL pl,e3,Vk pl,sx,yaX,ybq,yaI,m64]
 cases hr:(!r==([]:Bs)) with
 | false =>
  have hr':r=[]:=by simpa using hr
  subst hr'
  rw [yal] at hcr
  subst hcr
  have zl:(yak 64 (0:UInt8)).length=64:=rfl
  simp -implicitDefEqProofs only [rX,↓rY,jN hl,Rc,eL zl,uT zl,eL hl,Nat.min_self]
  refine uZ S hR ?_
  simp -implicitDefEqProofs only [rX,↓rY,↓reduceIte,Nat.reduceEqDiff,aT,aY,leH,aC,wfB,wfV,jN hl,eL hl,iR]
 | true =>
  have hr':r≠[]:=by simpa using hr
  have hrl:0<r.length:=List.length_pos_iff.2 hr'
  simp -implicitDefEqProofs only [↓rY]
  refine ⟨by omega,by omega,by omega,by omega,by omega,⟨by simp only [lo];omega,by simp only [Fx.hi];omega⟩,?_⟩
  have hrd:cc++r.drop cc.length=r:=by
   by_cases h:64-j≤r.length
   ·rw [show cc.length=64-j by omega,hcc,yci]
   ·rw [hcc,yab (by omega),yas (by omega),yal]
  rw [←hj] at hst
  have hI:c++cc++r.drop cc.length=t:=by rw [yaB,hrd,hcr]
  rw [yaB] at hst
  cases h6:((j:Int)+(cc.length:Int)==64) with
  | true =>
   have h6':j+cc.length=64:=by have:=eq_of_beq h6;omega
   rw [if_pos h6'] at hst
   simp -implicitDefEqProofs only [↓rY,Xz]
   refine ⟨by omega,⟨by omega,by omega,by omega⟩,?_⟩
   refine aE (Zw S.st (k6 S.blk cc j) pl) ⟨⟨Gd,trivial,trivial⟩,Se,?_,trivial⟩ (by simp only [ren,Ou]) trivial ?_
   ·show wkB (if (decide (8+64≤(sC S.st (k6 S.blk cc j) (S.n+cc.length)).length)&&(((sC S.st (k6 S.blk cc j) (S.n+cc.length)).drop 8).take 64).all isD)=true then V.bro 1 ((((sC S.st (k6 S.blk cc j) (S.n+cc.length)).drop 8).take 64).map fun c=>[c]) else V.any) 1 ((k6 S.blk cc j).map by1)
    rw [if_pos (by rw [eL pl,Me pl];rfl),Qz pl]
    exact ⟨rfl,rfl⟩
   simp -implicitDefEqProofs only [rX,↓rY,cells?,splice,↓reduceIte,Nat.reduceEqDiff,Nat.reduceLeDiff,Vj,eL pl,Sf,S8.enc_C]
   refine hN _ (⟨comp S.st (k6 S.blk cc j),k6 S.blk cc j,S.n+cc.length⟩,c++cc,r.drop cc.length) ⟨hst,hI⟩ (by simp only [ybq];omega) ?_
   exact ⟨by simp -implicitDefEqProofs only [rX,↓reduceIte,Nat.reduceEqDiff,leE],aV _,trivial,by simp -implicitDefEqProofs only [rX,aB,wfE,wfV],⟨iR,iR,trivial⟩⟩
  | false =>
   have h6':j+cc.length≠64:=by
    intro h
    have:((j:Int)+(cc.length:Int)==64)=true:=by rw [beq_iff_eq];omega
    rw [this] at h6;cases h6
   rw [if_neg h6'] at hst
   simp -implicitDefEqProofs only [↓rY]
   refine hN _ (⟨S.st,k6 S.blk cc j,S.n+cc.length⟩,c++cc,r.drop cc.length) ⟨hst,hI⟩ (by simp only [ybq];omega) ?_
   exact ⟨by simp -implicitDefEqProofs only [rX,↓reduceIte,Nat.reduceEqDiff,leE],aV _,trivial,by simp -implicitDefEqProofs only [rX,aB,wfE,wfV],⟨iR,iR,trivial⟩⟩
set_option maxRecDepth 20000
def us (l:Bs):List V:=l.map u8
theorem cJ {l:Bs}:(us l).length=l.length:=by simp [us]
theorem f7 {l:Bs}:(us l).all isC=true:=by simp [us,isC,isD]
theorem Qp {l:Bs}:(us l).all isD=true:=by simp [us,isD]
theorem Lk {l:Bs}:dH (us l) (us l):=bB _
theorem b6 {l:Bs} {q:List Blk}:wfL q (us l):=by
 unfold us
 induction l with
 | nil=>trivial
 | cons x r ih=>exact ⟨trivial,ih⟩
theorem a6 {l:Bs} {f:Nat→Option Nat}:cH f (us l)=us l:=by
 unfold us
 induction l with
 | nil=>rfl
 | cons x r ih=>exact congrArg (u8 x::·) ih
theorem Qo {l:Bs} {n:Nat}:(us l).take n=us (l.take n):=by simp [us,yaO]
theorem Eu {l:Bs} {i:Nat} {x:UInt8} (hi:i<l.length):(us l).take i++[u8 x]++(us l).drop (i+1)=us (l.set i x):=by
 unfold us
 rw [ybE,yce,if_pos (by simpa using hi)]
 simp
theorem Ll {l:Bs} {i:Nat} (hi:i<l.length):(us l)[i]?=some (u8 (bn l i)):=by
 unfold us bn
 rw [ybo,yaq hi,yan,yaq hi]
 rfl
attribute [irreducible] us
def z32:Bs:=yak 32 0
theorem i9:z32.length=32:=rfl
theorem w32:yac V.v (ybF 32 (Value.int IntKind.u8 0)).toList=us z32:=by unfold us;rfl
attribute [irreducible] z32
def pz (k:Nat):Bs:=128::yak k 0
theorem iS {k:Nat}:(pz k).length=k+1:=by simp [pz]
theorem Mm {k:Nat}:pz k++[0]=pz (k+1):=by
 unfold pz
 rw [yaQ,←List.replicate_succ']
theorem Yz:pz 0=[128]:=rfl
attribute [irreducible] pz
theorem l7 {M:List Nat}:∀ l:List V,(∀ x∈l,∃ u,x=.v u)→bM M l=l
 | [],_=>rfl
 | x::r,h=>by
  obtain ⟨u,rfl⟩:=h x ybI
  show V.v u::bM M r=_
  rw [l7 r fun y hy=>h y (ybJ _ hy)]
theorem pK {M:List Nat} {l:Bs}:bM M (us l)=us l:=l7 _ (by
 unfold us
 intro x hx
 obtain ⟨b,_,rfl⟩:=ybs.1 hx
 exact ⟨_,rfl⟩)
theorem hT {s:S8} {b:Bs} {n:Nat}:∀ x∈sC s b n,∃ u,x=V.v u:=by
 unfold sC
 intro x hx
 simp only [S8.enc,yav,ybs,yax,yaC,or_false] at hx
 rcases hx with (rfl|rfl|rfl|rfl|rfl|rfl|rfl|rfl)|⟨u,_,rfl⟩|rfl<;>exact ⟨_,rfl⟩
theorem Cl {M:List Nat} {s:S8} {b:Bs} {n:Nat}:bM M (sC s b n)=sC s b n:=l7 _ hT
theorem dG {h:List Blk} {g:Nat→Option Nat}:∀ l:List V,(∀ x∈l,∃ u,x=.v u)→aG h g l∧wkL l (aS h g l)
 | [],_=>⟨trivial,trivial⟩
 | x::r,q=>by
  obtain ⟨u,rfl⟩:=q x ybI
  have:=dG (h:=h) (g:=g) r fun y hy=>q y (ybJ _ hy)
  exact ⟨⟨trivial,this.1⟩,rfl,this.2⟩
def l8 (n i:Nat):Bs:=(yau i).map fun i=>UInt8.ofNat (8*n/2 ^ (56-8*i))
theorem aaY {n i:Nat}:l8 n (i+1)=l8 n i++[UInt8.ofNat (8*n/2 ^ (56-8*i))]:=by simp [l8,List.range_succ]
theorem o9 {n i:Nat}:(l8 n i).length=i:=by simp [l8]
theorem lI:∀ l:Bs,bytesOf (l.map by1)=some l
 | []=>rfl
 | b::r=>by
  show (bytesOf (r.map by1)).map (UInt8.ofNat ((b.toNat:Int)).toNat::·)=_
  rw [lI r]
  simp
theorem Hp {l:Bs}:({ data:=l.toArray }:ByteArray)=sb l:=rfl
theorem Fi {n:Nat}:pz (zeros n)++l8 n 8=pad n:=by unfold pz;rfl
def oB (s:S8) (i:Nat):Bs:=(yau i).map (o6 s)++yak (32-i) 0
theorem Nd {s:S8} {i:Nat} (h:i≤32):(oB s i).length=32:=by simp [oB];omega
theorem aaS {s:S8}:oB s 0=z32:=by unfold z32;rfl
theorem Tw {s:S8}:oB s 32=(yau 32).map (o6 s):=by simp [oB]
theorem Nc {s:S8} {i:Nat} (h:i<32):(oB s i).set i (o6 s i)=oB s (i+1):=by
 unfold oB
 rw [ybg _ _ (by simp),yag,ybx,ybu,show 32-i=(32-(i+1))+1 by omega,yaT,yaF,List.range_succ,yam]
 simp
theorem Qy {s:S8} {b:Bs} {n j:Nat} (h:j<8):(sC s b n)[j]?=some (w (wn s.l j)):=by
 unfold sC
 rw [ych (by simp [S8.enc];omega)]
 have:j=0∨j=1∨j=2∨j=3∨j=4∨j=5∨j=6∨j=7:=by omega
 rcases this with rfl|rfl|rfl|rfl|rfl|rfl|rfl|rfl<;>rfl
set_option maxHeartbeats 2000000 in
theorem aaH (S:Stm) (m:Bs) (h:Rp S m) (hm:m.length≤576460752303423488):Ok 131 [.agg S.enc] (Is (.agg (us (sha m)))):=by
 refine bO lw131 (by simp) ?_
 unfold c131
 have hn:=h.n
 have hl:=h.len
 have e8:IntKind.u64.wrap (8*(S.n:Int))=((8*S.n:Nat):Int):=by
  rw [show (8*(S.n:Int))=((8*S.n:Nat):Int) by omega]
  exact gK _ _ ⟨by simp only [lo];omega,by simp only [Fx.hi];omega⟩
 simp -implicitDefEqProofs only [rX,↓rY,aA,cells?,↓reduceIte,Nat.reduceEqDiff,Nat.reduceAdd,aD,bY,isD,Nat.reduceLT,cxN,aH,Stm.enc,w32,Ra hl,e8]
 refine dC (fun k:Nat=>(⟨[(4,.sl 2 0 (k+1)),(3,n64 (8*S.n)),(2,.ptr 1 0 0),(1,.ptr 0 0 0)],[.var (sC S.st S.blk S.n),.var (us z32),.arr 1 ((pz k).map by1)],3⟩:St)) (fun k=>k≤zeros m.length) (fun k=>zeros m.length-k) 0 (yai _) ?_ ?_
 ·exact ⟨by simp -implicitDefEqProofs only [rX,↓reduceIte,Nat.reduceEqDiff,leE],⟨aN _,aN _,by rw [Yz];exact aN _,trivial⟩,trivial,by simp -implicitDefEqProofs only [rX,aB,wfE,wfV],by simp -implicitDefEqProofs only [rX,wfB,iR,b6]⟩
 intro k hk N hN
 have ei:IntKind.i64.wrap (S.n:Int)=(S.n:Int):=gK _ _ ⟨by simp only [lo];omega,by simp only [Fx.hi];omega⟩
 have hz:=uG m.length
 have hz2:zeros m.length<64:=by unfold zeros;omega
 have tk:yad (k+1) (yac by1 (pz k))=yac by1 (pz k):=yab (by rw [yag,iS];exact yaa _)
 have b0:(yac by1 (pz k))++[[V.v (Value.int IntKind.u8 0)]]=(pz (k+1)).map by1:=by rw [←Mm,yam];rfl
 simp only [c131l0]
 simp -implicitDefEqProofs only [rX,↓rY,aA,cells?,↓reduceIte,Nat.reduceEqDiff,Nat.reduceAdd,reduceCtorEq,aD,bY,aP,aZ,kill,St.kill,isD,Nat.reduceLT,Nat.reduceLeDiff,yaf,Ra hl,ei,iS,tk,b0,pK,Cl]
 intro _
 have hmod:((S.n:Int)+((k+1:Nat):Int)).tmod 64=(((m.length+1+k)%64:Nat):Int):=by
  rw [show ((S.n:Int)+((k+1:Nat):Int))=((m.length+1+k:Nat):Int) by omega]
  rfl
 refine ⟨⟨by simp only [lo];omega,by simp only [Fx.hi];omega⟩,by omega,?_⟩
 rw [hmod]
 cases hc:((((m.length+1+k)%64:Nat):Int) != 56) with
 | true =>
  have hc':(m.length+1+k)%64≠56:=by intro h;rw [h] at hc;simp at hc
  have hlt:k<zeros m.length:=by
   rcases yaR k (zeros m.length) with h|h
   ·exact h
   ·have:k=zeros m.length:=by omega
    rw [this] at hc';exact absurd hz hc'
  simp -implicitDefEqProofs only [↓rY]
  refine ⟨by omega,hN _ (k+1) (by omega) (by omega) ?_⟩
  exact ⟨by simp -implicitDefEqProofs only [rX,↓reduceIte,Nat.reduceEqDiff,leE],⟨aN _,aN _,aN _,trivial⟩,trivial,by simp -implicitDefEqProofs only [rX,aB,wfE,wfV],by simp -implicitDefEqProofs only [rX,wfB,iR,b6]⟩
 | false =>
  have hc':(m.length+1+k)%64=56:=by
   have h2:¬((((m.length+1+k)%64:Nat):Int)≠56):=fun h=>by rw [bne_iff_ne.2 h] at hc;cases hc
   omega
  have hke:k=zeros m.length:=by omega
  simp -implicitDefEqProofs only [↓rY]
  clear hN N hmod tk b0 hk
  refine dC (fun i:Nat=>(⟨[(23,.i i),(4,.sl 2 0 (k+1+i)),(3,n64 (8*S.n)),(2,.ptr 1 0 0),(1,.ptr 0 0 0)],[.var (sC S.st S.blk S.n),.var (us z32),.arr 1 ((pz k++l8 m.length i).map by1)],3⟩:St)) (fun i=>i≤8) (fun i=>8-i) 0 (yai _) ?_ ?_
  ·exact ⟨by simp -implicitDefEqProofs only [rX,↓reduceIte,Nat.reduceEqDiff,leE];rfl,⟨aN _,aN _,by rw [show l8 m.length 0=[] from rfl,yal];exact aN _,trivial⟩,trivial,by simp -implicitDefEqProofs only [rX,aB,wfE,wfV],by simp -implicitDefEqProofs only [rX,wfB,iR,b6]⟩
  intro i hi N hN
  simp only [c131l1]
  simp -implicitDefEqProofs only [rX,↓rY,aA,cells?,↓reduceIte,Nat.reduceEqDiff,Nat.reduceAdd,reduceCtorEq,aD,bY,aP,aZ,kill,St.kill,isD,Nat.reduceLT,Nat.reduceLeDiff,yaf]
  cases h1:decide ((i:Int)<8) with
  | true =>
   have h1':=of_decide_eq_true h1
   have sh:∀ {K:V→Prop},bL .shr .u64 ((8*S.n:Nat):Int) (56-8*(i:Int)) K=K (.v (.int .u64 ((8*S.n/2 ^ (56-8*i):Nat):Int))):=by
    intro K
    have h:bL .shr .u64 ((8*S.n:Nat):Int) (56-8*(i:Int)) K=(0≤(56-8*(i:Int))∧K (.v (.int .u64 (ybn ((8*S.n:Nat):Int) (2 ^ (min (56-8*(i:Int)).toNat 64)))))):=rfl
    rw [h,show (56-8*(i:Int)).toNat=56-8*i by omega,yba (by omega)]
    have h2:(2:Int) ^ (56-8*i)=((2 ^ (56-8*i):Nat):Int):=by simp
    rw [h2,ybb _ (yaN _),←ybD]
    exact propext ⟨fun h=>h.2,fun h=>⟨by omega,h⟩⟩
   have cv:IntKind.u8.wrap ((8*S.n/2 ^ (56-8*i):Nat):Int)=((UInt8.ofNat (8*m.length/2 ^ (56-8*i))).toNat:Int):=by
    rw [hn,UInt8.toNat_ofNat']
    simp [IntKind.wrap,IntKind.bits,IntKind.signed]
   simp -implicitDefEqProofs only [rX,↓rY,kill,St.kill,↓sh,cv,pK,Cl,iS,o9]
   have tk2:yad (k+1+i) (yac by1 (pz k++l8 m.length i))=yac by1 (pz k++l8 m.length i):=yab (by rw [yag,yae,iS,o9];exact yaa _)
   rw [tk2]
   refine ⟨⟨by simp only [lo];omega,by simp only [Fx.hi];omega⟩,⟨by simp only [lo];omega,by simp only [Fx.hi];omega⟩,by omega,⟨by simp only [lo];omega,by simp only [Fx.hi];omega⟩,?_⟩
   refine hN _ (i+1) (by omega) (by omega) ?_
   exact ⟨by simp -implicitDefEqProofs only [rX,↓reduceIte,Nat.reduceEqDiff,leE];simp;omega,⟨aN _,aN _,by rw [aaY,←yaB,yam (l₂:=[_])];exact aN _,trivial⟩,trivial,by simp -implicitDefEqProofs only [rX,aB,wfE,wfV],by simp -implicitDefEqProofs only [rX,wfB,iR,b6]⟩
  | false =>
   have h1':=of_decide_eq_false h1
   have:i=8:=by omega
   subst this
   have tk2:yad (k+1+8) (yac by1 (pz k++l8 m.length 8))=yac by1 (pz k++l8 m.length 8):=yab (by rw [yag,yae,iS,o9];exact yaa _)
   simp -implicitDefEqProofs only [rX,↓rY,tk2,lI,Hp,jN hl,eL hl,iS,o9]
   refine ⟨.inr trivial,?_⟩
   clear hN N
   have hpd:pz k++l8 m.length 8=pad m.length:=by rw [hke];exact Fi
   rw [hpd]
   refine xF _ _ _ (Mz S m (pad m.length) h (by simp [pad,len8];omega)) ⟨⟨(dG _ hT).1,trivial,trivial⟩,(dG _ hT).2,rfl,trivial⟩ (fun g=>by simp only [ren,Stm.enc,tX]) trivial ?_
   intro S' hS'
   have hl':=hS'.len
   have hst':S'.st=Xy m:=hS'.st
   simp -implicitDefEqProofs only [rX,↓rY,aA,cells?,splice,↓reduceIte,Nat.reduceEqDiff,Nat.reduceAdd,aD,Stm.enc,jN hl',eL hl',Rc,eL hl,uT hl,w32]
   refine dC (fun i:Nat=>(⟨[(40,.i i),(6,.ptr 3 0 0),(2,.ptr 1 0 0),(1,.ptr 0 0 0)],[.var (sC S'.st S'.blk S'.n),.var (us z32),.arr 1 ((pad m.length).map by1),.var (us (oB S'.st i))],4⟩:St)) (fun i=>i≤32) (fun i=>32-i) 0 (yai _) ?_ ?_
   ·exact ⟨by simp -implicitDefEqProofs only [rX,↓reduceIte,Nat.reduceEqDiff,leE];rfl,⟨aN _,aN _,aN _,by rw [aaS];exact aN _,trivial⟩,trivial,by simp -implicitDefEqProofs only [rX,aB,wfE,wfV],by simp -implicitDefEqProofs only [rX,wfB,iR,b6]⟩
   intro i hi N hN
   simp only [c131l2]
   simp -implicitDefEqProofs only [rX,↓rY,aA,cells?,splice,↓reduceIte,Nat.reduceEqDiff,Nat.reduceAdd,aT,aY,wfV,isC,yah,yaf]
   cases h1:decide ((i:Int)<32) with
   | true =>
    have h1':=of_decide_eq_true h1
    have lo':(oB S'.st i).length=32:=Nd hi
    have ed:Int.tdiv (i:Int) 4=((i/4:Nat):Int):=rfl
    have er:ybw (i:Int) 4=((i%4:Nat):Int):=rfl
    have es:(24-8*((i%4:Nat):Int))=((24-8*(i%4):Nat):Int):=by omega
    have sh:∀ {x:W} {K:V→Prop},bL .shr .u32 (x.toNat:Int) ((24-8*(i%4):Nat):Int) K=K (w (x >>> (24-8*(i%4)))):=fun {x K}=>nO (by omega)
    have cv:IntKind.u8.wrap ((wn S'.st.l (i/4) >>> (24-8*(i%4))).toNat:Int)=((o6 S'.st i).toNat:Int):=by
     unfold o6
     rw [UInt8.toNat_ofNat',ybB,ybC]
     simp [IntKind.wrap,IntKind.bits,IntKind.signed]
    have sp:∀ x:UInt8,yad i (us (oB S'.st i))++[u8 x]++yaE (i+1) (us (oB S'.st i))=us ((oB S'.st i).set i x):=fun x=>Eu (by omega)
    simp -implicitDefEqProofs only [rX,↓rY,Nat.reduceLeDiff,yah,ed,er,es,↓sh,Qy (show i/4<8 by omega),cv,sp,cJ,lo']
    refine ⟨by omega,⟨by simp only [lo];omega,by simp only [Fx.hi];omega⟩,by omega,by omega,⟨by simp only [lo];omega,by simp only [Fx.hi];omega⟩,⟨by simp only [lo];omega,by simp only [Fx.hi];omega⟩,by omega,by omega,⟨by simp only [lo];omega,by simp only [Fx.hi];omega⟩,?_⟩
    refine hN _ (i+1) (by omega) (by omega) ?_
    rw [Nc (by omega)]
    exact ⟨by simp -implicitDefEqProofs only [rX,↓reduceIte,Nat.reduceEqDiff,leE];simp,aV _,trivial,by simp -implicitDefEqProofs only [rX,aB,wfE,wfV],by simp -implicitDefEqProofs only [rX,wfB,iR,b6]⟩
   | false =>
    have h1':=of_decide_eq_false h1
    have:i=32:=by omega
    subst this
    have l32:((yau 32).map (o6 S'.st)).length=32:=by simp
    have tk3:(us ((yau 32).map (o6 S'.st))).take 32=us ((yau 32).map (o6 S'.st)):=yab (by rw [cJ,l32];exact yaa _)
    have dk3:(us z32).drop 32=[]:=yas (by rw [cJ,i9];exact yaa _)
    simp -implicitDefEqProofs only [rX,↓rY,Tw,tk3,cJ,l32,f7,i9,dk3,b6]
    rw [hst']
    rfl
set_option maxRecDepth 20000
set_option maxHeartbeats 2000000 in
theorem Zn (m:Bs) (hm:m.length≤140737488355000):Ok 206 [byV m] (IsA (.sl 0 0 (m.length+(pad m.length).length)) [.arr 1 ((m++pad m.length).map by1)]):=by
 refine bO lw206 (by simp) ?_
 unfold c206
 simp -implicitDefEqProofs only [rX,↓rY,aA,cells?,↓reduceIte,Nat.reduceEqDiff,Nat.reduceAdd,reduceCtorEq,aD,bY,aP,aZ,kill,St.kill,isD,Nat.reduceLT,Nat.reduceLeDiff,cxN,yaf,aH]
 have hz:=uG m.length
 have hz2:zeros m.length<64:=by unfold zeros;omega
 refine ⟨.inr trivial,by omega,by omega,?_⟩
 refine dC (fun k:Nat=>(⟨[(3,.sl 0 0 (m.length+1+k)),(0,byV m)],[.arr 1 ((m++pz k).map by1)],3⟩:St)) (fun k=>k≤zeros m.length) (fun k=>zeros m.length-k) 0 (yai _) ?_ ?_
 ·exact ⟨by simp -implicitDefEqProofs only [rX,↓reduceIte,reduceCtorEq,leE],⟨by rw [Yz,yam,yab (by simp)];exact aN _,trivial⟩,trivial,by simp -implicitDefEqProofs only [rX,aB,wfE,wfV],by simp -implicitDefEqProofs only [wfB]⟩
 intro k hk N hN
 have tk:yad (m.length+1+k) (yac by1 (m++pz k))=yac by1 (m++pz k):=yab (by rw [yag,yae,iS];omega)
 have b0:(yac by1 (m++pz k))++[[V.v (Value.int IntKind.u8 0)]]=(m++pz (k+1)).map by1:=by rw [←Mm,←yaB,yam (l₁:=m++pz k)];rfl
 simp only [c206l0]
 simp -implicitDefEqProofs only [rX,↓rY,aA,cells?,↓reduceIte,Nat.reduceEqDiff,reduceCtorEq,aD,bY,aP,aZ,kill,St.kill,isD,Nat.reduceLT,Nat.reduceLeDiff,yaf,iS,tk,b0]
 intro _
 have hmod:(((m.length+1+k:Nat):Int)).tmod 64=(((m.length+1+k)%64:Nat):Int):=rfl
 refine ⟨by omega,?_⟩
 rw [hmod]
 cases hc:((((m.length+1+k)%64:Nat):Int) != 56) with
 | true =>
  have hc':(m.length+1+k)%64≠56:=by intro h;rw [h] at hc;simp at hc
  have hlt:k<zeros m.length:=by
   rcases yaR k (zeros m.length) with h|h
   ·exact h
   ·have:k=zeros m.length:=by omega
    rw [this] at hc';exact absurd hz hc'
  simp -implicitDefEqProofs only [↓rY]
  refine ⟨⟨by omega,by omega⟩,hN _ (k+1) (by omega) (by omega) ?_⟩
  exact ⟨by simp -implicitDefEqProofs only [rX,↓reduceIte,reduceCtorEq,leE];rfl,⟨aN _,trivial⟩,trivial,by simp -implicitDefEqProofs only [rX,aB,wfE,wfV],by simp -implicitDefEqProofs only [wfB]⟩
 | false =>
  have hc':(m.length+1+k)%64=56:=by
   have h2:¬((((m.length+1+k)%64:Nat):Int)≠56):=fun h=>by rw [bne_iff_ne.2 h] at hc;cases hc
   omega
  have hke:k=zeros m.length:=by omega
  simp -implicitDefEqProofs only [↓rY]
  intro _
  clear hN N hmod tk b0 hk
  have e8:IntKind.u64.wrap (8*(IntKind.u64.wrap (m.length:Int)))=((8*m.length:Nat):Int):=by
   rw [gK .u64 (m.length:Int) ⟨by simp only [lo];omega,by simp only [Fx.hi];omega⟩]
   rw [show (8*(m.length:Int))=((8*m.length:Nat):Int) by omega]
   exact gK _ _ ⟨by simp only [lo];omega,by simp only [Fx.hi];omega⟩
  try simp only [e8]
  refine dC (fun i:Nat=>(⟨[(5,.i i),(4,n64 (8*m.length)),(3,.sl 0 0 (m.length+1+k+i)),(0,byV m)],[.arr 1 ((m++pz k++l8 m.length i).map by1)],1⟩:St)) (fun i=>i≤8) (fun i=>8-i) 0 (yai _) ?_ ?_
  ·exact ⟨by simp -implicitDefEqProofs only [rX,↓reduceIte,Nat.reduceEqDiff,reduceCtorEq,leE];rfl,⟨by rw [show l8 m.length 0=[] from rfl,yal];exact aN _,trivial⟩,trivial,by simp -implicitDefEqProofs only [rX,aB,wfE,wfV],by simp -implicitDefEqProofs only [wfB]⟩
  intro i hi N hN
  simp only [c206l1]
  simp -implicitDefEqProofs only [rX,↓rY,aA,cells?,↓reduceIte,Nat.reduceEqDiff,Nat.reduceAdd,reduceCtorEq,aD,bY,aP,aZ,kill,St.kill,isD,Nat.reduceLT,Nat.reduceLeDiff,yaf]
  cases h1:decide ((i:Int)<8) with
  | true =>
   have h1':=of_decide_eq_true h1
   have sh:∀ {K:V→Prop},bL .shr .u64 ((8*m.length:Nat):Int) (56-8*(i:Int)) K=K (.v (.int .u64 ((8*m.length/2 ^ (56-8*i):Nat):Int))):=by
    intro K
    have h:bL .shr .u64 ((8*m.length:Nat):Int) (56-8*(i:Int)) K=(0≤(56-8*(i:Int))∧K (.v (.int .u64 (ybn ((8*m.length:Nat):Int) (2 ^ (min (56-8*(i:Int)).toNat 64)))))):=rfl
    rw [h,show (56-8*(i:Int)).toNat=56-8*i by omega,yba (by omega)]
    have h2:(2:Int) ^ (56-8*i)=((2 ^ (56-8*i):Nat):Int):=by simp
    rw [h2,ybb _ (yaN _),←ybD]
    exact propext ⟨fun h=>h.2,fun h=>⟨by omega,h⟩⟩
   have cv:IntKind.u8.wrap ((8*m.length/2 ^ (56-8*i):Nat):Int)=((UInt8.ofNat (8*m.length/2 ^ (56-8*i))).toNat:Int):=by
    rw [UInt8.toNat_ofNat']
    simp [IntKind.wrap,IntKind.bits,IntKind.signed]
   simp -implicitDefEqProofs only [rX,↓rY,kill,St.kill,↓sh,cv,iS,o9]
   have tk2:yad (m.length+1+k+i) (yac by1 (m++pz k++l8 m.length i))=yac by1 (m++pz k++l8 m.length i):=yab (by rw [yag,yae,yae,iS,o9];omega)
   rw [tk2]
   refine ⟨⟨by simp only [lo];omega,by simp only [Fx.hi];omega⟩,⟨by simp only [lo];omega,by simp only [Fx.hi];omega⟩,⟨by omega,by omega⟩,⟨by simp only [lo];omega,by simp only [Fx.hi];omega⟩,?_⟩
   refine hN _ (i+1) (by omega) (by omega) ?_
   exact ⟨by simp -implicitDefEqProofs only [rX,↓reduceIte,Nat.reduceEqDiff,reduceCtorEq,leE];simp;omega,⟨by rw [aaY,←yaB,yam (l₂:=[_])];exact aN _,trivial⟩,trivial,by simp -implicitDefEqProofs only [rX,aB,wfE,wfV],by simp -implicitDefEqProofs only [wfB]⟩
  | false =>
   have h1':=of_decide_eq_false h1
   have:i=8:=by omega
   subst this
   have hpd:m++pz k++l8 m.length 8=m++pad m.length:=by rw [hke,yaB,Fi]
   have hpl:m.length+(pad m.length).length=m.length+1+k+8:=by rw [←Fi,yae,iS,o9,←hke];omega
   rw [hpl]
   simp -implicitDefEqProofs only [rX,↓rY,↓reduceIte,aT,aY,leH,leB,aC,aB,wfB,wfV,Nat.reduceLeDiff,bP,hpd]
set_option maxRecDepth 20000
theorem Re (m:Bs):(m++pad m.length).length%64=0:=by
 have:=uG m.length
 simp only [yae,pad,len8,yap,ybt,yag,ybx]
 omega
theorem Wp:iv.enc=[.v (.int .u32 1779033703),.v (.int .u32 3144134277),.v (.int .u32 1013904242),.v (.int .u32 2773480762),.v (.int .u32 1359893119),.v (.int .u32 2600822924),.v (.int .u32 528734635),.v (.int .u32 1541459225)]:=rfl
theorem n5:((5:Nat):Int)=5:=rfl
theorem n6:((6:Nat):Int)=6:=rfl
theorem n7:((7:Nat):Int)=7:=rfl
def st8 (s r:S8) (i:Nat):S8:=⟨if 0<i then s.a+r.a else s.a,if 1<i then s.b+r.b else s.b,if 2<i then s.c+r.c else s.c,if 3<i then s.d+r.d else s.d,if 4<i then s.e+r.e else s.e,if 5<i then s.f+r.f else s.f,if 6<i then s.g+r.g else s.g,if 7<i then s.h+r.h else s.h⟩
theorem Di:mI.length=64:=by decide
theorem abD {i:Nat} (h:i<mI.length):V.v mI[i]=w (kW i):=by
 have h1:=Nu (i:=i) (by rw [Di] at h;exact h)
 rw [←Nt,ybo,yaq h] at h1
 exact Option.some.inj h1
theorem Ot {s:S8} {j:Nat} (h:j<8):[w s.a,w s.b,w s.c,w s.d,w s.e,w s.f,w s.g,w s.h][j]?=some (w (wn s.l j)):=by
 have:j=0∨j=1∨j=2∨j=3∨j=4∨j=5∨j=6∨j=7:=by omega
 rcases this with rfl|rfl|rfl|rfl|rfl|rfl|rfl|rfl<;>rfl
set_option maxHeartbeats 4000000 in
theorem Zt (m:Bs) (hm:m.length≤140737488355000):Ok 179 [byV m] (Is (.agg (us (sha m)))):=by
 refine bO lw179 (by simp) ?_
 unfold c179
 simp -implicitDefEqProofs only [rX,↓rY,aA,cells?,splice,↓reduceIte,Nat.reduceEqDiff,Nat.reduceAdd,reduceCtorEq,aD,bG,isC,Nat.reduceLeDiff,cxN,aH,w32]
 refine dV _ _ (.sl 2 0 (m.length+(pad m.length).length)) _ [.arr 1 ((m++pad m.length).map by1)] (Zn m hm) (by simp [aG,bA,aS,cK,wkL,wk,wkR,wkB]) (by simp [ren]) (by simp [bV]) trivial ?_
 simp -implicitDefEqProofs only [rX,aA,↓reduceIte,Nat.reduceAdd]
 have hmod:=Re m
 have hML:m.length+(pad m.length).length=(m++pad m.length).length:=by rw [yae]
 have hS:sha m=(yau 32).map (o6 (dQ iv (m++pad m.length) ((m++pad m.length).length/64))):=rfl
 have hMb:(m++pad m.length).length≤140737488355328:=by
  simp only [yae,pad,len8,yap,ybt,yag,ybx]
  unfold zeros;omega
 rw [hML,hS]
 obtain ⟨M,hM⟩:∃ M,M=m++pad m.length:=⟨_,rfl⟩
 rw [←hM] at hmod hMb ⊢
 clear hML hS
 refine dC (fun q:Nat=>(⟨[(5,.i (64*q:Nat)),(4,.sl 2 0 M.length),(3,.ptr 1 0 0),(2,.ptr 0 0 0)],[.var (us z32),.var [w (dQ iv M q).a,w (dQ iv M q).b,w (dQ iv M q).c,w (dQ iv M q).d,w (dQ iv M q).e,w (dQ iv M q).f,w (dQ iv M q).g,w (dQ iv M q).h],.arr 1 (M.map by1)],3⟩:St)) (fun q=>64*q≤M.length) (fun q=>M.length-64*q) 0 (by omega) ?_ ?_
 ·exact ⟨by simp -implicitDefEqProofs only [rX,↓reduceIte,Nat.reduceEqDiff,leE];rfl,⟨aN _,aN _,aN _,trivial⟩,trivial,by simp -implicitDefEqProofs only [rX,aB,wfE,wfV],by simp -implicitDefEqProofs only [rX,wfB,wfV,wfL,b6]⟩
 intro q hq N hN
 obtain ⟨s,hs⟩:∃ s,s=dQ iv M q:=⟨_,rfl⟩
 rw [←hs]
 simp only [c179l0]
 simp -implicitDefEqProofs only [rX,↓rY,aA,cells?,↓reduceIte,Nat.reduceEqDiff,eQ,Nat.reduceAdd,aD,cC,yah]
 cases h1:decide (((64*q:Nat):Int)<(M.length:Int)) with
 | false =>
  have h1':=of_decide_eq_false h1
  have hqe:64*q=M.length:=by omega
  simp -implicitDefEqProofs only [↓rY,w32]
  intro _
  have hse:s=dQ iv M (M.length/64):=by rw [hs];congr 1;omega
  rw [←hse]
  clear hN N
  refine dC (fun i:Nat=>(⟨[(13,.i i),(12,.ptr 3 0 0),(3,.ptr 1 0 0),(2,.ptr 0 0 0)],[.var (us z32),.var [w s.a,w s.b,w s.c,w s.d,w s.e,w s.f,w s.g,w s.h],.arr 1 (M.map by1),.var (us (oB s i))],4⟩:St)) (fun i=>i≤32) (fun i=>32-i) 0 (yai _) ?_ ?_
  ·exact ⟨by simp -implicitDefEqProofs only [rX,↓reduceIte,Nat.reduceEqDiff,leE];rfl,⟨aN _,aN _,aN _,by rw [aaS];exact aN _,trivial⟩,trivial,by simp -implicitDefEqProofs only [rX,aB,wfE,wfV],by simp -implicitDefEqProofs only [rX,wfB,wfV,wfL,b6]⟩
  intro i hi N hN
  simp only [c179l3]
  simp -implicitDefEqProofs only [rX,↓rY,aA,cells?,splice,↓reduceIte,Nat.reduceEqDiff,Nat.reduceAdd,aT,aY,wfV,isC,yah,yaf]
  cases h2:decide ((i:Int)<32) with
  | true =>
   have h2':=of_decide_eq_true h2
   have lo':(oB s i).length=32:=Nd hi
   have ed:Int.tdiv (i:Int) 4=((i/4:Nat):Int):=rfl
   have er:ybw (i:Int) 4=((i%4:Nat):Int):=rfl
   have es:(24-8*((i%4:Nat):Int))=((24-8*(i%4):Nat):Int):=by omega
   have sh:∀ {x:W} {K:V→Prop},bL .shr .u32 (x.toNat:Int) ((24-8*(i%4):Nat):Int) K=K (w (x >>> (24-8*(i%4)))):=fun {x K}=>nO (by omega)
   have cv:IntKind.u8.wrap ((wn s.l (i/4) >>> (24-8*(i%4))).toNat:Int)=((o6 s i).toNat:Int):=by
    unfold o6
    rw [UInt8.toNat_ofNat',ybB,ybC]
    simp [IntKind.wrap,IntKind.bits,IntKind.signed]
   have sp:∀ x:UInt8,yad i (us (oB s i))++[u8 x]++yaE (i+1) (us (oB s i))=us ((oB s i).set i x):=fun x=>Eu (by omega)
   simp -implicitDefEqProofs only [rX,↓rY,Nat.reduceLeDiff,yah,ed,er,es,↓sh,Ot (show i/4<8 by omega),cv,sp,cJ,lo']
   refine ⟨by omega,⟨by simp only [lo];omega,by simp only [Fx.hi];omega⟩,by omega,by omega,⟨by simp only [lo];omega,by simp only [Fx.hi];omega⟩,⟨by simp only [lo];omega,by simp only [Fx.hi];omega⟩,by omega,by omega,⟨by simp only [lo];omega,by simp only [Fx.hi];omega⟩,?_⟩
   refine hN _ (i+1) (by omega) (by omega) ?_
   rw [Nc (by omega)]
   exact ⟨by simp -implicitDefEqProofs only [rX,↓reduceIte,Nat.reduceEqDiff,leE];simp,aV _,trivial,by simp -implicitDefEqProofs only [rX,aB,wfE,wfV],by simp -implicitDefEqProofs only [rX,wfB,wfV,wfL,b6]⟩
  | false =>
   have h2':=of_decide_eq_false h2
   have:i=32:=by omega
   subst this
   have l32:((yau 32).map (o6 s)).length=32:=by simp
   have tk3:(us ((yau 32).map (o6 s))).take 32=us ((yau 32).map (o6 s)):=yab (by rw [cJ,l32];exact yaa _)
   have dk3:(us z32).drop 32=[]:=yas (by rw [cJ,i9];exact yaa _)
   simp -implicitDefEqProofs only [rX,↓rY,Tw,tk3,cJ,l32,f7,i9,dk3,b6]
 | true =>
  have h1':=of_decide_eq_true h1
  have hq64:64*q+64≤M.length:=by omega
  have a1:(lo IntKind.i64≤((64*q:Nat):Int)+64∧((64*q:Nat):Int)+64≤Fx.hi IntKind.i64):=⟨by simp only [lo];omega,by simp only [Fx.hi];omega⟩
  simp -implicitDefEqProofs only [rX,↓rY,eq_true a1]
  intro _
  have tn:(((64*q:Nat):Int)+64).toNat-64*q=64:=by omega
  rw [tn]
  refine ⟨⟨by omega,by omega,by omega⟩,?_⟩
  have hbl:((M.drop (64*q)).take 64).length=64:=by simp;omega
  obtain ⟨bs,hbs⟩:∃ bs,bs=(M.drop (64*q)).take 64:=⟨_,rfl⟩
  rw [←hbs] at hbl
  have lW:(wds bs 64).length=64:=eY bs 64
  refine aE (Zm bs hbl) ⟨⟨?_,trivial⟩,?_,trivial⟩ (by simp [ren,Lb]) trivial ?_
  ·show 64*q+64≤(M.map by1).length
   rw [yag];exact hq64
  ·show wkB (.bro 1 (((M.map by1).drop (64*q)).take 64)) 1 (bs.map by1)
   rw [←ybc,←yaO,←hbs]
   exact ⟨rfl,rfl⟩
  simp -implicitDefEqProofs only [rX,↓rY,aA,cells?,splice,↓reduceIte,Nat.reduceEqDiff,Nat.reduceAdd,aD,isC,w0,m6,i7,lW,Qi lW,Ha i7,Qh]
  refine dC (fun i:Nat=>(⟨[(8,.i i),(7,.ptr 4 0 0),(6,.ptr 3 0 0),(5,.i (64*q:Nat)),(4,.sl 2 0 M.length),(3,.ptr 1 0 0),(2,.ptr 0 0 0)],[.var (us z32),.var [w s.a,w s.b,w s.c,w s.d,w s.e,w s.f,w s.g,w s.h],.arr 1 (M.map by1),.var (ws (wds bs 64)),.var [w (i6 (wn (wds bs 64)) s i).a,w (i6 (wn (wds bs 64)) s i).b,w (i6 (wn (wds bs 64)) s i).c,w (i6 (wn (wds bs 64)) s i).d,w (i6 (wn (wds bs 64)) s i).e,w (i6 (wn (wds bs 64)) s i).f,w (i6 (wn (wds bs 64)) s i).g,w (i6 (wn (wds bs 64)) s i).h]],5⟩:St)) (fun i=>i≤64) (fun i=>64-i) 0 (yai _) ?_ ?_
  ·exact ⟨by simp -implicitDefEqProofs only [rX,↓reduceIte,Nat.reduceEqDiff,leE];rfl,aV _,trivial,by simp -implicitDefEqProofs only [rX,aB,wfE,wfV],by simp -implicitDefEqProofs only [rX,wfB,wfV,wfL,cW,b6]⟩
  intro i hi N1 hN1
  obtain ⟨r,hr⟩:∃ r,r=i6 (wn (wds bs 64)) s i:=⟨_,rfl⟩
  rw [←hr]
  simp only [c179l1]
  simp -implicitDefEqProofs only [rX,↓rY,rdK,aA,↓reduceIte,Nat.reduceEqDiff,Nat.reduceAdd,yay,yah,yaf]
  cases h2:decide ((i:Int)<64) with
  | false =>
   have h2':=of_decide_eq_false h2
   have:i=64:=by omega
   subst this
   simp -implicitDefEqProofs only [↓rY]
   clear hN1 N1
   refine dC (fun j:Nat=>(⟨[(11,.i j),(7,.ptr 4 0 0),(6,.ptr 3 0 0),(5,.i (64*q:Nat)),(4,.sl 2 0 M.length),(3,.ptr 1 0 0),(2,.ptr 0 0 0)],[.var (us z32),.var [w (st8 s r j).a,w (st8 s r j).b,w (st8 s r j).c,w (st8 s r j).d,w (st8 s r j).e,w (st8 s r j).f,w (st8 s r j).g,w (st8 s r j).h],.arr 1 (M.map by1),.var (ws (wds bs 64)),.var [w r.a,w r.b,w r.c,w r.d,w r.e,w r.f,w r.g,w r.h]],5⟩:St)) (fun j=>j≤8) (fun j=>8-j) 0 (yai _) ?_ ?_
   ·exact ⟨by simp -implicitDefEqProofs only [rX,↓reduceIte,Nat.reduceEqDiff,leE];rfl,aV _,trivial,by simp -implicitDefEqProofs only [rX,aB,wfE,wfV],by simp -implicitDefEqProofs only [rX,wfB,wfV,wfL,cW,b6]⟩
   intro j hj N2 hN2
   have hc:dQ iv M (q+1)=s.add r:=by
    rw [dQ,←hs,←hbs];unfold comp;rw [hr]
   have hcase:j=0∨j=1∨j=2∨j=3∨j=4∨j=5∨j=6∨j=7∨j=8:=by omega
   rcases hcase with rfl|rfl|rfl|rfl|rfl|rfl|rfl|rfl|rfl
   all_goals
    simp only [c179l2]
    simp -implicitDefEqProofs only [qG,qH,qI,qK,qL,qM,qO,qQ,qR,qT,qX,qY,zb,zv,zS,zT,zU,zV,zX,aA,cells?,yaz,yap,yaF,splice,zY,yan,yar,↓reduceIte,Nat.reduceEqDiff,yat,zZ,kb,↓kc,↓ke,ybf,yaQ,yal,yaA,Nat.reduceAdd,yaV,yaW,ybd,List.take_nil,ybv,yaL,yaU,isC,yaw,yaH,true_and,and_true,and_self,yaC,not_false_eq_true,Nat.reduceLT,Nat.reduceLeDiff,yaa,lg0,kj,kk,kn,lg1,kr,kv,lg2,ky,kz,lg3,kD,kF,lg4,kI,kJ,lg5,kM,kN,lg6,kQ,kR,lg7,kU,kV,wm,↓wo,↓wq,↓wu,↓wv,↓wx,↓wz,↓wB,↓wC,↓wE,↓jv,↓jE,yaf,yaI,Int.reduceAdd,n0,n1,n2,n3,n4,n5,n6,n7,n8,decide_true,decide_false,yaM,yaJ,↓nP]
   ·exact ⟨by decide,hN2 _ 1 (by omega) (by omega) ⟨by simp -implicitDefEqProofs only [rX,↓reduceIte,Nat.reduceEqDiff,leE];rfl,aV _,trivial,by simp -implicitDefEqProofs only [rX,aB,wfE,wfV],by simp -implicitDefEqProofs only [rX,wfB,wfV,wfL,cW,b6]⟩⟩
   ·exact ⟨by decide,hN2 _ 2 (by omega) (by omega) ⟨by simp -implicitDefEqProofs only [rX,↓reduceIte,Nat.reduceEqDiff,leE];rfl,aV _,trivial,by simp -implicitDefEqProofs only [rX,aB,wfE,wfV],by simp -implicitDefEqProofs only [rX,wfB,wfV,wfL,cW,b6]⟩⟩
   ·exact ⟨by decide,hN2 _ 3 (by omega) (by omega) ⟨by simp -implicitDefEqProofs only [rX,↓reduceIte,Nat.reduceEqDiff,leE];rfl,aV _,trivial,by simp -implicitDefEqProofs only [rX,aB,wfE,wfV],by simp -implicitDefEqProofs only [rX,wfB,wfV,wfL,cW,b6]⟩⟩
   ·exact ⟨by decide,hN2 _ 4 (by omega) (by omega) ⟨by simp -implicitDefEqProofs only [rX,↓reduceIte,Nat.reduceEqDiff,leE];rfl,aV _,trivial,by simp -implicitDefEqProofs only [rX,aB,wfE,wfV],by simp -implicitDefEqProofs only [rX,wfB,wfV,wfL,cW,b6]⟩⟩
   ·exact ⟨by decide,hN2 _ 5 (by omega) (by omega) ⟨by simp -implicitDefEqProofs only [rX,↓reduceIte,Nat.reduceEqDiff,leE];rfl,aV _,trivial,by simp -implicitDefEqProofs only [rX,aB,wfE,wfV],by simp -implicitDefEqProofs only [rX,wfB,wfV,wfL,cW,b6]⟩⟩
   ·exact ⟨by decide,hN2 _ 6 (by omega) (by omega) ⟨by simp -implicitDefEqProofs only [rX,↓reduceIte,Nat.reduceEqDiff,leE];rfl,aV _,trivial,by simp -implicitDefEqProofs only [rX,aB,wfE,wfV],by simp -implicitDefEqProofs only [rX,wfB,wfV,wfL,cW,b6]⟩⟩
   ·exact ⟨by decide,hN2 _ 7 (by omega) (by omega) ⟨by simp -implicitDefEqProofs only [rX,↓reduceIte,Nat.reduceEqDiff,leE];rfl,aV _,trivial,by simp -implicitDefEqProofs only [rX,aB,wfE,wfV],by simp -implicitDefEqProofs only [rX,wfB,wfV,wfL,cW,b6]⟩⟩
   ·exact ⟨by decide,hN2 _ 8 (by omega) (by omega) ⟨by simp -implicitDefEqProofs only [rX,↓reduceIte,Nat.reduceEqDiff,leE];rfl,aV _,trivial,by simp -implicitDefEqProofs only [rX,aB,wfE,wfV],by simp -implicitDefEqProofs only [rX,wfB,wfV,wfL,cW,b6]⟩⟩
   ·refine ⟨⟨by simp only [lo];omega,by simp only [Fx.hi];omega⟩,hN _ (q+1) (by omega) (by omega) ?_⟩
    simp only [hc]
    exact ⟨by simp -implicitDefEqProofs only [rX,↓reduceIte,Nat.reduceEqDiff,leE];simp;omega,⟨aN _,aN _,aN _,trivial⟩,trivial,by simp -implicitDefEqProofs only [rX,aB,wfE,wfV],by simp -implicitDefEqProofs only [rX,wfB,wfV,wfL,b6]⟩
  | true =>
   have h2':=of_decide_eq_true h2
   have gw:(ws (wds bs 64))[i]?=some (w (wn (wds bs 64) i)):=nJ (by omega)
   have ck:(0≤(i:Int)∧(i:Int)<((64:Nat):Int)):=by omega
   simp -implicitDefEqProofs only [yar,zZ,↓kc,yaH,true_and,and_self,Nat.reduceLT,lg0,lg1,lg2,lg3,lg4,lg5,lg6,↓wo,eq_true ck,gw,yaI,n8,yaM,yaJ,↓fI,↓Sk,↓Bo,adI,abD]
   refine ⟨by rw [Di];omega,?_⟩
   refine aE (oN r.e 6 (by omega)) (by simp [aG,bA,aS,cK,wkL,wk,wkR]) rfl trivial ?_
   simp -implicitDefEqProofs only [qB,qE,zN,zS,zU,zV,zX,aA,↓reduceIte,Nat.reduceEqDiff,yaG,yaD,yaw,and_true]
   refine aE (oN r.e 11 (by omega)) (by simp [aG,bA,aS,cK,wkL,wk,wkR]) rfl trivial ?_
   simp -implicitDefEqProofs only [qe,qB,qC,qE,zb,zN,zS,zU,zV,zX,aA,↓reduceIte,Nat.reduceEqDiff,zZ,yaG,yaD,yaw,true_and,and_true,↓fI]
   refine aE (oN r.e 25 (by omega)) (by simp [aG,bA,aS,cK,wkL,wk,wkR]) rfl trivial ?_
   simp -implicitDefEqProofs only [qa,qe,qn,qy,rdK,qz,qA,qB,qC,qE,qK,qT,qX,zb,zv,zN,zS,zU,zV,zX,aA,yaz,yap,zY,yan,yar,↓reduceIte,Nat.reduceEqDiff,yat,zZ,yal,yaA,Nat.reduceAdd,yaG,yaD,yaw,yaH,true_and,and_true,and_self,Nat.reduceLT,lg0,lg1,lg2,lg3,wm,↓wo,↓wq,↓wu,↓wx,↓wE,yaf,yaI,n8,yaM,yaJ,↓nP,↓fI,↓Bo]
   refine aE (oN r.a 2 (by omega)) (by simp [aG,bA,aS,cK,wkL,wk,wkR]) rfl trivial ?_
   simp -implicitDefEqProofs only [qB,qE,zN,zS,zU,zV,zX,aA,↓reduceIte,Nat.reduceEqDiff,yaG,yaD,yaw,and_true]
   refine aE (oN r.a 13 (by omega)) (by simp [aG,bA,aS,cK,wkL,wk,wkR]) rfl trivial ?_
   simp -implicitDefEqProofs only [qe,qB,qC,qE,zb,zN,zS,zU,zV,zX,aA,↓reduceIte,Nat.reduceEqDiff,zZ,yaG,yaD,yaw,true_and,and_true,↓fI]
   refine aE (oN r.a 22 (by omega)) (by simp [aG,bA,aS,cK,wkL,wk,wkR]) rfl trivial ?_
   simp -implicitDefEqProofs only [qa,qe,qA,qC,qH,qQ,qR,qT,qX,qY,zb,zk,zv,zS,zT,zU,zV,zX,aA,cells?,yaz,yap,yaF,splice,zY,yan,yar,↓reduceIte,Nat.reduceEqDiff,yat,zZ,ybf,yaQ,yal,yaA,Nat.reduceAdd,yaV,bG,yaG,yaD,yaW,ybd,ybv,yaL,yaU,isC,yaw,yaH,true_and,and_true,and_self,yaC,yae,not_false_eq_true,Nat.reduceLT,Nat.reduceLeDiff,yaa,lg0,kj,kk,kn,lg1,kq,kr,kv,lg2,kx,ky,kz,lg3,kC,kD,kF,lg4,kI,kJ,lg5,kM,kN,kQ,kR,kU,wm,↓wo,↓wq,↓wu,↓wx,↓wz,↓wC,↓wE,↓jv,yaf,yaI,n8,yaM,yaJ,↓nP,↓fI]
   refine ⟨⟨by simp only [lo];omega,by simp only [Fx.hi];omega⟩,hN1 _ (i+1) (by omega) (by omega) ?_⟩
   have e:i6 (wn (wds bs 64)) s (i+1)=r.rnd (kW i) (wn (wds bs 64) i):=by rw [hr];rfl
   simp only [e]
   exact ⟨by simp -implicitDefEqProofs only [rX,↓reduceIte,Nat.reduceEqDiff,leE];simp,aV _,trivial,by simp -implicitDefEqProofs only [rX,aB,wfE,wfV],by simp -implicitDefEqProofs only [rX,wfB,wfV,wfL,cW,b6]⟩
set_option maxRecDepth 20000
theorem hJ {m:Bs}:(sha m).length=32:=by simp [sha]
def z16:Bs:=yak 16 0
theorem bQ:z16.length=16:=rfl
theorem w16:yac V.v (ybF 16 (Value.int IntKind.u8 0)).toList=us z16:=by unfold us;rfl
attribute [irreducible] z16
def cp (l:Bs) (i:Nat):Bs:=l.take i++yak (16-i) 0
theorem Xg {l:Bs} {i:Nat} (h:l.length=32) (hi:i≤16):(cp l i).length=16:=by simp [cp];omega
theorem aeW {l:Bs}:cp l 0=z16:=by unfold z16;rfl
theorem abP {l:Bs}:cp l 16=l.take 16:=by simp [cp]
theorem Xf {l:Bs} {i:Nat} (h:l.length=32) (hi:i<16):(cp l i).set i (bn l i)=cp l (i+1):=by
 unfold cp bn
 have hl:(l.take i).length=i:=by rw [yaX];omega
 rw [ybg _ _ (by omega),hl,ybu,show 16-i=(16-(i+1))+1 by omega,yaT,yaF,yan,yaq (by omega)]
 rw [show l.take (i+1)=l.take i++[l[i]'(by omega)] from (ycj (by omega)).symm,yaB]
 rfl
set_option maxHeartbeats 1000000 in
theorem Zz (m:Bs) (hm:m.length≤140737488355000):Ok 153 [byV m] (Is (.agg (us ((sha m).take 16)))):=by
 refine bO lw153 (by simp) ?_
 unfold c153
 simp -implicitDefEqProofs only [rX,↓rY,aA,cells?,↓reduceIte,reduceCtorEq,aD,cxN,aH,w16]
 refine aE (Zt m hm) (by simp [aG,bA,aS,cK,wkL,wk,wkR,wkB]) (by simp [ren,a6]) trivial ?_
 have tks:(us (sha m)).take 32=us (sha m):=yab (by rw [cJ,hJ];exact yaa _)
 have dz:(us z32).drop 32=[]:=yas (by rw [cJ,i9];exact yaa _)
 have tkz:(us z16).take 16=us z16:=yab (by rw [cJ,bQ];exact yaa _)
 have dz6:(us z16).drop 16=[]:=yas (by rw [cJ,bQ];exact yaa _)
 simp -implicitDefEqProofs only [rX,↓rY,aA,cells?,splice,↓reduceIte,Nat.reduceEqDiff,Nat.reduceAdd,aD,bG,isC,w32,w16,cJ,hJ,i9,bQ,dz,dz6,f7]
 have h16:us z16=yak 16 (u8 0):=by unfold us z16;rfl
 refine dC (fun i:Nat=>(⟨[(5,.i i),(4,.ptr 2 0 0),(3,.ptr 1 0 0),(2,.ptr 0 0 0)],[.var (us z16),.var (us (sha m)),.var (us (cp (sha m) i))],3⟩:St)) (fun i=>i≤16) (fun i=>16-i) 0 (yai _) ?_ ?_
 ·exact ⟨by simp -implicitDefEqProofs only [rX,↓reduceIte,Nat.reduceEqDiff,leE];rfl,⟨aN _,aN _,by rw [aeW,h16];exact aN (Blk.var (yak 16 (u8 0))),trivial⟩,trivial,by simp -implicitDefEqProofs only [rX,aB,wfE,wfV],by simp -implicitDefEqProofs only [rX,wfB,b6]⟩
 intro i hi N hN
 simp only [c153l0]
 simp -implicitDefEqProofs only [rX,↓rY,aA,cells?,splice,↓reduceIte,Nat.reduceEqDiff,Nat.reduceAdd,aT,aY,wfV,yah,yaf]
 cases h1:decide ((i:Int)<16) with
 | true =>
  have h1':=of_decide_eq_true h1
  have lc:(cp (sha m) i).length=16:=Xg hJ hi
  have gs:(us (sha m))[i]?=some (u8 (bn (sha m) i)):=Ll (by rw [hJ];omega)
  have sp:∀ x:UInt8,yad i (us (cp (sha m) i))++[u8 x]++yaE (i+1) (us (cp (sha m) i))=us ((cp (sha m) i).set i x):=fun x=>Eu (by omega)
  simp -implicitDefEqProofs only [rX,↓rY,isC,Nat.reduceLeDiff,gs,sp,cJ,lc]
  refine ⟨by omega,by omega,by omega,⟨by simp only [lo];omega,by simp only [Fx.hi];omega⟩,?_⟩
  refine hN _ (i+1) (by omega) (by omega) ?_
  rw [Xf hJ (by omega)]
  exact ⟨by simp -implicitDefEqProofs only [rX,↓reduceIte,Nat.reduceEqDiff,leE];simp,aV _,trivial,by simp -implicitDefEqProofs only [rX,aB,wfE,wfV],by simp -implicitDefEqProofs only [rX,wfB,b6]⟩
 | false =>
  have h1':=of_decide_eq_false h1
  have:i=16:=by omega
  subst this
  have l16:((sha m).take 16).length=16:=by rw [yaX,hJ];rfl
  have tk3:(us ((sha m).take 16)).take 16=us ((sha m).take 16):=yab (by rw [cJ,l16];exact yaa _)
  simp -implicitDefEqProofs only [rX,↓rY,abP,tk3,cJ,l16,f7,bQ,dz6,b6]
set_option maxRecDepth 20000
def S0:Stm:=⟨iv,yak 64 0,0⟩
theorem rp0:Rp S0 []:=⟨rfl,rfl,rfl,rfl⟩
theorem Xl:S0.enc=iv.enc++(yak 64 (u8 0)++[n64 0]):=by unfold Stm.enc sC;rfl
theorem Kt:oE.toList.length=73:=rfl
set_option maxHeartbeats 2000000 in
theorem aaJ:Ok 128 [] (Is (.agg S0.enc)):=by
 refine bO lw128 (by simp) ?_
 unfold c128
 simp -implicitDefEqProofs only [rX,↓rY,aA,cells?,splice,↓reduceIte,Nat.reduceAdd,reduceCtorEq,aD,bG,aT,aY,wfV,isC,Nat.reduceLeDiff,cxN,aH,Xl,Wp,Kt]
 refine ⟨yaa _,?_,?_⟩
 ·simp [wfL,wfV]
 ·rfl
end Go.Fx.H
namespace Go.Fx.H
open Go Go.Fx
def zz (x:Int):Nat:=if 0≤x then (2*x).toNat else (-2*x-1).toNat
def vi (n:Nat):Bs:=if h:n<128 then [UInt8.ofNat n] else UInt8.ofNat (n%128+128)::vi (n/128)
termination_by n
decreasing_by omega
def nB (x:Int):Bs:=vi (zz x)
def tB (t:Bs):Bs:=nB t.length++t
def inB (k:Int) (l:List Bs):Bs:=UInt8.ofNat (k%256).toNat::(l.map tB).flatten
def cD (k:Int) (l:List Bs):Bs:=(sha (inB k l)).take 16
theorem Cd {n:Nat} (h:n<128):vi n=[UInt8.ofNat n]:=by rw [vi,dif_pos h]
theorem Th {n:Nat} (h:¬n<128):vi n=UInt8.ofNat (n%128+128)::vi (n/128):=by rw [vi,dif_neg h]
theorem uF {x:Int} (hx:-9223372036854775808≤x∧x≤9223372036854775807):zz x<18446744073709551616:=by unfold zz;split<;>omega
theorem wrap64 {x:Int}:IntKind.u64.wrap x=x%18446744073709551616:=by simp [IntKind.wrap,IntKind.bits,IntKind.signed]
theorem Bz {x:Int}:IntKind.u8.wrap x=x%256:=by simp [IntKind.wrap,IntKind.bits,IntKind.signed]
theorem Pw {x:Int} (hx:-9223372036854775808≤x∧x≤9223372036854775807) :
  IntKind.u64.wrap ((yaj 64 (IntKind.u64.wrap (IntKind.u64.wrap x*2)) ^^^ yaj 64 (IntKind.u64.wrap (x.fdiv 9223372036854775808))).toNat:Int)=(zz x:Int):=by
 rw [wrap64 (x:=((BitVec.toNat _:Nat):Int))]
 have h64:∀ b:BitVec 64,((b.toNat:Nat):Int)%18446744073709551616=(b.toNat:Int):=fun b=>Int.emod_eq_of_lt (yaN _) (by have:=b.isLt;omega)
 rw [h64,wrap64,wrap64,wrap64,ybb _ (by omega)]
 unfold zz
 by_cases h:0≤x
 ·rw [if_pos h,show x/9223372036854775808=0 by omega,show x%18446744073709551616*2%18446744073709551616=2*x by omega]
  simp only [Int.zero_emod,BitVec.ofInt_ofNat,BitVec.xor_zero,ybS]
  omega
 ·rw [if_neg h,show x/9223372036854775808=-1 by omega,show x%18446744073709551616*2%18446744073709551616=2*x+18446744073709551616 by omega,show (-1:Int)%18446744073709551616=18446744073709551615 from rfl]
  have e1:yaj 64 18446744073709551615=BitVec.allOnes 64:=ycd (by rw [ybS,BitVec.toNat_allOnes];omega)
  rw [e1,BitVec.xor_allOnes,BitVec.toNat_not,ybS]
  omega
theorem Zc {n:Nat} (h:n<18446744073709551616):IntKind.u8.wrap ((yaj 8 (IntKind.u8.wrap (n:Int)) ||| yaj 8 128).toNat:Int)=((UInt8.ofNat (n%128+128)).toNat:Int):=by
 rw [Bz,Bz]
 have h8:∀ b:BitVec 8,((b.toNat:Nat):Int)%256=(b.toNat:Int):=fun b=>Int.emod_eq_of_lt (yaN _) (by have:=b.isLt;omega)
 rw [h8]
 have key:∀ m:Fin 256,(yaS 8 m.val ||| 128#8).toNat=m.val%128+128:=by decide +kernel
 have:=key ⟨n%256,by omega⟩
 simp only at this
 have e:yaj 8 ((n:Int)%256)=yaS 8 (n%256):=by
  rw [show ((n:Int)%256)=((n%256:Nat):Int) by omega,ycc]
 rw [e,show yaj 8 128=128#8 by rfl,this,UInt8.toNat_ofNat']
 omega
theorem Ui {n:Nat}:(IntKind.u8.wrap ((n:Int).tmod 128)+128:Int)=((UInt8.ofNat (n%128+128)).toNat:Int):=by
 rw [Bz,UInt8.toNat_ofNat',show (n:Int).tmod 128=((n%128:Nat):Int) from rfl]
 omega
theorem uL {n:Nat} (h:n<128):IntKind.u8.wrap (n:Int)=((UInt8.ofNat n).toNat:Int):=by
 rw [Bz,UInt8.toNat_ofNat'];omega
theorem Hi:∀ (k n:Nat),n<128 ^ (k+1)→(vi n).length≤k+1
 | 0,n,h=>by rw [Cd (by omega)];simp
 | k+1,n,h=>by
  by_cases hn:n<128
  ·rw [Cd hn];simp
  ·rw [Th hn,yap]
   have:=Hi k (n/128) (by rw [Nat.div_lt_iff_lt_mul (by omega),←Nat.pow_succ];exact h)
   omega
theorem Lg {n:Nat} (h:n<18446744073709551616):(vi n).length≤10:=Hi 9 n (by omega)
theorem Fm {x:Int} (hx:-9223372036854775808≤x∧x≤9223372036854775807):(nB x).length≤10:=Lg (uF hx)
open Go Go.Fx Go.Proofs
set_option maxRecDepth 20000
theorem adO {a b:Int} {K:V→Prop}:bL .shl .u64 a b K=(0≤b∧K (.v (.int .u64 (IntKind.u64.wrap (a*2 ^ (min b.toNat 64)))))):=rfl
theorem Xw {a b:Int} {K:V→Prop}:bL .shr .u64 a b K=(0≤b∧K (.v (.int .u64 (a.fdiv (2 ^ (min b.toNat 64)))))):=rfl
theorem sri {a b:Int} {K:V→Prop}:bL .shr .i64 a b K=(0≤b∧K (.v (.int .i64 (a.fdiv (2 ^ (min b.toNat 64)))))):=rfl
theorem adE {a c:Int} {K:V→Prop} {x:Bool}:b9 .xor x .u64 a c K=K (.v (.int .u64 (IntKind.u64.wrap ((yaj 64 a ^^^ yaj 64 c).toNat:Int)))):=rfl
theorem or8 {a c:Int} {K:V→Prop} {x:Bool}:b9 .or x .u8 a c K=K (.v (.int .u8 (IntKind.u8.wrap ((yaj 8 a ||| yaj 8 c).toNat:Int)))):=rfl
theorem p1:(2:Int) ^ (min (1:Int).toNat 64)=2:=rfl
theorem p63:(2:Int) ^ (min (63:Int).toNat 64)=9223372036854775808:=rfl
theorem p7:(2:Int) ^ (min (7:Int).toNat 64)=128:=rfl
theorem vO {fx:List Nat} {f:(St→Prop)→St→Prop} {s s0:St} (hgh:eB fx s s0) {G:Type} (pat:G→St) (I:G→Prop) (μ:G→Nat) (g:G) (h0:I g) (h1:leS fx s0 (pat g))
  (h:∀ g,I g→∀ N:St→Prop,(∀ s' g',I g'→μ g'<μ g→leS fx s' (pat g')→N s')→f N (pat g)):s6 fx f s :=
 eT hgh pat I μ g h0 h1 fun g hg=>h g hg _ fun s' g' a b c=>⟨g',⟨a,b⟩,c⟩
theorem abM {n:Nat}:((n:Int).fdiv 128)=((n/128:Nat):Int):=by rw [ybb _ (by omega)];rfl
structure VI (x:Nat) (g:Bs × Nat):Prop where
 e:vi x=g.1++vi g.2
 lt:g.2<18446744073709551616
 len:g.1.length≤10
theorem VI.next {x:Nat} {L:Bs} {n:Nat} (h:VI x (L,n)) (hx:x<18446744073709551616) (hn:¬n<128):VI x (L++[UInt8.ofNat (n%128+128)],n/128):=by
 have he:=h.e
 have hl:=Lg hx
 have:=h.lt
 simp only at he this
 rw [Th hn] at he
 refine ⟨by simp only;rw [he];simp,by simp only;omega,?_⟩
 rw [he] at hl
 simp only [yae,yap,yaz] at hl ⊢
 omega
set_option maxHeartbeats 1000000 in
theorem Zv (x:Int) (hx:-9223372036854775808≤x∧x≤9223372036854775807):Ok 160 [.i x] (IsA (.sl 0 0 (nB x).length) [.arr 1 ((nB x).map by1)]):=by
 refine bO lw160 (by simp) ?_
 unfold c160
 simp -implicitDefEqProofs only [rX,aA,↓reduceIte,Nat.reduceEqDiff,reduceCtorEq,cxN,aH,↓adO,↓sri,↓adE,p1,p63,Pw hx]
 refine ⟨by omega,by omega,?_⟩
 refine vO (.virt 1 1 (by decide) (.nilE 4 0 rfl (.refl _))) (fun g:Bs × Nat=>(⟨[(4,.sl 0 0 g.1.length),(3,n64 g.2)],[.arr 1 (g.1.map by1)],0⟩:St)) (VI (zz x)) (fun g=>g.2) ([],zz x) ⟨rfl,uF hx,by simp⟩ ?_ ?_
 ·exact ⟨by simp -implicitDefEqProofs only [rX,↓reduceIte,Nat.reduceEqDiff,leE],aV _,trivial,by simp -implicitDefEqProofs only [rX,aB,wfE,wfV],by simp -implicitDefEqProofs only [wfB]⟩
 rintro ⟨L,n⟩ hI N hN
 have hlt:=hI.lt
 have hlen:=hI.len
 have he:=hI.e
 simp only at hlt hlen he
 have tk:yad L.length (yac by1 L)=yac by1 L:=yab (by rw [yag];exact yaa _)
 simp only [c160l0]
 simp -implicitDefEqProofs only [rX,↓rY,aA,cells?,↓reduceIte,Nat.reduceEqDiff,Nat.reduceAdd,reduceCtorEq,aD,bY,aP,aZ,kill,St.kill,isD,Nat.reduceLT,Nat.reduceLeDiff,yaf]
 cases h1:decide ((n:Int)>127) with
 | true =>
  have h1':=of_decide_eq_true h1
  simp -implicitDefEqProofs only [rX,↓rY,kill,St.kill,isD,↓or8,↓Xw,p7,Zc hlt,abM,tk]
  refine ⟨by omega,by omega,hN _ (L++[UInt8.ofNat (n%128+128)],n/128) (hI.next (uF hx) (by omega)) (by simp only;omega) ?_⟩
  exact ⟨by simp -implicitDefEqProofs only [rX,↓reduceIte,Nat.reduceEqDiff,leE],⟨by rw [yam];exact aN _,trivial⟩,trivial,by simp -implicitDefEqProofs only [rX,aB,wfE,wfV],by simp -implicitDefEqProofs only [wfB]⟩
 | false =>
  have h1':=of_decide_eq_false h1
  have hv:nB x=L++[UInt8.ofNat n]:=by unfold nB;rw [he,Cd (by omega)]
  simp -implicitDefEqProofs only [↓rY,uL (show n<128 by omega),tk]
  refine ⟨by omega,?_⟩
  simp -implicitDefEqProofs only [rX,↓reduceIte,aT,aY,leH,leB,aC,aB,wfB,wfV,Nat.reduceLeDiff,bP,hv,yam]
  rfl
theorem Ul {x:Int} (h:0≤x) (h2:x≤9223372036854775807):IntKind.u64.wrap (IntKind.u64.wrap x*2)=(zz x:Int):=by
 unfold zz;rw [wrap64,wrap64,if_pos h];omega
theorem Um {x:Int} (h:x<0) (h2:-9223372036854775808≤x):IntKind.u64.wrap (IntKind.u64.wrap (IntKind.u64.wrap (-1-x)*2)+1)=(zz x:Int):=by
 unfold zz;rw [wrap64,wrap64,wrap64,if_neg (by omega)];omega
theorem Td {n:Nat} (h:n<18446744073709551616):IntKind.u64.wrap ((n/128:Nat):Int)=((n/128:Nat):Int):=by rw [wrap64];omega
theorem Tk {n:Nat}:((n:Int).tdiv 128)=((n/128:Nat):Int):=rfl
set_option maxHeartbeats 1000000 in
theorem Zl (x:Int) (hx:-9223372036854775808≤x∧x≤9223372036854775807):Ok 209 [.i x] (IsA (.sl 0 0 (nB x).length) [.arr 1 ((nB x).map by1)]):=by
 refine bO lw209 (by simp) ?_
 unfold c209
 simp -implicitDefEqProofs only [rX,↓rY,aA,↓reduceIte,reduceCtorEq,cxN,aH]
 cases h0:decide (x<0) with
 | true =>
  have h0':=of_decide_eq_true h0
  simp -implicitDefEqProofs only [↓rY,Um h0' hx.1]
  refine ⟨⟨by simp only [lo];omega,by simp only [Fx.hi];omega⟩,?_⟩
  refine vO (.virt 1 1 (by decide) (.nilE 4 0 rfl (.refl _))) (fun g:Bs × Nat=>(⟨[(4,.sl 0 0 g.1.length),(3,n64 g.2)],[.arr 1 (g.1.map by1)],0⟩:St)) (VI (zz x)) (fun g=>g.2) ([],zz x) ⟨rfl,uF hx,by simp⟩ ?_ ?_
  ·exact ⟨by simp -implicitDefEqProofs only [rX,↓reduceIte,Nat.reduceEqDiff,leE],aV _,trivial,by simp -implicitDefEqProofs only [rX,aB,wfE,wfV],by simp -implicitDefEqProofs only [wfB]⟩
  rintro ⟨L,n⟩ hI N hN
  have hlt:=hI.lt
  have hlen:=hI.len
  have he:=hI.e
  simp only at hlt hlen he
  have tk:yad L.length (yac by1 L)=yac by1 L:=yab (by rw [yag];exact yaa _)
  simp only [c209l0]
  simp -implicitDefEqProofs only [rX,↓rY,aA,cells?,↓reduceIte,Nat.reduceEqDiff,Nat.reduceAdd,reduceCtorEq,aD,bY,aP,aZ,kill,St.kill,isD,Nat.reduceLT,Nat.reduceLeDiff,yaf]
  cases h1:decide ((n:Int)≥128) with
  | true =>
   have h1':=of_decide_eq_true h1
   simp -implicitDefEqProofs only [↓rY,Ui,Tk,tk,Td hlt]
   refine ⟨by omega,⟨by simp only [lo];omega,by simp only [Fx.hi];have:=(UInt8.ofNat (n%128+128)).toNat_lt;omega⟩,by omega,by omega,hN _ (L++[UInt8.ofNat (n%128+128)],n/128) (hI.next (uF hx) (by omega)) (by simp only;omega) ?_⟩
   exact ⟨by simp -implicitDefEqProofs only [rX,↓reduceIte,Nat.reduceEqDiff,leE],⟨by rw [yam];exact aN _,trivial⟩,trivial,by simp -implicitDefEqProofs only [rX,aB,wfE,wfV],by simp -implicitDefEqProofs only [wfB]⟩
  | false =>
   have h1':=of_decide_eq_false h1
   have hv:nB x=L++[UInt8.ofNat n]:=by unfold nB;rw [he,Cd (by omega)]
   simp -implicitDefEqProofs only [↓rY,uL (show n<128 by omega),tk]
   refine ⟨by omega,?_⟩
   simp -implicitDefEqProofs only [rX,↓reduceIte,aT,aY,leH,leB,aC,aB,wfB,wfV,Nat.reduceLeDiff,bP,hv,yam]
   rfl
 | false =>
  have h0':=of_decide_eq_false h0
  simp -implicitDefEqProofs only [↓rY,Ul (show 0≤x by omega) hx.2]
  refine vO (.virt 1 1 (by decide) (.nilE 4 0 rfl (.refl _))) (fun g:Bs × Nat=>(⟨[(4,.sl 0 0 g.1.length),(3,n64 g.2)],[.arr 1 (g.1.map by1)],0⟩:St)) (VI (zz x)) (fun g=>g.2) ([],zz x) ⟨rfl,uF hx,by simp⟩ ?_ ?_
  ·exact ⟨by simp -implicitDefEqProofs only [rX,↓reduceIte,Nat.reduceEqDiff,leE],aV _,trivial,by simp -implicitDefEqProofs only [rX,aB,wfE,wfV],by simp -implicitDefEqProofs only [wfB]⟩
  rintro ⟨L,n⟩ hI N hN
  have hlt:=hI.lt
  have hlen:=hI.len
  have he:=hI.e
  simp only at hlt hlen he
  have tk:yad L.length (yac by1 L)=yac by1 L:=yab (by rw [yag];exact yaa _)
  simp only [c209l0]
  simp -implicitDefEqProofs only [rX,↓rY,aA,cells?,↓reduceIte,Nat.reduceEqDiff,Nat.reduceAdd,reduceCtorEq,aD,bY,aP,aZ,kill,St.kill,isD,Nat.reduceLT,Nat.reduceLeDiff,yaf]
  cases h1:decide ((n:Int)≥128) with
  | true =>
   have h1':=of_decide_eq_true h1
   simp -implicitDefEqProofs only [↓rY,Ui,Tk,tk,Td hlt]
   refine ⟨by omega,⟨by simp only [lo];omega,by simp only [Fx.hi];have:=(UInt8.ofNat (n%128+128)).toNat_lt;omega⟩,by omega,by omega,hN _ (L++[UInt8.ofNat (n%128+128)],n/128) (hI.next (uF hx) (by omega)) (by simp only;omega) ?_⟩
   exact ⟨by simp -implicitDefEqProofs only [rX,↓reduceIte,Nat.reduceEqDiff,leE],⟨by rw [yam];exact aN _,trivial⟩,trivial,by simp -implicitDefEqProofs only [rX,aB,wfE,wfV],by simp -implicitDefEqProofs only [wfB]⟩
  | false =>
   have h1':=of_decide_eq_false h1
   have hv:nB x=L++[UInt8.ofNat n]:=by unfold nB;rw [he,Cd (by omega)]
   simp -implicitDefEqProofs only [↓rY,uL (show n<128 by omega),tk]
   refine ⟨by omega,?_⟩
   simp -implicitDefEqProofs only [rX,↓reduceIte,aT,aY,leH,leB,aC,aB,wfB,wfV,Nat.reduceLeDiff,bP,hv,yam]
   rfl
set_option maxRecDepth 20000
theorem Uz {t:Bs} (h:t.length≤140737488355000):(tB t).length≤t.length+10:=by
 have:=Fm (x:=(t.length:Int)) (by omega)
 simp only [tB,yae];omega
set_option maxHeartbeats 1000000 in
theorem aaI (t:Bs) (ht:t.length≤140737488355000):Ok 130 [sv t] (IsA (.sl 1 0 (tB t).length) [.dead,.arr 1 ((tB t).map by1)]):=by
 refine bO lw130 (by simp) ?_
 unfold c130
 simp -implicitDefEqProofs only [rX,↓rY,aA,↓reduceIte,reduceCtorEq,cxN,aU,aH]
 have hn:-9223372036854775808≤((t.length:Nat):Int)∧((t.length:Nat):Int)≤9223372036854775807:=by omega
 have hl:=Fm hn
 have tk:yad (nB t.length).length (yac by1 (nB t.length))=yac by1 (nB t.length):=yab (by rw [yag];exact yaa _)
 refine dV _ _ (.sl 1 0 (nB t.length).length) _ [.arr 1 ((nB t.length).map by1)] (Zv (t.length:Int) hn) (by simp [aG,bA,aS,cK,wkL,wk,wkR,aU]) (by simp [ren]) (by simp [bV]) trivial ?_
 simp -implicitDefEqProofs only [rX,↓rY,↓reduceIte,Nat.reduceEqDiff,Nat.reduceAdd,reduceCtorEq,aT,aY,leH,leB,aC,aB,wfB,wfV,aP,aZ,kill,St.kill,Nat.reduceLeDiff,yaf,Qw,bP,tk,tB,yam]
 omega
set_option maxHeartbeats 1000000 in
theorem Zr (t:Bs) (ht:t.length≤140737488355000):Ok 180 [sv t] (IsA (.sl 1 0 (tB t).length) [.dead,.arr 1 ((tB t).map by1)]):=by
 refine bO lw180 (by simp) ?_
 unfold c180
 simp -implicitDefEqProofs only [rX,↓rY,aA,↓reduceIte,reduceCtorEq,cxN,aU,aH]
 have hn:-9223372036854775808≤((t.length:Nat):Int)∧((t.length:Nat):Int)≤9223372036854775807:=by omega
 have hl:=Fm hn
 have tk:yad (nB t.length).length (yac by1 (nB t.length))=yac by1 (nB t.length):=yab (by rw [yag];exact yaa _)
 refine dV _ _ (.sl 1 0 (nB t.length).length) _ [.arr 1 ((nB t.length).map by1)] (Zl (t.length:Int) hn) (by simp [aG,bA,aS,cK,wkL,wk,wkR,aU]) (by simp [ren]) (by simp [bV]) trivial ?_
 simp -implicitDefEqProofs only [rX,↓rY,↓reduceIte,Nat.reduceEqDiff,Nat.reduceAdd,reduceCtorEq,aT,aY,leH,leB,aC,aB,wfB,wfV,aP,aZ,kill,St.kill,Nat.reduceLeDiff,yaf,Qw,bP,tk,tB,yam]
 omega
def i1 (x:Int):List V:=[.i x]
abbrev bI (l:List Int):V:=.bro 1 (l.map i1)
set_option maxRecDepth 20000
def sqL:LCode→LCode
 | .seq a _=>a
 | x=>x
def sqR:LCode→LCode
 | .seq _ b=>b
 | x=>x
def s1 (t:Bs):List V:=[sv t]
theorem Yh {t:Bs}:(s1 t)[0]?=some (sv t):=rfl
abbrev bS (l:List Bs):V:=.bro 1 (l.map s1)
def inK (k:Int) (l:List Bs) (n:Nat):Bs:=UInt8.ofNat (k%256).toNat::((l.take n).map tB).flatten
theorem Dp {k:Int} {l:List Bs} {n:Nat} (h:n<l.length):inK k l (n+1)=inK k l n++tB l[n]:=by
 unfold inK
 rw [←ycj h,yam,ybT,yaQ]
 simp
theorem Au {k:Int} {l:List Bs}:inK k l l.length=inB k l:=by simp [inK,inB]
theorem Uc {k:Int} {l:List Bs}:inK k l 0=[UInt8.ofNat (k%256).toNat]:=by simp [inK]
theorem Oa {k:Int} {l:List Bs}:∀ (d n:Nat),n+d=l.length→(inK k l n).length≤(inB k l).length
 | 0,n,h=>by rw [←Au,←h];exact yaa _
 | d+1,n,h=>by
  refine ybU ?_ (Oa d (n+1) (by omega))
  rw [Dp (by omega),yae];omega
theorem Dq {k:Int} {l:List Bs} {n:Nat} (h:n<l.length):(inK k l n).length+(tB l[n]).length≤(inB k l).length∧l[n].length≤(inB k l).length:=by
 have:=Oa (k:=k) (l:=l) (l.length-(n+1)) (n+1) (by omega)
 rw [Dp h,yae] at this
 refine ⟨this,ybU ?_ (ybU (Nat.le_add_left _ _) this)⟩
 simp [tB]
attribute [irreducible] inK
theorem a8 {k:Int} {l:List Bs}:(cD k l).length=16:=by unfold cD;rw [yaX,hJ];rfl
def c70r:LCode:=sqR (sqR c84)
theorem c70_eq:c84=.seq (sqL c84) (.seq (sqL (sqR c84)) c70r):=rfl
theorem Uf {k:Int}:IntKind.u8.wrap k=((UInt8.ofNat (k%256).toNat).toNat:Int):=by rw [Bz,UInt8.toNat_ofNat'];omega
set_option maxHeartbeats 2000000 in
theorem abZ (k:Int) (l:List Bs) (hB:(inB k l).length≤1000000000000) (S:Stm) (hS:Rp S (inK k l 0)) (els:List (List V)) (e:Env) (b:Nat) (h1:get e 1=bS l) (h4:get e 4=.ptr 0 0 0) (h5:get e 5=.ptr 2 0 0) :
  aw (cxN Tryz.prog []) c70r (eZ [] 0 [fJ.cell 4 (some 16)] (Is (.agg (us (cD k l))))) (fun _ _=>False) (eZ [] 0 [fJ.cell 4 (some 16)] (Is (.agg (us (cD k l))))) ⟨e,[.var (us z16),.arr 1 els,.var S.enc],b⟩:=by
 unfold c70r
 simp -implicitDefEqProofs only [rX,↓rY,c84,sqR,aA,↓reduceIte,Nat.reduceAdd,cxN,h1]
 intro hml
 simp only [maxLen] at hml
 refine dC (fun g:Nat × Stm=>(⟨[(17,.i g.1),(16,.i l.length),(15,bS l),(5,.ptr 2 0 0),(4,.ptr 0 0 0)],[.var (us z16),.dead,.var (sC g.2.st g.2.blk g.2.n)],3⟩:St)) (fun g=>g.1≤l.length∧Rp g.2 (inK k l g.1)) (fun g=>l.length-g.1) (0,S) ⟨yai _,hS⟩ ?_ ?_
 ·exact ⟨by simp -implicitDefEqProofs only [rX,↓reduceIte,Nat.reduceEqDiff,leE,h4,h5];rfl,⟨aN _,trivial,aN _,trivial⟩,trivial,by simp -implicitDefEqProofs only [rX,aB,wfE,wfV],by simp -implicitDefEqProofs only [rX,wfB,iR,b6]⟩
 rintro ⟨n,S⟩ ⟨hn,hS⟩ N hN
 simp only at hn hS
 have hl:=hS.len
 simp only [c84l0]
 simp -implicitDefEqProofs only [rX,↓rY,rdK,↓reduceIte,Nat.reduceEqDiff,Nat.reduceAdd,yay,yah]
 cases h1:decide ((n:Int)<(l.length:Int)) with
 | true =>
  have h1':=of_decide_eq_true h1
  have hn':n<l.length:=by omega
  simp -implicitDefEqProofs only [rX,↓rY,yaq hn',Yh,jN hl,eL hl]
  have hp:=Dq (k:=k) hn'
  refine ⟨by omega,hn',?_⟩
  refine dV _ _ (.sl 4 0 (tB l[n]).length) _ [.dead,.arr 1 ((tB l[n]).map by1)] (aaI l[n] (by omega)) (by simp [aG,bA,aS,cK,wkL,wk,wkR,aU]) (by simp [ren]) (by simp [bV]) trivial ?_
  have tk:yad (tB l[n]).length (yac by1 (tB l[n]))=yac by1 (tB l[n]):=yab (by rw [yag];exact yaa _)
  simp -implicitDefEqProofs only [rX,↓rY,↓reduceIte,Nat.reduceEqDiff,tk,lI,Hp]
  refine ⟨.inr trivial,?_⟩
  refine xF _ _ _ (Mz S _ (tB l[n]) hS (by omega)) ⟨⟨(dG _ hT).1,trivial,trivial⟩,(dG _ hT).2,rfl,trivial⟩ (fun g=>by simp only [ren,Stm.enc,tX]) trivial ?_
  intro S' hS'
  have hl':=hS'.len
  simp -implicitDefEqProofs only [rX,↓rY,aA,cells?,splice,↓reduceIte,Nat.reduceEqDiff,Nat.reduceAdd,Stm.enc,jN hl',eL hl',Rc,eL hl,uT hl]
  rw [←Dp hn'] at hS'
  refine ⟨⟨by simp only [lo];omega,by simp only [Fx.hi];omega⟩,hN _ (n+1,S') ⟨by simp only;omega,hS'⟩ (by simp only;omega) ?_⟩
  exact ⟨by simp -implicitDefEqProofs only [rX,↓reduceIte,Nat.reduceEqDiff,leE];rfl,⟨aN _,trivial,aN _,trivial⟩,trivial,by simp -implicitDefEqProofs only [rX,aB,wfE,wfV],by simp -implicitDefEqProofs only [rX,wfB,iR,b6]⟩
 | false =>
  have h1':=of_decide_eq_false h1
  have:n=l.length:=by omega
  subst this
  rw [Au] at hS
  simp -implicitDefEqProofs only [rX,↓rY,jN hl,eL hl]
  refine aE (aaH S _ hS (by omega)) ⟨⟨(dG _ hT).1,trivial⟩,(dG _ hT).2,trivial⟩ (by simp [ren,a6]) trivial ?_
  have tks:(us (sha (inB k l))).take 32=us (sha (inB k l)):=yab (by rw [cJ,hJ];exact yaa _)
  have dz:(us z32).drop 32=[]:=yas (by rw [cJ,i9];exact yaa _)
  simp -implicitDefEqProofs only [rX,↓rY,aA,cells?,splice,↓reduceIte,Nat.reduceEqDiff,Nat.reduceAdd,aD,cC,aT,aY,wfV,Nat.reduceLT,Nat.reduceLeDiff,w32,cJ,f7,hJ,i9,dz]
  have h16:yad 16 (yaE (ybh 0) (us (sha (inB k l))))=us (cD k l):=by rw [show ybh 0=0 from rfl,yaW,Qo];rfl
  have l16:=a8 (k:=k) (l:=l)
  have dz6:(us z16).drop 16=[]:=yas (by rw [cJ,bQ];exact yaa _)
  have tk3:(us (cD k l)).take 16=us (cD k l):=yab (by rw [cJ,l16];exact yaa _)
  rw [h16,cJ,l16,dz6,yal,tk3,bQ]
  exact ⟨⟨⟨by omega,by omega⟩,by omega,by omega⟩,by decide,by decide,rfl,f7,by omega,by simp,b6,rfl⟩
set_option maxHeartbeats 4000000 in
theorem Rh (k:Int) (l:List Bs) (hB:(inB k l).length≤1000000000000):Ok 84 [.i k,bS l] (Is (.agg (us (cD k l)))):=by
 refine bO lw84 (by simp) ?_
 have t73:∀ {S:Stm},Rp S (inK k l 0)→(S.enc).length=73∧(S.enc).take 73=S.enc∧S.enc.all isC=true:=fun {S} h=>⟨eL h.len,jN h.len,Rc⟩
 have d73:(yac V.v oE.toList).drop 73=[]:=rfl
 have hd:UInt8.ofNat (k%256).toNat::[]=inK k l 0:=Uc.symm
 have by0:by1 (UInt8.ofNat (k%256).toNat)=[V.v (.int .u8 ((UInt8.ofNat (k%256).toNat).toNat:Int))]:=rfl
 have bo:bytesOf [[V.v (.int .u8 ((UInt8.ofNat (k%256).toNat).toNat:Int))]]=some (inK k l 0):=by rw [←hd,←by0];exact lI [_]
 have i0:(inK k l 0).length=1:=by rw [←hd];rfl
 have o97:Ok 129 [.agg S0.enc,sv (inK k l 0)] (IsQ (fun S'=>Rp S' (inK k l 0)) (fun S'=>.agg S'.enc) (fun _=>[])):=by
  have:=Mz S0 [] (inK k l 0) rp0 (by rw [i0];decide)
  simpa using this
 rw [c70_eq]
 simp -implicitDefEqProofs only [rX,↓rY,c84,sqL,sqR,aA,cells?,↓reduceIte,Nat.reduceEqDiff,Nat.reduceAdd,reduceCtorEq,aD,bY,isD,Nat.reduceLT,cxN,aH,w16,Uf,bo,Hp]
 repeat' first
  | exact abZ k l hB _ (by assumption) _ _ _ rfl rfl rfl
  | refine And.intro ?_ ?_
  | (refine aE aaJ ⟨trivial,trivial⟩ (by simp only [ren,Stm.enc,tX]) trivial ?_
     simp -implicitDefEqProofs only [rX,↓rY,aA,cells?,↓reduceIte,Nat.reduceEqDiff,Nat.reduceAdd,reduceCtorEq,aD,bY,isD,Nat.reduceLT,bo,Hp])
  | (refine xF _ _ _ o97 ⟨⟨(dG _ hT).1,trivial,trivial⟩,(dG _ hT).2,rfl,trivial⟩ (fun g=>by simp only [ren,Stm.enc,tX]) trivial ?_
     intro S hS
     simp -implicitDefEqProofs only [rX,↓rY,aA,cells?,splice,↓reduceIte,Nat.reduceEqDiff,Nat.reduceAdd,aD,Kt,d73,(t73 hS).1,(t73 hS).2.1,(t73 hS).2.2])
set_option maxRecDepth 20000
set_option maxHeartbeats 1000000 in
theorem Zy (k:Int) (l:List Bs) (hB:(inB k l).length≤1000000000000):Ok 154 [.i k,bS l] (IsA (.sl 0 0 (inB k l).length) [.arr 1 ((inB k l).map by1)]):=by
 refine bO lw154 (by simp) ?_
 unfold c154
 have hd:UInt8.ofNat (k%256).toNat::[]=inK k l 0:=Uc.symm
 have by0:by1 (UInt8.ofNat (k%256).toNat)=[V.v (.int .u8 ((UInt8.ofNat (k%256).toNat).toNat:Int))]:=rfl
 have i0:(inK k l 0).length=1:=by rw [←hd];rfl
 simp -implicitDefEqProofs only [rX,↓rY,aA,cells?,↓reduceIte,reduceCtorEq,aD,bY,isD,Nat.reduceLT,cxN,aH,Uf]
 refine dC (fun n:Nat=>(⟨[(6,.i n),(1,bS l),(5,.sl 0 0 (inK k l n).length)],[.arr 1 ((inK k l n).map by1)],0⟩:St)) (fun n=>n≤l.length) (fun n=>l.length-n) 0 (yai _) ?_ ?_
 ·exact ⟨by simp -implicitDefEqProofs only [rX,↓reduceIte,Nat.reduceEqDiff,reduceCtorEq,leE,i0];rfl,⟨by rw [←hd];exact aN _,trivial⟩,trivial,by simp -implicitDefEqProofs only [rX,aB,wfE,wfV],by simp -implicitDefEqProofs only [wfB]⟩
 intro n hn N hN
 have tk:yad (inK k l n).length (yac by1 (inK k l n))=yac by1 (inK k l n):=yab (by rw [yag];exact yaa _)
 simp only [c154l0]
 simp -implicitDefEqProofs only [rX,↓rY,↓reduceIte,Nat.reduceEqDiff,yay,yah]
 intro hml
 simp only [maxLen] at hml
 cases h1:decide ((n:Int)<(l.length:Int)) with
 | true =>
  have h1':=of_decide_eq_true h1
  have hn':n<l.length:=by omega
  have hp:=Dq (k:=k) hn'
  simp -implicitDefEqProofs only [↓rY,yaq hn',Yh]
  refine ⟨by omega,hn',?_⟩
  refine dV _ _ (.sl 3 0 (tB l[n]).length) _ [.dead,.arr 1 ((tB l[n]).map by1)] (Zr l[n] (by omega)) (by simp [aG,bA,aS,cK,wkL,wk,wkR,aU]) (by simp [ren]) (by simp [bV]) trivial ?_
  have tk2:yad (tB l[n]).length (yac by1 (tB l[n]))=yac by1 (tB l[n]):=yab (by rw [yag];exact yaa _)
  simp -implicitDefEqProofs only [rX,↓rY,aA,↓reduceIte,Nat.reduceEqDiff,Nat.reduceAdd,reduceCtorEq,aP,aZ,kill,St.kill,yaf,tk,tk2]
  refine ⟨.inr trivial,by omega,⟨by simp only [lo];omega,by simp only [Fx.hi];omega⟩,hN _ (n+1) (by omega) (by omega) ?_⟩
  exact ⟨by simp -implicitDefEqProofs only [rX,↓reduceIte,Nat.reduceEqDiff,leE,Dp hn'];rfl,⟨by rw [Dp hn',yam];exact aN _,trivial⟩,trivial,by simp -implicitDefEqProofs only [rX,aB,wfE,wfV],by simp -implicitDefEqProofs only [wfB]⟩
 | false =>
  have h1':=of_decide_eq_false h1
  have:n=l.length:=by omega
  subst this
  simp -implicitDefEqProofs only [rX,↓rY,↓reduceIte,aT,aY,leH,leB,aC,aB,wfB,wfV,Nat.reduceLeDiff,bP,Au]
set_option maxHeartbeats 1000000 in
theorem aaQ (k:Int) (l:List Bs) (hB:(inB k l).length≤1000000000000):Ok 118 [.i k,bS l] (Is (.agg (us (cD k l)))):=by
 refine bO lw118 (by simp) ?_
 unfold c118
 simp -implicitDefEqProofs only [rX,↓rY,aA,cells?,↓reduceIte,Nat.reduceEqDiff,reduceCtorEq,aD,cxN,aH,w16]
 refine dV _ _ (.sl 1 0 (inB k l).length) _ [.arr 1 ((inB k l).map by1)] (Zy k l hB) (by simp [aG,bA,aS,cK,wkL,wk,wkR,wkB]) (by simp [ren]) (by simp [bV]) trivial ?_
 simp -implicitDefEqProofs only [rX,↓reduceIte]
 refine aE (Zz (inB k l) (by omega)) ⟨⟨by show _≤List.length _;rw [yag];exact Nat.le_of_eq (yaA _),trivial⟩,⟨rfl,yab (by simp)⟩,trivial⟩ (by simp [ren,a6]) trivial ?_
 have l16:=a8 (k:=k) (l:=l)
 have hh:yad 16 (sha (inB k l))=cD k l:=rfl
 have dz6:(us z16).drop 16=[]:=yas (by rw [cJ,bQ];exact yaa _)
 have tk3:(us (cD k l)).take 16=us (cD k l):=yab (by rw [cJ,l16];exact yaa _)
 simp -implicitDefEqProofs only [rX,↓rY,cells?,splice,↓reduceIte,Nat.reduceEqDiff,aT,aY,wfV,cJ,f7,bQ,hh,l16,tk3,dz6,b6]
end Go.Fx.H
namespace Go.Fx.H
open Go Go.Fx
def lf (t:Bs):Bs:=cD 30 [t]
def nd (a b:Bs):Bs:=cD 31 [a,b]
def em:Bs:=cD 32 []
def lV:Bs:=yak 16 0
def spl (n:Nat):Nat:=2 ^ yaK (n-1)
theorem fR {n:Nat} (h:2≤n):(1≤spl n∧spl n<n)∧n≤2*spl n:=by
 unfold spl
 have h1:n-1≠0:=by omega
 have a:=Nat.log2_self_le h1
 have b:=Nat.lt_log2_self (n:=n-1)
 have c:1≤2 ^ (n-1).log2:=Nat.one_le_two_pow
 rw [Nat.pow_succ] at b
 omega
def root (l:List Bs):Bs :=
 if h:2≤l.length then nd (root (l.take (spl l.length))) (root (l.drop (spl l.length))) else l.headD em
termination_by l.length
decreasing_by
 ·have:=fR h;simp;omega
 ·have:=fR h;simp;omega
theorem pR {l:List Bs} (h:2≤l.length):root l=nd (root (l.take (spl l.length))) (root (l.drop (spl l.length))):=by rw [root,dif_pos h]
theorem pS {l:List Bs} (h:¬2≤l.length):root l=l.headD em:=by rw [root,dif_neg h]
def fB (l:List Bs) (i:Nat):List Bs :=
 if h:2≤l.length then
  (if i<spl l.length then fB (l.take (spl l.length)) i++[root (l.drop (spl l.length))] else fB (l.drop (spl l.length)) (i-spl l.length)++[root (l.take (spl l.length))])
 else []
termination_by l.length
decreasing_by
 ·have:=fR h;simp;omega
 ·have:=fR h;simp;omega
theorem Dl {l:List Bs} {i:Nat} (h:¬2≤l.length):fB l i=[]:=by rw [fB,dif_neg h]
theorem It {l:List Bs} {i:Nat} (h:2≤l.length) (hi:i<spl l.length):fB l i=fB (l.take (spl l.length)) i++[root (l.drop (spl l.length))]:=by rw [fB,dif_pos h,if_pos hi]
theorem Iv {l:List Bs} {i:Nat} (h:2≤l.length) (hi:¬i<spl l.length):fB l i=fB (l.drop (spl l.length)) (i-spl l.length)++[root (l.take (spl l.length))]:=by rw [fB,dif_pos h,if_neg hi]
def dep (i n:Nat):Nat :=
 if h:2≤n then (if i<spl n then dep i (spl n) else dep (i-spl n) (n-spl n))+1 else 0
termination_by n
decreasing_by
 ·have:=fR h;omega
 ·have:=fR h;omega
theorem Bf {i n:Nat} (h:¬2≤n):dep i n=0:=by rw [dep,dif_neg h]
theorem Gf {i n:Nat} (h:2≤n) (hi:i<spl n):dep i n=dep i (spl n)+1:=by rw [dep,dif_pos h,if_pos hi]
theorem Gg {i n:Nat} (h:2≤n) (hi:¬i<spl n):dep i n=dep (i-spl n) (n-spl n)+1:=by rw [dep,dif_pos h,if_neg hi]
def cl (x:Bs) (i n:Nat) (p:List Bs):Bs :=
 if h:2≤n then (if i<spl n then nd (cl x i (spl n) p.dropLast) (p.getLastD lV) else nd (p.getLastD lV) (cl x (i-spl n) (n-spl n) p.dropLast)) else x
termination_by n
decreasing_by
 ·have:=fR h;omega
 ·have:=fR h;omega
theorem Bk {x:Bs} {i n:Nat} {p:List Bs} (h:¬2≤n):cl x i n p=x:=by rw [cl,dif_neg h]
theorem Pf {x:Bs} {i n:Nat} {p:List Bs} (h:2≤n) (hi:i<spl n):cl x i n p=nd (cl x i (spl n) p.dropLast) (p.getLastD lV):=by rw [cl,dif_pos h,if_pos hi]
theorem Jd {x:Bs} {i n:Nat} {p:List Bs} (h:2≤n) (hi:¬i<spl n):cl x i n p=nd (p.getLastD lV) (cl x (i-spl n) (n-spl n) p.dropLast):=by rw [cl,dif_pos h,if_neg hi]
def nI (x:Bs) (i n:Nat) (p:List Bs) (r:Bs):Bool:=decide (p.length=dep i n)&&(cl x i n p==r)
theorem Ir:∀ (n:Nat) (l:List Bs) (i:Nat),l.length=n→i<l.length→(fB l i).length=dep i l.length∧cl (l.getD i []) i l.length (fB l i)=root l:=by
 intro n
 induction n using Nat.strongRecOn with
 | ind n ih =>
  intro l i hn h
  by_cases h2:2≤l.length
  ·have hk:=fR h2
   by_cases hi:i<spl l.length
   ·have hl:(l.take (spl l.length)).length=spl l.length:=by simp;omega
    have:=ih (spl l.length) (by omega) (l.take (spl l.length)) i hl (by omega)
    rw [hl] at this
    rw [It h2 hi,Gf h2 hi,Pf h2 hi,pR h2]
    simp only [yae,yck,ybP,ycl]
    have he:(l.take (spl l.length)).getD i []=l.getD i []:=by simp only [List.getD,List.getElem?_take_of_lt hi]
    rw [he] at this
    exact ⟨by omega,by rw [this.2]⟩
   ·have hl:(l.drop (spl l.length)).length=l.length-spl l.length:=by simp
    have:=ih (l.length-spl l.length) (by omega) (l.drop (spl l.length)) (i-spl l.length) hl (by omega)
    rw [hl] at this
    rw [Iv h2 hi,Gg h2 hi,Jd h2 hi,pR h2]
    simp only [yae,yck,ybP,ycl]
    have he:(l.drop (spl l.length)).getD (i-spl l.length) []=l.getD i []:=by
     simp only [List.getD,List.getElem?_drop];congr 2;omega
    rw [he] at this
    exact ⟨by omega,by rw [this.2]⟩
  ·rw [Dl h2,Bf h2,Bk h2,pS h2]
   match l,h,h2 with
   | [x],h,_=>simp at h;subst h;exact ⟨rfl,rfl⟩
   | [],h,_=>simp at h
   | _::_::_,_,h2=>simp at h2
theorem Dm {l:List Bs} {i:Nat} (h:i<l.length):nI (l.getD i []) i l.length (fB l i) (root l)=true:=by
 have:=Ir l.length l i rfl h
 unfold nI
 rw [this.1,this.2];simp
end Go.Fx.H
namespace Go.Fx.H
open Go Go.Fx Go.Proofs Go.Fx.R
set_option maxRecDepth 20000
structure Man where
 size:Int
 block:Int
 rt:Bs
def Man.enc (m:Man):List V:=.i m.size::.i m.block::us m.rt
def oH (s b:Int):Int:=(s+b-1).tdiv b
theorem Bi {s b:Int} (hs:0≤s) (hb:1≤b):oH s b=(s+b-1)/b:=by
 unfold oH
 exact Int.tdiv_eq_ediv_of_nonneg (by omega)
theorem Pb {s b:Int} (hs:0≤s) (hb:1≤b):0≤oH s b∧oH s b≤s:=by
 rw [Bi hs hb]
 refine ⟨Int.ediv_nonneg (by omega) (by omega),?_⟩
 have:(s+b-1)/b<s+1:=Int.ediv_lt_of_lt_mul (by omega) (by
  have h:s*1≤s*b:=ycm hb hs
  have e:(s+1)*b=s*b+b:=by rw [Int.add_mul,Int.one_mul]
  rw [Int.mul_one] at h
  omega)
 omega
theorem Xh {s b:Int} (hs:0≤s∧s≤1152921504606846976) (hb:1≤b∧b≤1152921504606846976) {K:V→Prop} (h:K (.i (oH s b))) :
  (lo IntKind.i64≤s+b∧s+b≤Fx.hi IntKind.i64)∧(lo IntKind.i64≤s+b-1∧s+b-1≤Fx.hi IntKind.i64)∧b≠0∧(lo IntKind.i64≤(s+b-1).tdiv b∧(s+b-1).tdiv b≤Fx.hi IntKind.i64)∧K (.i ((s+b-1).tdiv b)):=by
 have h1:=Pb hs.1 hb.1
 have e:(s+b-1).tdiv b=oH s b:=rfl
 rw [e]
 exact ⟨by simp only [lo,Fx.hi];omega,by simp only [lo,Fx.hi];omega,by omega,by simp only [lo,Fx.hi];omega,h⟩
theorem Si {s b:Int} (hs:0≤s∧s≤1152921504606846976) (hb:1≤b∧b≤1152921504606846976) :
  (lo IntKind.i64≤s+b∧s+b≤Fx.hi IntKind.i64)∧(lo IntKind.i64≤s+b-1∧s+b-1≤Fx.hi IntKind.i64)∧b≠0∧(lo IntKind.i64≤(s+b-1).tdiv b∧(s+b-1).tdiv b≤Fx.hi IntKind.i64)∧(s+b-1).tdiv b=oH s b:=Xh hs hb (K:=fun x=>match x with|.v (.int _ n)=>n=oH s b|_=>False) rfl
theorem Zd (s b:Int) (hs:0≤s∧s≤1152921504606846976) (hb:1≤b∧b≤1152921504606846976):Ok 77 [.i s,.i b] (Is (.i (oH s b))):=by
 refine bO lw77 (by simp) ?_
 unfold c77
 simp -implicitDefEqProofs only [rX,↓rY,aA,↓reduceIte,Nat.reduceEqDiff,reduceCtorEq,aT,aY,wfV,cxN,aH]
 exact Si hs hb
def Man.okP (m:Man):Prop:=(0≤m.size∧m.size≤65536)∧(1≤m.block∧m.block≤4096)∧oH m.size m.block≤4096
instance (m:Man):Decidable m.okP:=by unfold Man.okP;infer_instance
def Man.ok (m:Man):Bool:=decide m.okP
theorem nU {l:Bs}:∀ x∈us l,∃ u,x=V.v u:=by
 unfold us
 intro x hx
 obtain ⟨y,_,rfl⟩:=ybs.1 hx
 exact ⟨_,rfl⟩
theorem p6 {m:Man}:∀ x∈m.enc,∃ u,x=V.v u:=by
 intro x hx
 unfold Man.enc at hx
 rcases yax.1 hx with rfl|hx
 ·exact ⟨_,rfl⟩
 ·rcases yax.1 hx with rfl|hx
  ·exact ⟨_,rfl⟩
  ·exact nU x hx
theorem dR {m:Man} {h:List Blk} {g:Nat→Option Nat}:aG h g m.enc∧wkL m.enc (aS h g m.enc):=dG _ p6
theorem Db {m:Man} (h:m.rt.length=16):yad 18 (V.i m.size::V.i m.block::us m.rt)=m.enc:=yab (by simp [cJ,h])
theorem Tq {m:Man} (h:m.okP):0≤oH m.size m.block∧oH m.size m.block≤m.size:=Pb h.1.1 h.2.1.1
def Man.n (m:Man):Int:=oH m.size m.block
theorem Rk (m:Man) (h:m.okP):Ok 35 [.agg m.enc] (Is (.i m.n)):=by
 refine bO lw35 (by simp) ?_
 unfold c35 Man.enc
 simp -implicitDefEqProofs only [rX,↓rY,aA,cells?,↓reduceIte,Nat.reduceEqDiff,aD,cxN,aH]
 obtain ⟨h1,h2,h3⟩:=h
 refine aE (Zd m.size m.block ⟨h1.1,by omega⟩ ⟨h2.1,by omega⟩) ⟨⟨trivial,trivial,trivial⟩,rfl,rfl,trivial⟩ rfl trivial ?_
 simp -implicitDefEqProofs only [rX,↓reduceIte,aT,aY,wfV]
 rfl
def Man.span (m:Man) (k:Int):Sp:=if k<0∨m.n≤k then (0,0) else (k*m.block,min m.size ((k+1)*m.block))
theorem t6 {m:Man} {h:List Blk}:aG h (fun _=>none) [V.agg m.enc]∧wkL [V.agg m.enc] (aS h (fun _=>none) [V.agg m.enc]):=⟨⟨dR.1,trivial⟩,dR.2,trivial⟩
theorem Tx {k n b s:Int} (hk:0≤k∧k≤70000) (hb:1≤b∧b≤4096):0≤k*b∧k*b≤286720000:=by
 refine ⟨Int.mul_nonneg hk.1 (by omega),?_⟩
 exact Int.le_trans (ycm hb.2 hk.1) (by omega)
theorem Zi (m:Man) (k:Int) (h:m.okP) (hr:m.rt.length=16):Ok 37 [.agg m.enc,.i k] (Is (.agg (enS (m.span k)))):=by
 refine bO lw37 (by simp) ?_
 unfold c37
 have hn:=Tq h
 obtain ⟨p1,p2,p3⟩:=id h
 simp -implicitDefEqProofs only [rX,↓rY,aA,cells?,splice,↓reduceIte,Nat.reduceEqDiff,Nat.reduceAdd,reduceCtorEq,aD,bG,aT,aY,wfV,wfL,isC,Nat.reduceLeDiff,cxN,aH,show m.enc=V.i m.size::V.i m.block::us m.rt from rfl]
 simp only [br,decide_eq_true_eq,decide_eq_false_iff_not,Db hr]
 refine ⟨fun h1=>?_,fun h1=>⟨by rw [cJ,hr];omega,?_⟩⟩
 ·unfold Man.span;rw [if_pos (.inl h1)];rfl
 ·refine aE (Rk m h) t6 rfl trivial ?_
  simp -implicitDefEqProofs only [rX,↓rY,aA,cells?,splice,↓reduceIte,Nat.reduceEqDiff,Nat.reduceAdd,reduceCtorEq,bG,aT,aY,wfV,wfL,isC,Nat.reduceLeDiff]
  simp only [br,decide_eq_true_eq,decide_eq_false_iff_not]
  refine ⟨fun h2=>?_,fun h2=>?_⟩
  ·unfold Man.span;rw [if_pos (.inr h2)];rfl
  ·have hk:0≤k∧k≤70000:=by unfold Man.n at h2;omega
   have m1:=Tx (n:=0) (s:=0) hk p2
   have m2:=Tx (k:=k+1) (n:=0) (s:=0) (b:=m.block) ⟨by omega,by unfold Man.n at h2;omega⟩ p2
   refine ⟨by simp only [lo,Fx.hi];omega,by simp only [lo,Fx.hi];omega,by simp only [lo,Fx.hi];omega,?_⟩
   unfold Man.span;rw [if_neg (by omega)];rfl
end Go.Fx.H
namespace Go.Fx.H
open Go Go.Fx Go.Proofs Go.Fx.R
set_option maxRecDepth 20000
theorem fP {l:Bs} (h:l.length=16):(us l).length=16∧(us l).take 16=us l∧(us l).drop 16=[]:=⟨by rw [cJ,h],yab (by rw [cJ,h];exact yaa _),yas (by rw [cJ,h];exact yaa _)⟩
theorem Lt {t:Bs} (h:t.length≤100000000000):(tB t).length≤t.length+10:=Uz (by omega)
theorem in1 {k:Int} {t:Bs} (h:t.length≤100000000000):(inB k [t]).length≤1000000000000:=by
 have:=Lt h
 simp [inB];omega
theorem in2 {k:Int} {a b:Bs} (ha:a.length≤100000000000) (hb:b.length≤100000000000):(inB k [a,b]).length≤1000000000000:=by
 have:=Lt ha
 have:=Lt hb
 simp [inB];omega
theorem in0 {k:Int}:(inB k []).length≤1000000000000:=by simp [inB]
theorem o8 {t:Bs}:(lf t).length=16:=a8
theorem mF {a b:Bs}:(nd a b).length=16:=a8
theorem Ge:em.length=16:=a8
theorem Wf (t:Bs) (h:t.length≤100000000000):Ok 43 [sv t] (Is (.agg (us (lf t)))):=by
 refine bO lw43 (by simp) ?_
 unfold c43
 simp -implicitDefEqProofs only [rX,↓rY,aA,cells?,↓reduceIte,reduceCtorEq,aD,bY,isD,Nat.reduceLT,cxN,d6,aH,w16]
 refine aE (Rh 30 [t] (in1 h)) ⟨⟨trivial,yaa 1,trivial⟩,rfl,⟨rfl,rfl⟩,trivial⟩ (by simp [ren,a6]) trivial ?_
 obtain ⟨u1,u2,u3⟩:=fP (o8 (t:=t))
 obtain ⟨z1,z2,z3⟩:=fP bQ
 have hh:cD 30 [t]=lf t:=rfl
 simp -implicitDefEqProofs only [rX,↓rY,cells?,splice,↓reduceIte,Nat.reduceEqDiff,aT,aY,wfV,hh,u1,u2,z1,z3,f7,b6]
theorem aaR:Ok 108 [] (Is (.agg (us em))):=by
 refine bO lw108 (by simp) ?_
 unfold c108
 simp -implicitDefEqProofs only [rX,↓rY,aA,cells?,aD,cxN,aH,w16]
 refine aE (Rh 32 [] in0) ⟨⟨trivial,trivial,trivial⟩,rfl,rfl,trivial⟩ (by simp [ren,a6]) trivial ?_
 obtain ⟨u1,u2,u3⟩:=fP Ge
 obtain ⟨z1,z2,z3⟩:=fP bQ
 have hh:cD 32 []=em:=rfl
 simp -implicitDefEqProofs only [rX,↓rY,cells?,splice,↓reduceIte,reduceCtorEq,aT,aY,wfV,hh,u1,u2,z1,z3,f7,b6]
theorem Qn {l:Bs}:(us l).map (fun c=>[c])=l.map by1:=by simp [us,by1]
theorem Na (a b:Bs) (ha:a.length=16) (hb:b.length=16):Ok 110 [.agg (us a),.agg (us b)] (Is (.agg (us (nd a b)))):=by
 refine bO lw110 (by simp) ?_
 unfold c110
 obtain ⟨a1,a2,a3⟩:=fP ha
 obtain ⟨b1,b2,b3⟩:=fP hb
 obtain ⟨z1,z2,z3⟩:=fP bQ
 have dz:ybh 0=0:=rfl
 simp -implicitDefEqProofs only [rX,↓rY,qo,aA,cells?,↓reduceIte,Nat.reduceEqDiff,Nat.reduceAdd,reduceCtorEq,aD,cC,bY,isD,Nat.reduceLT,↓jd,yah,cxN,d6,aH,w16,a1,b1,a2,b2,dz,Nat.sub_zero,Qn,lI,Qp,or_true]
 refine ⟨by decide,by decide,?_,?_⟩
 all_goals
  refine aE (Rh 31 [a,b] (in2 (by omega) (by omega))) ⟨⟨trivial,yaa 2,trivial⟩,rfl,⟨rfl,rfl⟩,trivial⟩ (by simp [ren,a6]) trivial ?_
  obtain ⟨u1,u2,u3⟩:=fP (mF (a:=a) (b:=b))
  have hh:cD 31 [a,b]=nd a b:=rfl
  simp -implicitDefEqProofs only [rX,↓rY,cells?,splice,↓reduceIte,Nat.reduceEqDiff,aT,aY,wfV,hh,u1,u2,z1,z3,f7,b6]
end Go.Fx.H
namespace Go.Proofs
open Go.Shelf
def Tryz.lays125_ren:Go.Shelf.Ren:=⟨fun|125=>145|128=>174|129=>175|n=>n,fun|46=>213|3=>3|51=>199|53=>201|4=>4|5=>5|9=>9|n=>n,fun|n=>n⟩
theorem Tryz.lays125:Go.Proofs.Lays.n125 Tryz.prog Tryz.lays125_ren:={
 mixed:=by kernel_rfl
 f125:=Tryz.func145.trans (congrArg some (by kernel_rfl))
 f128:=Tryz.func174.trans (congrArg some (by kernel_rfl))
 f129:=Tryz.func175.trans (congrArg some (by kernel_rfl))
 t3:=Tryz.underlying3
 a3:=Tryz.isAgg3
 z3:=Tryz.sizeOf3
 v3:=Tryz.zeroValue3
 t4:=Tryz.underlying4
 a4:=Tryz.isAgg4
 z4:=Tryz.sizeOf4
 v4:=Tryz.zeroValue4
 t5:=Tryz.underlying5
 a5:=Tryz.isAgg5
 z5:=Tryz.sizeOf5
 v5:=Tryz.zeroValue5
 t9:=Tryz.underlying9
 a9:=Tryz.isAgg9
 z9:=Tryz.sizeOf9
 v9:=Tryz.zeroValue9
 t46:=Tryz.underlying213
 a46:=Tryz.isAgg213
 z46:=Tryz.sizeOf213
 v46:=Tryz.zeroValue213
 t51:=Tryz.underlying199
 a51:=Tryz.isAgg199
 z51:=Tryz.sizeOf199
 v51:=Tryz.zeroValue199
 t53:=Tryz.underlying201
 a53:=Tryz.isAgg201
 z53:=Tryz.sizeOf201
 v53:=Tryz.zeroValue201 }
theorem Tryz.bits_Len (x:Int) (w:World) (h0:0≤x) (h1:x≤18446744073709551615) :
  Calls Tryz.prog 145 #[.int .u64 x] w fun e w'=>e=.returned (.int .i64 (Lib.bitLen x.toNat))∧w'=w:=Any.bits_Len Tryz.lays125 x w h0 h1
end Go.Proofs
namespace Go.Fx.H
open Go Go.Fx Go.Proofs Go.Fx.R
set_option maxRecDepth 20000
theorem aeY {f:FuncId} {fn:Func} (h:Tryz.prog.funcs[f]?=some fn) (h1:(fn.name == "runtime.NumGoroutine")=false) (h2:fn.body.isNone=false):dM Tryz.prog f:=⟨fn,h,h1,h2⟩
theorem Ip:∀ (n x:Nat),x≤n→1≤x→x<2 ^ 64→Lib.bitLen x=yaK x+1
 | 0,x,h,h1,_=>by omega
 | n+1,x,h,h1,h2=>by
  rw [Lib.bitLen_half x (by omega) h2]
  by_cases hx:2≤x
  ·rw [Ip n (x/2) (by omega) (by omega) (by omega),Nat.log2_def x,if_pos hx];omega
  ·have:x=1:=by omega
   subst this
   decide
theorem aaB (n:Nat) (h:1≤n∧n<2 ^ 64):Ok 145 [.v (.int .u64 n)] (Is (.i (yaK n+1:Nat))):=by
 refine ⟨aeY Tryz.func145 (by kernel_rfl) (by kernel_rfl),?_⟩
 intro ρ X w vals hr ha
 match vals,ha with
 | [v0],⟨h0,_⟩ =>
  have h0':v0=.int .u64 n:=h0
  subst h0'
  refine (Tryz.bits_Len n w (by omega) (by omega)).mono ?_
  rintro e w' ⟨rfl,rfl⟩
  have:=Ip n n (yaa _) h.1 h.2
  refine ⟨_,_,[],ρ,rfl,⟨⟨rfl,rfl⟩,yaa _⟩,Fr.refl _ _,hr,?_,fun k hk=>absurd hk (ybV _)⟩
  show _=Value.int .i64 _
  rw [yah,this]
theorem Nb (n:Nat) (h2:2≤n) (h:n≤1152921504606846976):Ok 109 [.i n] (Is (.i (spl n))):=by
 refine bO lw109 (by simp) ?_
 unfold c109
 simp -implicitDefEqProofs only [rX,↓rY,aA,↓reduceIte,reduceCtorEq,cxN,aH]
 have e:((n:Int)-1)=((n-1:Nat):Int):=by omega
 have e2:IntKind.u64.wrap ((n-1:Nat):Int)=((n-1:Nat):Int):=by rw [wrap64];omega
 rw [e,e2]
 refine ⟨by simp only [lo,Fx.hi];omega,aE (aaB (n-1) ⟨by omega,by omega⟩) ⟨⟨trivial,trivial⟩,rfl,trivial⟩ rfl trivial ?_⟩
 simp -implicitDefEqProofs only [rX,↓rY,aA,↓reduceIte,aT,aY]
 have hs:=fR h2
 have hl:yaK (n-1)<60:=by
  apply Nat.lt_of_not_le
  intro hc
  have h3:=Nat.pow_le_pow_right (n:=2) (by omega) hc
  have h4:=hs.1.2
  unfold spl at h4
  omega
 have e3:(((yaK (n-1)+1:Nat):Int)-1)=((yaK (n-1):Nat):Int):=by omega
 rw [e3]
 refine ⟨by simp only [lo,Fx.hi];omega,by omega,?_⟩
 have e4:min (((yaK (n-1):Nat):Int).toNat) IntKind.i64.bits=yaK (n-1):=by
  rw [yah];exact yba (by show _≤64;omega)
 rw [e4]
 have e5:(1:Int)*2 ^ (yaK (n-1))=((spl n:Nat):Int):=by unfold spl;simp
 rw [e5]
 have e6:IntKind.i64.wrap ((spl n:Nat):Int)=((spl n:Nat):Int):=by
  simp [IntKind.wrap,IntKind.bits,IntKind.signed];omega
 rw [e6]
 exact ⟨trivial,rfl⟩
abbrev bD (l:List Bs):V:=.bro 16 (l.map us)
def D16 (l:List Bs):Prop:=∀ d∈l,d.length=16
theorem D16.take {l:List Bs} (h:D16 l) (k:Nat):D16 (l.take k):=fun d hd=>h d (ybR hd)
theorem D16.drop {l:List Bs} (h:D16 l) (k:Nat):D16 (l.drop k):=fun d hd=>h d (List.mem_of_mem_drop hd)
theorem gT:∀ (n:Nat) (l:List Bs),l.length=n→D16 l→(root l).length=16:=by
 intro n l _ h
 by_cases h2:2≤l.length
 ·rw [pR h2];exact mF
 ·rw [pS h2]
  cases l with
  | nil=>exact Ge
  | cons x r=>exact h x (by simp)
section
variable {h:List Blk} {l:List Bs} {K:V→Prop} {k:Nat}
theorem Ho {z:Nat} {sz:Nat} {els:List (List V)} {a u m:Option Int}:rV h z (.bro sz els) a u m K=(sz=z∧cC els.length a u m∧K (Ph sz u m els.length ((els.drop (a.getD 0).toNat).take ((u.getD els.length).toNat-(a.getD 0).toNat)))):=rfl
theorem Vh (hk:k<l.length) (hK:K (bD (l.take k))):rV h 16 (bD l) none (some (k:Int)) (some (k:Int)) K:=by
 rw [Ho]
 refine ⟨rfl,?_,?_⟩
 ·simp only [cC,yat,Option.getD_none,yag];omega
 ·have hne:¬((k:Int)=((l.map us).length:Int)):=by rw [yag];omega
  simp only [Ph,hne,and_false,if_false,yat,Option.getD_none]
  rw [show ybh 0=0 from rfl,yaW,yah,Nat.sub_zero,←yaO]
  exact hK
theorem adN (hk:k≤l.length) (hK:K (.full 16 ((l.drop k).map us))):rV h 16 (bD l) (some (k:Int)) (some (l.length:Int)) (some (l.length:Int)) K:=by
 rw [Ho]
 refine ⟨rfl,?_,?_⟩
 ·simp only [cC,yat,yag];omega
 ·simp only [Ph,yag,and_self,if_true,yat,yah]
  rw [yab (by simp),←ybc]
  exact hK
end
theorem Mx:∀ (n:Nat) (l:List Bs),l.length=n→D16 l→n≤1000000000000→Ok 59 [bD l] (Is (.agg (us (root l)))):=by
 intro n
 induction n using Nat.strongRecOn with
 | ind n ih =>
  intro l hn hD hle
  refine bO lw59 (by simp) ?_
  unfold c59
  obtain ⟨z1,z2,z3⟩:=fP bQ
  simp -implicitDefEqProofs only [rX,↓rY,aA,cells?,splice,↓reduceIte,Nat.reduceEqDiff,reduceCtorEq,aD,aT,aY,wfV,yay,cxN,aH,w16]
  intro hm
  simp only [br,beq_iff_eq,beq_eq_false_iff_ne]
  refine ⟨fun h0=>?_,fun h0=>⟨fun h1=>?_,fun h1=>?_⟩⟩
  ·have hl0:l=[]:=List.eq_nil_of_length_eq_zero (by omega)
   subst hl0
   refine aE aaR ⟨trivial,trivial⟩ (by simp [ren,a6]) trivial ?_
   obtain ⟨u1,u2,u3⟩:=fP Ge
   have hh:root []=em:=by rw [pS (by simp)];rfl
   simp -implicitDefEqProofs only [rX,↓rY,cells?,splice,↓reduceIte,Nat.reduceEqDiff,aT,aY,wfV,hh,u1,u2,z1,z3,f7,b6]
  ·obtain ⟨x,rfl⟩:∃ x,l=[x]:=List.length_eq_one_iff.1 (by omega)
   obtain ⟨u1,u2,u3⟩:=fP (hD x (by simp))
   have hh:root [x]=x:=by rw [pS (by simp)];rfl
   refine ⟨by simp,by simp,?_⟩
   have hx:([x]:List Bs)[ybh 0]'(by simp)=x:=rfl
   simp only [hx,hh,u1,u2,u3,z1,z2,z3,f7,b6,yal,yaa,true_and,yaz,yaV,and_true]
  ·have h2:2≤l.length:=by omega
   have hs:=fR h2
   refine aE (Nb l.length h2 (by omega)) ⟨⟨trivial,trivial⟩,rfl,trivial⟩ rfl trivial ?_
   simp -implicitDefEqProofs only [rX,↓rY,↓reduceIte,Nat.reduceEqDiff,reduceCtorEq]
   refine Vh hs.1.2 (adN (by omega) ?_)
   have hlt:(l.take (spl l.length)).length=spl l.length:=by simp;omega
   have hld:(l.drop (spl l.length)).length=l.length-spl l.length:=by simp
   refine aE (ih _ (by omega) (l.take (spl l.length)) hlt (hD.take _) (by omega)) ⟨⟨trivial,trivial⟩,⟨rfl,rfl⟩,trivial⟩ (by simp [ren,a6]) trivial ?_
   simp -implicitDefEqProofs only [rX,↓reduceIte,Nat.reduceEqDiff]
   refine aE (ih _ (by omega) (l.drop (spl l.length)) hld (hD.drop _) (by omega)) ⟨⟨trivial,trivial⟩,⟨rfl,rfl⟩,trivial⟩ (by simp [ren,a6]) trivial ?_
   simp -implicitDefEqProofs only [rX,↓reduceIte,Nat.reduceEqDiff]
   have r1:=gT _ (l.take (spl l.length)) rfl (hD.take _)
   have r2:=gT _ (l.drop (spl l.length)) rfl (hD.drop _)
   refine aE (Na _ _ r1 r2) ?_ (by simp [ren,a6]) trivial ?_
   ·have a1:=dG (h:=[Blk.var (us z16)]) (g:=fun _=>none) (us (root (l.take (spl l.length)))) nU
    have a2:=dG (h:=[Blk.var (us z16)]) (g:=fun _=>none) (us (root (l.drop (spl l.length)))) nU
    exact ⟨⟨a1.1,a2.1,trivial⟩,a1.2,a2.2,trivial⟩
   obtain ⟨u1,u2,u3⟩:=fP (mF (a:=root (l.take (spl l.length))) (b:=root (l.drop (spl l.length))))
   rw [←pR h2] at u1 u2 u3 ⊢
   simp -implicitDefEqProofs only [rX,↓rY,cells?,splice,↓reduceIte,Nat.reduceEqDiff,aT,aY,wfV,u1,u2,z1,z3,f7,b6]
end Go.Fx.H
namespace Go.Fx.H
open Go Go.Fx Go.Proofs Go.Fx.R
set_option maxRecDepth 20000
theorem adZ (s:Sp):Ok 85 [.agg (enS s)] (Is (.b (decide (0≤s.1)&&decide (s.1<s.2)&&decide (s.2≤1099511627776)))):=by
 refine bO lw85 (by simp) ?_
 unfold c85
 simp -implicitDefEqProofs only [rX,↓rY,aA,cells?,↓reduceIte,Nat.reduceEqDiff,aD,aT,aY,wfV,cxN,tC,mT,aH]
 cases h1:decide (s.1≥0)<;>cases h2:decide (s.1<s.2)<;>cases h3:decide (s.2≤1099511627776)<;>simp -implicitDefEqProofs only [rX,↓rY]<;>simp_all
theorem Li {t:Int} {l:List Sp} {k:Nat} (h:k<l.length) (u:Int):vdB u (l.drop k)=((decide (0≤l[k].1)&&decide (l[k].1<l[k].2)&&decide (l[k].2≤1099511627776))&&decide (u<l[k].1)&&vdB l[k].2 (l.drop (k+1))):=by
 rw [List.drop_eq_getElem_cons h];rfl
theorem Zg (l:List Sp):Ok 45 [aO l] (Is (.b (vd l))):=by
 refine bO lw45 (by simp) ?_
 unfold c45 aO
 simp -implicitDefEqProofs only [rX,↓rY,aA,↓reduceIte,reduceCtorEq,cxN,aH]
 intro hm
 refine aR (fun g:Nat × Int=>⟨[(8,.i g.1),(7,.i l.length),(6,.ro 2 (l.map enS)),(3,.i g.2)],[],0⟩) (fun g=>g.1≤l.length∧vd l=vdB g.2 (l.drop g.1)) (fun g=>l.length-g.1) (0,-1) ⟨by simp,rfl⟩ ?_ ?_
 ·simp -implicitDefEqProofs only [rX,↓reduceIte,Nat.reduceEqDiff,leE,leH,aC,wfE,wfB,wfV,ybi]
 rintro ⟨k,t⟩ ⟨hk,hv⟩
 simp only at hk hv
 unfold c45l0
 simp -implicitDefEqProofs only [rX,↓rY,aA,cells?,splice,↓reduceIte,Nat.reduceEqDiff,Nat.reduceAdd,aD,aT,aY,wfV,yay,yah,cG,cQ,lE]
 simp only [br,decide_eq_true_eq,decide_eq_false_iff_not]
 refine ⟨fun h=>?_,fun h=>?_⟩
 ·have hk':k<l.length:=by omega
  rw [Li (t:=t) hk'] at hv
  refine ⟨⟨by omega,h⟩,hk',?_⟩
  refine aE (adZ l[k]) ⟨⟨⟨trivial,trivial,trivial⟩,trivial⟩,⟨rfl,rfl,trivial⟩,trivial⟩ rfl trivial ?_
  cases hg:(decide (0≤l[k].1)&&decide (l[k].1<l[k].2)&&decide (l[k].2≤1099511627776)) with
  | false =>
   rw [hg] at hv
   simp -implicitDefEqProofs only [rX,↓rY,aA,↓reduceIte,Nat.reduceEqDiff,aT,aY,wfV]
   simp [hv]
  | true =>
   rw [hg] at hv
   simp -implicitDefEqProofs only [rX,↓rY,aA,↓reduceIte,Nat.reduceEqDiff,aT,aY,leE,leH,aC,wfE,wfB,wfV,tC,mT]
   simp only [br,decide_eq_true_eq,decide_eq_false_iff_not]
   refine ⟨fun h2=>?_,fun h2=>?_⟩
   ·simp [hv];omega
   ·refine ⟨by simp only [lo,hi,maxLen] at *;omega,(k+1,l[k].2),⟨⟨by simp only;omega,?_⟩,by simp only;omega⟩,by simp⟩
    rw [hv]
    simp;omega
 ·rw [hv,yas (by omega)];rfl
end Go.Fx.H
namespace Go.Fx.H
open Go Go.Fx Go.Proofs Go.Fx.R
set_option maxRecDepth 20000
theorem adW (l:List Sp):Ok 88 [aO l] (IsA (.clo 137 [.ptr 0 0 0]) [.var [aO l]]):=by
 refine bO lw88 (by simp) ?_
 unfold c88 aO
 simp -implicitDefEqProofs only [rX,↓rY,aA,cells?,↓reduceIte,Nat.reduceEqDiff,aD,aT,aY,leH,leB,leV,dH,aC,aB,wfB,wfV,wfL,Nat.reduceLeDiff,cxN,aH,bP]
structure E90 (l:List Sp) (k i:Nat) (e:Env):Prop where
 e0:get e 0=.itr k
 e5:get e 5=aO l
 e6:get e 6=.i l.length
 e7:get e 7=.i i
end Go.Fx.H
namespace Go.Fx.H
open Go Go.Fx Go.Proofs Go.Fx.R
set_option maxRecDepth 20000
structure acC {G:Type} (hp:G→List Blk) (L:Nat) (l:List Sp) (k a:Nat) (fx:List Nat):Prop where
 hm:l.length≤maxLen
 len:∀ g,(hp g).length=L
 ha:∀ g tl,(hp g++tl)[a]?=some (.var [aO l])
 kp:∀ g,aC fx (hp g)
 wf:∀ g,wfB (hp g) (hp g)
 lk:∀ g,∃ t e,(hp g)[k]?=some (.rcd t e)
theorem Aq:∀ (h l:List Blk),leH (h++l) h
 | [],_=>by unfold leH;trivial
 | b::h,l=>⟨aN b,Aq h l⟩
section
variable {G:Type} {hp:G→List Blk} {L:Nat} {l:List Sp} {k a:Nat} {fx:List Nat} {Y:Yt} {K:List Blk→Prop} {Inv:Nat→G→Prop}
abbrev Tp {G:Type} (hp:G→List Blk) (l:List Sp) (k:Nat) (g:Nat × G):St:=⟨[(7,.i g.1),(6,.i l.length),(5,aO l),(0,.itr k)],hp g.2,0⟩
theorem abF (H:acC hp L l k a fx)
  (hY:∀ i g (hi:i<l.length),Inv i g→∀ (e:Env) (bb:Nat) (Z:V→St→Prop),E90 l k i e →
   (∀ e' g' tl,E90 l k i e'→Inv (i+1) g'→Z (.b true) ⟨e',hp g'++tl,bb⟩)→Y [.agg (enS l[i])] ⟨e,hp g++[.var (enS l[i])],bb⟩ Z)
  (hK:∀ g,Inv l.length g→K (hp g)) (g:G) (hg:Inv 0 g) :
  I0 Tryz.prog 137 [.itr k,.ptr a 0 0] fx k Y (hp g) K:=by
 refine Fy pol fx lw137 (by simp) ?_
 have hlen:=H.len g
 have a0:=H.ha g []
 rw [yal] at a0
 obtain ⟨tk,ek,lk⟩:=H.lk g
 unfold c137
 simp -implicitDefEqProofs only [rX,↓rY,aA,↓reduceIte,reduceCtorEq,aH,a0,aO]
 intro hm
 refine aR (Tp hp l k) (fun g=>g.1≤l.length∧Inv g.1 g.2) (fun g=>l.length-g.1) (0,g) ⟨by simp,hg⟩ ?_ ?_
 ·simp -implicitDefEqProofs only [rX,↓reduceIte,Nat.reduceEqDiff,reduceCtorEq,leE,aB,wfE,wfV,lk,eq_true (H.kp g),eq_true (H.wf g),ybi]
  exact aV _
 rintro ⟨i,g⟩ ⟨hi,hI⟩
 simp only at hi hI
 have hlen:=H.len g
 have go:∀ j tl,(hp g++tl)[L+j]?=tl[j]?:=fun j tl=>by
  rw [ybG (by omega),hlen];congr 1;omega
 have go0:∀ tl,(hp g++tl)[L]?=tl[0]?:=go 0
 have gs:∀ j tl B,(hp g++tl).set (L+j) B=hp g++tl.set j B:=fun j tl B=>by
  rw [ybg _ _ (by omega),hlen];congr 2;omega
 have gs0:∀ tl B,(hp g++tl).set L B=hp g++tl.set 0 B:=gs 0
 have a0:=H.ha g []
 rw [yal] at a0
 have ha:=H.ha g
 unfold c137l0 Tp
 rcases yaR i l.length with hi1|hi1
 ·have hd:decide ((i:Int)<(l.length:Int))=true:=decide_eq_true (by omega)
  simp -implicitDefEqProofs only [rX,↓rY,rZ,↓rW,aA,cells?,splice,↓reduceIte,Nat.reduceEqDiff,Nat.reduceAdd,reduceCtorEq,aD,yay,yah,cG,cQ,lE,Ep,hd,hlen,go0,gs0]
  refine ⟨⟨by omega,by omega⟩,hi1,?_⟩
  refine ⟨rfl,?_⟩
  refine hY i g hi1 hI _ _ _ ⟨rfl,rfl,rfl,rfl⟩ ?_
  intro e' g' tl he' hI'
  simp -implicitDefEqProofs only [rX,↓rY,rZ,aA,↓reduceIte,Nat.reduceEqDiff,reduceCtorEq,leE,aB,wfE,wfV,rN,he'.e7]
  refine ⟨by simp only [lo,Fx.hi,maxLen] at *;omega,(i+1,g'),⟨⟨by show i+1≤l.length;omega,hI'⟩,by show l.length-(i+1)<l.length-i;omega⟩,?_⟩
  have e1:=he'.e0;have e2:=he'.e5;have e3:=he'.e6
  obtain ⟨tk,ek,lk⟩:=H.lk g'
  simp -implicitDefEqProofs only [rX,e1,e2,e3,eq_true (Aq (hp g') tl),eq_true (H.kp g'),eq_true (H.wf g'),lk]
  rfl
 ·have hd:decide ((i:Int)<(l.length:Int))=false:=decide_eq_false (by omega)
  have hie:i=l.length:=by omega
  subst hie
  have:=hK g hI
  simp -implicitDefEqProofs only [rX,↓rY,↓reduceIte,Nat.reduceEqDiff,hd]
  first|exact this|simpa using this
end
end Go.Fx.H
namespace Go.Fx.H
open Go Go.Fx Go.Proofs Go.Fx.R
set_option maxRecDepth 20000
abbrev Ru (l:List Sp) (i:Nat):List Blk:=[.var [aO l],.arr 2 ((l.take i).map enS),.var [.sl 1 0 i],.rcd .ready [(2,.ptr 2 0 0)]]
theorem map_take {l:List Sp} {i:Nat} (h:i<l.length):(l.take i).map enS++[enS l[i]]=(l.take (i+1)).map enS:=by
 rw [ybW,yaq h,yam];rfl
theorem abE (l:List Sp) (hl:l.length≤4398046511104):acC (Ru l) 4 l 3 0 [3,0]:=by
 refine ⟨by simp only [maxLen];omega,fun g=>rfl,fun g tl=>rfl,fun g=>⟨trivial,trivial,trivial⟩,fun g=>?_,fun g=>⟨_,_,rfl⟩⟩
 simp -implicitDefEqProofs only [rX,aB,wfE,wfB,wfV,wfL]
theorem Zu (l:List Sp) (hl:l.length≤4398046511104):OkN Tryz.prog 162 [.nil,.clo 137 [.ptr 0 0 0]] [.var [aO l]] [] (IsA (.sl 1 0 l.length) [.var [aO l],.arr 2 (l.map enS)]):=by
 refine Hw pol [0] lw162 (by simp) ⟨trivial,trivial⟩ (by simp) (s0:=⟨aH 0 [.sl 1 0 0,.clo 137 [.ptr 0 0 0]],[.var [aO l],.arr 2 []],0⟩) ?_ ?_
 ·refine ⟨_,.virt 1 2 (by decide) (.nilE 0 1 rfl (.refl _)),?_⟩
  simp -implicitDefEqProofs only [rX,↓reduceIte,reduceCtorEq,leE,leH,leB,leV,dH,aC,aB,wfE,wfB,wfV,wfL,aH,yaT]
 unfold c162
 simp -implicitDefEqProofs only [rX,↓rY,aA,cells?,↓reduceIte,Nat.reduceEqDiff,Nat.reduceAdd,reduceCtorEq,aD,cxN,aH]
 refine uY 3 rfl rfl trivial ?_
 refine acD (h':=Ru l 0) ?_ ?_ ?_ ?_ (abF (Inv:=fun i g=>g=i) (abE l hl) ?_ ?_ _ rfl)
 ·simp -implicitDefEqProofs only [rX,↓reduceIte,Nat.reduceEqDiff,leE,leH,leB,leV,dH,or_true]
 ·simp [aC,aB,Xe,Ru]
 ·simp -implicitDefEqProofs only [rX,aB,wfE,wfB,wfV,wfL]
 ·simp -implicitDefEqProofs only [rX,aB,wfV,wfL]
 ·rintro i g hi rfl e bb Z he hZ
  refine By 5 rfl rfl rfl ?_
  unfold c162a0
  simp -implicitDefEqProofs only [rX,↓rY,rZ,↓rW,aA,cells?,splice,↓reduceIte,Nat.reduceEqDiff,Nat.reduceAdd,aD,cG,lE,gW]
  unfold c162r0
  simp -implicitDefEqProofs only [rX,↓rY,rZ,↓rW,cells?,splice,↓reduceIte,Nat.reduceEqDiff,Nat.reduceAdd,reduceCtorEq,aD,bY,aP,aZ,kill,bM,St.kill,isC,Nat.reduceLT,cG,cQ,oP,iY]
  have hm:(l.take g).length=g:=by rw [yaX];omega
  refine ⟨⟨by omega,by omega⟩,?_⟩
  have h2:yad g (yac enS (yad g l))++[enS l[g]]=(l.take (g+1)).map enS:=by
   rw [←map_take hi,yab (by simp;omega)]
  rw [h2]
  refine hZ (aP [1] e) (g+1) [Blk.var (enS l[g]),Blk.dead,Blk.var (enS l[g]),Blk.arr 2 [enS l[g]],Blk.dead] ?_ rfl
  refine ⟨?_,?_,?_,?_⟩<;>rw [aQ]
  ·rw [he.e0];simp [kill]
  ·rw [he.e5];rfl
  ·rw [he.e6];rfl
  ·rw [he.e7];rfl
 ·rintro g rfl
  unfold Ru
  simp -implicitDefEqProofs only [rX,↓rY,rZ,↓rW,↓reduceIte,Nat.reduceAdd,aT,aY,leH,leB,leV,dH,aC,aB,wfE,wfB,wfV,wfL,Nat.reduceLeDiff,bP,List.take_length]
end Go.Fx.H
namespace Go.Fx
open Go Go.Fx Go.Proofs Go.Sort Go.RowKit
section
variable {α:Type} [Inhabited α] (en:α→List Value) (k:Nat)
def enV (x:α):List V:=(en x).map V.v
theorem yY {S:Nat→Prop} {w:World} {b:Nat}:∀ {vs:List Value} {off:Nat},gY S w b off (vs.map V.v)→∀ j (h:j<vs.length),w.cell? ⟨b,off+j,none⟩=some vs[j]
 | [],_,_,j,h=>by simp at h
 | x::r,off,hr,j,h=>by
  obtain ⟨⟨val,h1,h2⟩,h3⟩:=hr
  cases j with
  | zero =>
   have:val=x:=h2.1
   subst this;exact h1
  | succ j =>
   have:=yY h3 j (by simpa using h)
   rw [show off+(j+1)=off+1+j by omega]
   exact this
theorem Ea {S:Nat→Prop} {w:World} {b:Nat}:∀ {vs:List Value} {off:Nat},(∀ z∈vs,isD (.v z)=true)→(∀ j (h:j<vs.length),w.cell? ⟨b,off+j,none⟩=some vs[j])→gY S w b off (vs.map V.v)
 | [],_,_,_=>trivial
 | x::r,off,hd,h=>⟨⟨x,h 0 (by simp),rfl,hd x (by simp)⟩,Ea (fun z hz=>hd z (by simp [hz])) fun j hj=>by
   have:=h (j+1) (by simpa using hj)
   rw [show off+1+j=off+(j+1) by omega]
   exact this⟩
variable {en k}
theorem Cm {S:Nat→Prop} {w:World} {b:Nat} (hk:∀ x,(en x).length=k):∀ {l:List α} {off:Nat},cI S w k b off (l.map (enV en))→∀ i (h:i<l.length) j (hj:j<(en l[i]).length),w.cell? ⟨b,off+i*k+j,none⟩=some (en l[i])[j]
 | [],_,_,i,h,_,_=>by simp at h
 | x::r,off,hr,i,h,j,hj=>by
  obtain ⟨⟨_,h2⟩,h3⟩:=hr
  cases i with
  | zero =>
   have:=yY h2 j hj
   simpa using this
  | succ i =>
   have:=Cm hk h3 i (by simpa using h) j hj
   rw [show off+(i+1)*k+j=off+k+i*k+j by rw [ybX];omega]
   exact this
theorem Hr {S:Nat→Prop} {w:World} {b:Nat} (hk:∀ x,(en x).length=k) (hd:∀ x,∀ z∈en x,isD (.v z)=true):∀ {l:List α} {off:Nat},(∀ i (h:i<l.length) j (hj:j<(en l[i]).length),w.cell? ⟨b,off+i*k+j,none⟩=some (en l[i])[j])→cI S w k b off (l.map (enV en))
 | [],_,_=>trivial
 | x::r,off,h=>⟨⟨by simp [enV,hk],Ea (hd x) fun j hj=>by
   have:=h 0 (by simp) j hj
   simpa using this⟩,Hr hk hd fun i hi j hj=>by
   have:=h (i+1) (by simpa using hi) j hj
   rw [show off+k+i*k+j=off+(i+1)*k+j by rw [ybX];omega]
   exact this⟩
structure acA (lt:α→α→Bool) (l d:List α):Prop where
 p:d.Perm l
 s:d.Pairwise fun x y=>lt y x=false
theorem Oj {P:Program} {f g:FuncId} (hc:dM P f) (hk:∀ x,(en x).length=k) (h0:0<k) (hd:∀ x,∀ z∈en x,isD (.v z)=true) {lt:α→α→Bool}
  (hsort:∀ blk off cap (d:Array α) (w:World),HoldsK en k w blk off d→blk<w.heap.size→d.size<4611686018427387904 →
   Calls P f #[.slice (some ⟨blk,off,none⟩) d.size cap,.func (.func g) #[] #[]] w fun e w'=>e=.returned (.tuple #[])∧∃ d' n os,PermIn 0 d.size d d'∧SortedIn lt 0 d.size d'∧w'=sortWorldK en k w blk off n d' os)
  (hnone:∀ a (w:World),Calls P f #[.slice a 0 0,.func (.func g) #[] #[]] w fun e w'=>e=.returned (.tuple #[])∧w'=w)
  (l:List α) (hl:l.length<4611686018427387904):OkN P f [.sl 0 0 l.length,.clo g []] [.arr k (l.map (enV en))] [] (IsQ (acA lt l) (fun _=>.tup []) (fun d=>[.arr k (d.map (enV en))])):=by
 refine ⟨hc,?_⟩
 intro ρ X w vals hr ha
 match vals,ha with
 | [val,cv],⟨hv,hcv,_⟩ =>
 obtain ⟨arr,rfl,harr⟩:=hcv
 have harr0:arr=#[]:=by
  cases h:arr.toList with
  | nil=>exact Array.toList_eq_nil_iff.1 h
  | cons a r=>rw [h] at harr;exact harr.elim
 subst harr0
 obtain ⟨cap,h1,h2,h3⟩:=hv
 rcases h3 with ⟨h4,a,rfl⟩|⟨hre,rfl,hroom⟩
 ·have hl0:l=[]:=ybj.1 (by omega)
  subst hl0
  refine (hnone a w).mono ?_
  rintro e w' ⟨rfl,rfl⟩
  exact ⟨_,.tup [],[.arr k []],ρ,rfl,⟨⟨[],⟨.nil,.nil⟩,rfl,rfl⟩,yaa _⟩,Fr.refl _ _,hr,⟨#[],rfl,trivial⟩,fun _ _ _=>rfl⟩
 ·have hb:=hr.blk 0 _ rfl
  obtain ⟨⟨hsz,_⟩,hb|⟨_,c,T,hcc,hcs,hlen,hels⟩⟩:=hb
  ·rw [hb.1] at hre;cases hre
  have hoff:(ρ 0).off+0*(ρ 0).sz=(ρ 0).off:=by omega
  rw [hoff]
  rw [yag] at hlen
  have hg:=fun i hi j hj=>Cm hk hels i hi j hj
  have hdiv:∀ t,t<l.length*k→t/k<l.length∧t%k<k∧t/k*k+t%k=t:=fun t ht =>
   ⟨Nat.div_lt_of_lt_mul (by rwa [yby] at ht),Nat.mod_lt _ h0,by have:=Nat.div_add_mod t k;rw [yby] at this;exact this⟩
  have hfl:∀ (d:List α) t,t<d.length*k→∀ (h1:t/k<d.length) (h2:t%k<(en d[t/k]).length),(flatK en k d.toArray)[t]! = (en d[t/k])[t%k]:=by
   intro d t ht h1 h2
   rw [get_flatK _ _ _ _ (by simpa using ht)]
   rw [getElem!_pos d.toArray (t/k) (by simpa using h1),getElem!_pos _ (t%k) (by simpa using h2)]
   simp
  have hH:HoldsK en k w (ρ 0).blk (ρ 0).off l.toArray:=by
   intro t ht
   have ht':t<l.length*k:=by simpa using ht
   obtain ⟨q1,q2,q3⟩:=hdiv t ht'
   have q4:t%k<(en l[t/k]).length:=by rw [hk];exact q2
   refine ⟨?_,by simp [World.frozen?,hcc]⟩
   have:=hg (t/k) q1 (t%k) q4
   rw [show (ρ 0).off+t/k*k+t%k=(ρ 0).off+t by omega] at this
   rw [this]
   exact congrArg some (hfl l t ht' q1 q4).symm
  refine (hsort (ρ 0).blk (ρ 0).off cap l.toArray w hH (hr.lt 0 hre) (by simpa using hl)).mono ?_
  rintro e w' ⟨rfl,d',n,os,⟨p1,p2,p3⟩,hs,rfl⟩
  have hdl:d'.toList.length=l.length:=by simpa using p1
  have hperm:d'.toList.Perm l:=by
   have e1:(d'.extract 0 l.toArray.size).toList=d'.toList:=by rw [←p1];simp
   have e2:(l.toArray.extract 0 l.toArray.size).toList=l:=by simp
   rw [e1,e2] at p3
   exact p3
  have hsorted:d'.toList.Pairwise fun x y=>lt y x=false:=by
   rw [ybY]
   intro i j hi hj hij
   have:=hs i j (yai _) hij (by simpa [hdl] using hj)
   rw [getElem!_pos d' j (by simpa using hj),getElem!_pos d' i (by simpa using hi)] at this
   simpa using this
  have hbl:=hr.lt 0 hre
  have hsl:l.length=d'.toList.length:=hdl.symm
  generalize hD:d'.toList=D at *
  have hda:d'=D.toArray:=by rw [←hD]
  subst hda
  have hw1:(sortWorldK en k w (ρ 0).blk (ρ 0).off n D.toArray os).heap[(ρ 0).blk]?=some (.cells (putCells id (ρ 0).off (flatK en k D.toArray) c) T (0,0)):=by
   simp only [sortWorldK,Sort.grow,putRowK,Sort.putRow,Sort.mapBlock,Sort.ahead]
   rw [ybz (by simpa using hbl),yaY,if_pos rfl,hcc]
   rfl
  have hw2:∀ b,b<w.heap.size→b≠(ρ 0).blk→(sortWorldK en k w (ρ 0).blk (ρ 0).off n D.toArray os).heap[b]?=w.heap[b]?:=by
   intro b hb hne
   simp only [sortWorldK,Sort.grow,putRowK,Sort.putRow,Sort.mapBlock,Sort.ahead]
   rw [ybz (by simpa using hb),yaY,if_neg (fun h=>hne h.symm)]
  have hsize:w.heap.size≤(sortWorldK en k w (ρ 0).blk (ρ 0).off n D.toArray os).heap.size:=by
   simp [sortWorldK,Sort.grow,putRowK,Sort.putRow,Sort.mapBlock,Sort.ahead]
  have hfr:Fr ρ w ρ (sortWorldK en k w (ρ 0).blk (ρ 0).off n D.toArray os):=⟨rfl,rfl,rfl,hsize,fun b hb ho=>⟨hw2 b hb fun h=>ho ⟨0,hre,h.symm⟩,ho⟩⟩
  have hcell:∀ t (ht:t<l.length*k),(sortWorldK en k w (ρ 0).blk (ρ 0).off n D.toArray os).cell? ⟨(ρ 0).blk,(ρ 0).off+t,none⟩=some ((flatK en k D.toArray)[t]!):=by
   intro t ht
   have htc:(ρ 0).off+t<c.size:=by rw [hcs];omega
   have hts:t<(flatK en k D.toArray).size:=by simpa [←hsl] using ht
   simp only [World.cell?,hw1]
   have htD:t<D.length*k:=by rw [←hsl];exact ht
   simp [Sort.putCells,htc,htD]
  refine ⟨_,.tup [],[.arr k (D.map (enV en))],ρ,rfl,⟨⟨D,⟨hperm,hsorted⟩,rfl,rfl⟩,yaa _⟩,hfr,⟨hr.inj,hr.out,fun q b hq=>?_,hr.disj,fun q hq=>ybZ (hr.lt q hq) hsize,hr.xfr hfr⟩,⟨#[],rfl,trivial⟩,fun _ _ _=>rfl⟩
  cases q with
  | succ q=>simp at hq
  | zero =>
   simp only [yar,ybk] at hq
   subst hq
   refine ⟨⟨hsz,h0⟩,.inr ⟨hre,_,T,hw1,by simp [Sort.putCells,hcs],by rw [yag,←hsl];exact hlen,Hr hk hd fun i hi j hj=>?_⟩⟩
   have hj':j<k:=by rw [←hk D[i]];exact hj
   have hlt:i*k+j<l.length*k:=by
    have:(i+1)*k≤l.length*k:=Nat.mul_le_mul_right k (by omega)
    rw [ybX] at this
    omega
   have hdv:(i*k+j)/k=i:=by rw [yby,Nat.mul_add_div h0,Nat.div_eq_of_lt hj',yaV]
   have hmd:(i*k+j)%k=j:=by rw [yby,Nat.mul_add_mod,Nat.mod_eq_of_lt hj']
   have:=hcell (i*k+j) hlt
   rw [hfl D (i*k+j) (by rw [←hsl];exact hlt) (by rw [hdv];exact hi) (by simp only [hdv,hmd];exact hj)] at this
   simp only [hdv,hmd] at this
   rw [Nat.add_assoc]
   exact this
end
end Go.Fx
namespace Go.Proofs
open Go.Shelf
def Tryz.sortSp_ren:Go.Shelf.Ren:=⟨fun|6=>136|15=>145|14=>163|28=>174|29=>175|20=>155|21=>193|22=>194|23=>195|24=>196|25=>197|26=>198|27=>199|46=>215|47=>202|48=>203|49=>216|50=>217|57=>220|n=>n,fun|22=>27|24=>73|25=>115|3=>3|39=>213|0=>0|53=>199|55=>201|4=>4|46=>243|45=>242|50=>118|5=>5|9=>9|66=>268|70=>272|76=>280|77=>281|n=>n,fun|n=>n⟩
theorem Tryz.sortSp:Go.Proofs.SlLaysF0.n6 Tryz.prog Tryz.sortSp_ren:={
 mixed:=by kernel_rfl
 f6:=⟨Tryz.f136.name,by decide,Tryz.func136.trans (congrArg some (by kernel_rfl))⟩
 f14:=⟨Tryz.f163.name,by decide,Tryz.func163.trans (congrArg some (by kernel_rfl))⟩
 f15:=Tryz.func145.trans (congrArg some (by kernel_rfl))
 f20:=⟨Tryz.f155.name,by decide,Tryz.func155.trans (congrArg some (by kernel_rfl))⟩
 f21:=⟨Tryz.f193.name,by decide,Tryz.func193.trans (congrArg some (by kernel_rfl))⟩
 f22:=⟨Tryz.f194.name,by decide,Tryz.func194.trans (congrArg some (by kernel_rfl))⟩
 f23:=⟨Tryz.f195.name,by decide,Tryz.func195.trans (congrArg some (by kernel_rfl))⟩
 f24:=⟨Tryz.f196.name,by decide,Tryz.func196.trans (congrArg some (by kernel_rfl))⟩
 f25:=⟨Tryz.f197.name,by decide,Tryz.func197.trans (congrArg some (by kernel_rfl))⟩
 f26:=⟨Tryz.f198.name,by decide,Tryz.func198.trans (congrArg some (by kernel_rfl))⟩
 f27:=⟨Tryz.f199.name,by decide,Tryz.func199.trans (congrArg some (by kernel_rfl))⟩
 f28:=Tryz.func174.trans (congrArg some (by kernel_rfl))
 f29:=Tryz.func175.trans (congrArg some (by kernel_rfl))
 f46:=⟨Tryz.f215.name,by decide,Tryz.func215.trans (congrArg some (by kernel_rfl))⟩
 f47:=Tryz.func202.trans (congrArg some (by kernel_rfl))
 f48:=Tryz.func203.trans (congrArg some (by kernel_rfl))
 f49:=⟨Tryz.f216.name,by decide,Tryz.func216.trans (congrArg some (by kernel_rfl))⟩
 f50:=⟨Tryz.f217.name,by decide,Tryz.func217.trans (congrArg some (by kernel_rfl))⟩
 f57:=⟨Tryz.f220.name,by decide,Tryz.func220.trans (congrArg some (by kernel_rfl))⟩
 t0:=Tryz.underlying0
 a0:=Tryz.isAgg0
 z0:=Tryz.sizeOf0
 v0:=Tryz.zeroValue0
 t3:=Tryz.underlying3
 a3:=Tryz.isAgg3
 z3:=Tryz.sizeOf3
 v3:=Tryz.zeroValue3
 t4:=Tryz.underlying4
 a4:=Tryz.isAgg4
 z4:=Tryz.sizeOf4
 v4:=Tryz.zeroValue4
 t5:=Tryz.underlying5
 a5:=Tryz.isAgg5
 z5:=Tryz.sizeOf5
 v5:=Tryz.zeroValue5
 t9:=Tryz.underlying9
 a9:=Tryz.isAgg9
 z9:=Tryz.sizeOf9
 v9:=Tryz.zeroValue9
 t22:=Tryz.underlying27
 a22:=Tryz.isAgg27
 z22:=Tryz.sizeOf27
 v22:=Tryz.zeroValue27
 t25:=Tryz.underlying115
 a25:=Tryz.isAgg115
 z25:=Tryz.sizeOf115
 v25:=Tryz.zeroValue115
 t39:=Tryz.underlying213
 a39:=Tryz.isAgg213
 z39:=Tryz.sizeOf213
 v39:=Tryz.zeroValue213
 t45:=Tryz.underlying242
 a45:=Tryz.isAgg242
 z45:=Tryz.sizeOf242
 v45:=Tryz.zeroValue242
 t46:=Tryz.underlying243
 a46:=Tryz.isAgg243
 z46:=Tryz.sizeOf243
 v46:=Tryz.zeroValue243
 t50:=Tryz.underlying118
 a50:=Tryz.isAgg118
 z50:=Tryz.sizeOf118
 v50:=Tryz.zeroValue118
 t53:=Tryz.underlying199
 a53:=Tryz.isAgg199
 z53:=Tryz.sizeOf199
 v53:=Tryz.zeroValue199
 t55:=Tryz.underlying201
 a55:=Tryz.isAgg201
 z55:=Tryz.sizeOf201
 v55:=Tryz.zeroValue201
 t66:=Tryz.underlying268
 a66:=Tryz.isAgg268
 z66:=Tryz.sizeOf268
 v66:=Tryz.zeroValue268
 t70:=Tryz.underlying272
 a70:=Tryz.isAgg272
 z70:=Tryz.sizeOf272
 v70:=Tryz.zeroValue272
 t76:=Tryz.underlying280
 a76:=Tryz.isAgg280
 z76:=Tryz.sizeOf280
 v76:=Tryz.zeroValue280
 t77:=Tryz.underlying281
 a77:=Tryz.isAgg281
 z77:=Tryz.sizeOf281
 v77:=Tryz.zeroValue281 }
def Tryz.lays189_ren:Go.Shelf.Ren:=⟨fun|189=>133|125=>145|257=>161|128=>174|129=>175|294=>184|295=>185|296=>186|297=>187|298=>188|299=>189|216=>190|300=>191|301=>192|328=>212|329=>202|330=>203|331=>213|332=>214|215=>146|343=>219|n=>n,fun|28=>149|3=>3|46=>213|0=>0|51=>199|53=>201|4=>4|183=>243|182=>242|131=>118|5=>5|9=>9|218=>268|222=>272|228=>280|229=>281|n=>n,fun|n=>n⟩
theorem Tryz.lays189:Go.Proofs.Lays.n189 Tryz.prog Tryz.lays189_ren:={
 mixed:=by kernel_rfl
 f125:=Tryz.func145.trans (congrArg some (by kernel_rfl))
 f128:=Tryz.func174.trans (congrArg some (by kernel_rfl))
 f129:=Tryz.func175.trans (congrArg some (by kernel_rfl))
 f189:=Tryz.func133.trans (congrArg some (by kernel_rfl))
 f215:=Tryz.func146.trans (congrArg some (by kernel_rfl))
 f216:=Tryz.func190.trans (congrArg some (by kernel_rfl))
 f257:=Tryz.func161.trans (congrArg some (by kernel_rfl))
 f294:=Tryz.func184.trans (congrArg some (by kernel_rfl))
 f295:=Tryz.func185.trans (congrArg some (by kernel_rfl))
 f296:=Tryz.func186.trans (congrArg some (by kernel_rfl))
 f297:=Tryz.func187.trans (congrArg some (by kernel_rfl))
 f298:=Tryz.func188.trans (congrArg some (by kernel_rfl))
 f299:=Tryz.func189.trans (congrArg some (by kernel_rfl))
 f300:=Tryz.func191.trans (congrArg some (by kernel_rfl))
 f301:=Tryz.func192.trans (congrArg some (by kernel_rfl))
 f328:=Tryz.func212.trans (congrArg some (by kernel_rfl))
 f329:=Tryz.func202.trans (congrArg some (by kernel_rfl))
 f330:=Tryz.func203.trans (congrArg some (by kernel_rfl))
 f331:=Tryz.func213.trans (congrArg some (by kernel_rfl))
 f332:=Tryz.func214.trans (congrArg some (by kernel_rfl))
 f343:=Tryz.func219.trans (congrArg some (by kernel_rfl))
 t0:=Tryz.underlying0
 a0:=Tryz.isAgg0
 z0:=Tryz.sizeOf0
 v0:=Tryz.zeroValue0
 t3:=Tryz.underlying3
 a3:=Tryz.isAgg3
 z3:=Tryz.sizeOf3
 v3:=Tryz.zeroValue3
 t4:=Tryz.underlying4
 a4:=Tryz.isAgg4
 z4:=Tryz.sizeOf4
 v4:=Tryz.zeroValue4
 t5:=Tryz.underlying5
 a5:=Tryz.isAgg5
 z5:=Tryz.sizeOf5
 v5:=Tryz.zeroValue5
 t9:=Tryz.underlying9
 a9:=Tryz.isAgg9
 z9:=Tryz.sizeOf9
 v9:=Tryz.zeroValue9
 t28:=Tryz.underlying149
 a28:=Tryz.isAgg149
 z28:=Tryz.sizeOf149
 v28:=Tryz.zeroValue149
 t46:=Tryz.underlying213
 a46:=Tryz.isAgg213
 z46:=Tryz.sizeOf213
 v46:=Tryz.zeroValue213
 t51:=Tryz.underlying199
 a51:=Tryz.isAgg199
 z51:=Tryz.sizeOf199
 v51:=Tryz.zeroValue199
 t53:=Tryz.underlying201
 a53:=Tryz.isAgg201
 z53:=Tryz.sizeOf201
 v53:=Tryz.zeroValue201
 t131:=Tryz.underlying118
 a131:=Tryz.isAgg118
 z131:=Tryz.sizeOf118
 v131:=Tryz.zeroValue118
 t182:=Tryz.underlying242
 a182:=Tryz.isAgg242
 z182:=Tryz.sizeOf242
 v182:=Tryz.zeroValue242
 t183:=Tryz.underlying243
 a183:=Tryz.isAgg243
 z183:=Tryz.sizeOf243
 v183:=Tryz.zeroValue243
 t218:=Tryz.underlying268
 a218:=Tryz.isAgg268
 z218:=Tryz.sizeOf268
 v218:=Tryz.zeroValue268
 t222:=Tryz.underlying272
 a222:=Tryz.isAgg272
 z222:=Tryz.sizeOf272
 v222:=Tryz.zeroValue272
 t228:=Tryz.underlying280
 a228:=Tryz.isAgg280
 z228:=Tryz.sizeOf280
 v228:=Tryz.zeroValue280
 t229:=Tryz.underlying281
 a229:=Tryz.isAgg281
 z229:=Tryz.sizeOf281
 v229:=Tryz.zeroValue281 }
open Go.Sort Go.RowKit in
theorem Tryz.slices_Sort_int (blk off cap:Nat) (zs:List Int) (w:World) (hH:Holds (Value.int .i64) w blk off zs.toArray) (hblk:blk<w.heap.size) (hsz:zs.length<4611686018427387904) :
  Calls Tryz.prog 133 #[.slice (some ⟨blk,off,none⟩) zs.length cap] w fun e w' =>
   e=.returned (.tuple #[])∧∃ n os,w'=grow (putRow (Value.int .i64) (Sort.ahead w n) blk off (zs.mergeSort fun x y=>decide (x≤y)).toArray) os:=Any.slices_Sort_int Tryz.lays189 blk off cap zs w hH hblk hsz
def Tryz.laysNm220_ren:Go.Shelf.Ren:=⟨fun|20=>134|n=>n,fun|22=>149|3=>3|4=>4|0=>0|n=>n,fun|n=>n⟩
theorem Tryz.laysNm220:Go.Proofs.Lays2.n20 Tryz.prog Tryz.laysNm220_ren:={
 mixed:=by kernel_rfl
 f20:=Tryz.func134.trans (congrArg some (by kernel_rfl))
 t0:=Tryz.underlying0
 a0:=Tryz.isAgg0
 z0:=Tryz.sizeOf0
 v0:=Tryz.zeroValue0
 t3:=Tryz.underlying3
 a3:=Tryz.isAgg3
 z3:=Tryz.sizeOf3
 v3:=Tryz.zeroValue3
 t4:=Tryz.underlying4
 a4:=Tryz.isAgg4
 z4:=Tryz.sizeOf4
 v4:=Tryz.zeroValue4
 t22:=Tryz.underlying149
 a22:=Tryz.isAgg149
 z22:=Tryz.sizeOf149
 v22:=Tryz.zeroValue149
 i3:=by kernel_rfl }
open Go.RowKit Go.Lib Go.Sort in
theorem Tryz.slices_Compact_int (blk off cap:Nat) (zs:List Int) (w:World) (hH:Holds (Value.int .i64) w blk off zs.toArray) (hsz:zs.length≤9223372036854775807) (hcap:zs.length≤cap) :
  Calls Tryz.prog 134 #[.slice (some ⟨blk,off,none⟩) zs.length cap] w fun e w'=>e=.returned (.slice (some ⟨blk,off,none⟩) (Lib.compact zs).length cap)∧∃ q,w'=putRow (Value.int .i64) (Sort.ahead w q) blk off (Lib.compact zs++yak (zs.length-(Lib.compact zs).length) 0).toArray:=Any.slices_Compact_int Tryz.laysNm220 blk off cap zs w hH hsz hcap
open Go.RowKit Go.Lib Go.Sort in
theorem Tryz.slices_Compact_int_empty (a:Option Addr) (cap:Nat) (w:World) :
  Calls Tryz.prog 134 #[.slice a 0 cap] w fun e w'=>e=.returned (.slice a 0 cap)∧w'=w:=Any.slices_Compact_int_empty Tryz.laysNm220 a cap w
open Go.RowKit Go.Sort in
theorem Tryz.slices_Sort_int_none (p:Option Addr) (cap:Nat) (w:World) :
  Calls Tryz.prog 133 #[.slice p 0 cap] w fun e w'=>e=.returned (.tuple #[])∧w'=w:=Any.slices_Sort_int_none Tryz.lays189 p cap w
end Go.Proofs
namespace Go.Fx.H
open Go Go.Fx Go.Proofs Go.Fx.R Go.Sort
set_option maxRecDepth 20000
theorem aaE (l:List Sp) (hl:l.length≤4398046511104):OkN Tryz.prog 135 [.clo 137 [.ptr 0 0 0]] [.var [aO l]] [] (IsA (.sl 1 0 l.length) [.var [aO l],.arr 2 (l.map enS)]):=by
 refine f9 pol [0] lw135 (by simp) ⟨trivial,trivial⟩ (by simp) ?_
 unfold c135
 simp -implicitDefEqProofs only [rX,aA,↓reduceIte,reduceCtorEq,cxN,aH]
 refine eW [0] [.nil,.clo 137 [.ptr 0 0 0]] (.sl 1 0 l.length) (.sl 1 0 l.length) [.var [aO l]] [.var [aO l],.arr 2 (l.map enS)] [.var [aO l],.arr 2 (l.map enS)] (Zu l hl) (by simp) (by simp [blk,bV,cH,ren]) (by simp [aG,bA,aS,cK,wkL,wk,pos]) (by simp) (by simp [bZ,bV,cH,ren,back]) (by simp [ren,cH,back]) (by simp [aC,aB]) ?_
 simp -implicitDefEqProofs only [rX,↓reduceIte,Nat.reduceAdd,aT,aY,leH,leB,leV,dH,aC,aB,wfB,wfV,wfL,Nat.reduceLeDiff,bP]
structure Srt (l d:List Sp):Prop where
 p:d.Perm l
 s:d.Pairwise fun s t=>s.1≤t.1
def Mid (l:List Sp):Prop:=∀ s∈l,-1152921504606846976≤s.1∧s.1≤1152921504606846976
abbrev MSp:={ s:Sp // -1152921504606846976≤s.1∧s.1≤1152921504606846976 }
instance:Inhabited MSp:=⟨⟨(0,0),by decide⟩⟩
def enM (s:MSp):List Value:=[.int .i64 s.1.1,.int .i64 s.1.2]
set_option maxHeartbeats 1000000 in
theorem aeX (x y:MSp) (W:World):Calls Tryz.prog 89 #[.agg #[.int .i64 x.1.1,.int .i64 x.1.2],.agg #[.int .i64 y.1.1,.int .i64 y.1.2]] W fun e w'=>e=.returned (.int .i64 (x.1.1-y.1.1))∧∃ q os',w'=Sort.grow (W.drewN q) os':=by
 have hx:=x.2
 have hy:=y.2
 have hw:IntKind.i64.wrap (x.1.1-y.1.1)=x.1.1-y.1.1:=by rw [IntKind.wrap_i64];omega
 go_enter Tryz.func89,Tryz.ntmps89
 go_wp2
 go_ret
 exact ⟨by first|rfl|rw [hw],0,_,by rw [Go.Sort.alloc_eq_grow,Go.Sort.alloc_eq_grow,Go.Sort.grow_grow];rfl⟩
theorem adK:SWO (ltOf fun x y:MSp=>x.1.1-y.1.1) where
 irrefl x:=by unfold ltOf;simp
 trans x y z h1 h2:=by unfold ltOf at *;simp at *;omega
 ntrans x y z h1 h2:=by unfold ltOf at *;simp at *;omega
theorem cal {f:FuncId} {fn:Func} (h:Tryz.prog.funcs[f]?=some fn) (h1:(fn.name == "runtime.NumGoroutine")=false) (h2:fn.body.isNone=false):dM Tryz.prog f:=⟨fn,h,h1,h2⟩
theorem Wi (a:Option Addr) (w:World):Calls Tryz.prog 136 #[.slice a 0 0,.func (.func 89) #[] #[]] w fun e w'=>e=.returned (.tuple #[])∧w'=w :=
 AnyF.slices_SortFunc_none Tryz.sortSp a 0 _ w
theorem Vf (l:List MSp) (hl:l.length<4611686018427387904):OkN Tryz.prog 136 [.sl 0 0 l.length,.clo 89 []] [.arr 2 (l.map (enV enM))] [] (IsQ (acA (ltOf fun x y:MSp=>x.1.1-y.1.1) l) (fun _=>.tup []) (fun d=>[.arr 2 (d.map (enV enM))])):=by
 refine Oj (en:=enM) (k:=2) (cal Tryz.func136 (by kernel_rfl) (by kernel_rfl)) (fun _=>rfl) (by decide) (fun x z hz=>by simp [enM] at hz;rcases hz with rfl|rfl<;>rfl) ?_ Wi l hl
 intro blk off cap d w hH hb hs
 exact AnyQ.slices_SortFunc Tryz.sortSp 2 Tryz.isAgg73 Tryz.sizeOf73 enM (fun _=>rfl) (fun x v hv=>by simp [enM] at hv;rcases hv with rfl|rfl<;>rfl) (fun x y=>x.1.1-y.1.1) adK 89 #[] blk off cap d w
  (enters_of Tryz.func89 (by kernel_rfl) rfl) (fun _ _ _ _ x y=>aeX x y _) hH hb hs
def toM (l:List Sp) (hm:Mid l):List MSp:=l.attach.map fun s=>⟨s.1,hm s.1 s.2⟩
theorem Qu {l:List Sp} {hm:Mid l}:(toM l hm).map (·.1)=l:=by
 unfold toM
 rw [ybr]
 exact List.attach_map_subtype_val l
theorem Hk {l:List MSp}:l.map (enV enM)=(l.map (·.1)).map enS:=by
 rw [ybr];rfl
theorem aaD (l:List Sp) (hl:l.length≤4398046511104) (hm:Mid l):OkN Tryz.prog 136 [.sl 0 0 l.length,.clo 89 []] [.arr 2 (l.map enS)] [] (IsQ (Srt l) (fun _=>.tup []) (fun d=>[.arr 2 (d.map enS)])):=by
 have hv:(toM l hm).map (·.1)=l:=Qu
 have hlen:(toM l hm).length=l.length:=by simp [toM]
 have h:=Vf (toM l hm) (by omega)
 rw [Hk,hv,hlen] at h
 refine pY h ?_
 rintro r hs ⟨d,⟨h1,h2⟩,rfl,rfl⟩
 refine ⟨d.map (·.1),⟨by rw [←hv];exact h1.map _,?_⟩,rfl,by simp only [Hk]⟩
 rw [List.pairwise_map]
 refine h2.imp fun {x y} h=>?_
 unfold ltOf at h
 simp at h
 omega
theorem adX (l:List Sp) (hl:l.length≤4398046511104) (hm:Mid l):OkN Tryz.prog 87 [.clo 137 [.ptr 0 0 0],.clo 89 []] [.var [aO l]] [] (IsQ (Srt l) (fun _=>.sl 1 0 l.length) (fun d=>[.var [aO l],.arr 2 (d.map enS)])):=by
 refine f9 pol [0] lw87 (by simp) ⟨trivial,trivial⟩ (by simp) ?_
 unfold c87
 simp -implicitDefEqProofs only [rX,aA,↓reduceIte,reduceCtorEq,cxN,aH]
 refine eW [0] [.clo 137 [.ptr 0 0 0]] (.sl 1 0 l.length) (.sl 1 0 l.length) [.var [aO l]] [.var [aO l],.arr 2 (l.map enS)] [.var [aO l],.arr 2 (l.map enS)] (aaE l hl) (by simp) (by simp [blk,bV,cH,ren]) (by simp [aG,bA,aS,cK,wkL,wk,pos]) (by simp) (by simp [bZ,bV,cH,ren,back]) (by simp [ren,cH,back]) (by simp [aC,aB]) ?_
 simp -implicitDefEqProofs only [rX,↓reduceIte,Nat.reduceEqDiff,Nat.reduceAdd,reduceCtorEq]
 refine xE (Srt l) [1] [] [] [.sl 0 0 l.length,.clo 89 []] (fun _=>.tup []) [.arr 2 (l.map enS)] (fun d=>[.arr 2 (d.map enS)]) (aaD l hl hm) (by simp) (by simp) (by simp [blk,bV]) (by simp [aG,bA,aS,cK,wkL,wk,pos]) fun d hd=>⟨by simp [aC,aB,bZ,bV,aZ],?_⟩
 simp -implicitDefEqProofs only [rX,↓reduceIte,Nat.reduceEqDiff,Nat.reduceAdd,aP,aZ,kill,bM,St.kill,bZ,bV,cH,ren]
 refine uZ d hd ?_
 simp -implicitDefEqProofs only [rX,↓reduceIte,Nat.reduceAdd,aT,aY,leH,leB,leV,dH,aC,aB,wfB,wfV,wfL,Nat.reduceLeDiff]
end Go.Fx.H
namespace Go.Fx.H
open Go Go.Fx Go.Proofs Go.Fx.R
set_option maxRecDepth 20000
theorem Cz {o:List Sp} {s:Sp} (h:s.1≥s.2):mrg o s=o:=by unfold mrg;rw [if_pos (by omega)]
theorem Ie {s:Sp} (h:¬s.1≥s.2):mrg [] s=[s]:=by unfold mrg;rw [if_neg (by omega)];rfl
theorem Da {o:List Sp} {s:Sp} (h:¬s.1≥s.2) (hn:o.length-1<o.length) (h2:s.1≤o[o.length-1].2):mrg o s=o.set (o.length-1) (o[o.length-1].1,max o[o.length-1].2 s.2):=by
 rcases ybN o with rfl|⟨p,t,rfl⟩
 ·simp at hn
 ·unfold mrg
  simp only [ybO] at *
  rw [if_neg (by omega)]
  simp at h2 ⊢
  exact h2
theorem If {o:List Sp} {s:Sp} (h:¬s.1≥s.2) (hn:o.length-1<o.length) (h2:¬s.1≤o[o.length-1].2):mrg o s=o++[s]:=by
 rcases ybN o with rfl|⟨p,t,rfl⟩
 ·simp at hn
 ·unfold mrg
  simp only [ybO] at *
  rw [if_neg (by omega)]
  simp at h2 ⊢
  omega
theorem Rn {o:List Sp} {s:Sp}:(mrg o s).length≤o.length+1:=by
 by_cases h:s.1≥s.2
 ·rw [Cz h];omega
 ·by_cases hn:o.length=0
  ·rw [ybj.1 hn,Ie h];simp
  ·by_cases h2:s.1≤(o[o.length-1]'(by omega)).2
   ·rw [Da h (by omega) h2];simp
   ·rw [If h (by omega) h2];simp
theorem Kj {d:List Sp} {k:Nat} (h:k<d.length) (o:List Sp):(d.take (k+1)).foldl mrg o=mrg ((d.take k).foldl mrg o) d[k]:=by
 rw [ybW,yaq h,List.foldl_append];rfl
abbrev h58 (l d o:List Sp):List Blk:=[.var [aO l],.arr 2 (d.map enS),.arr 2 (o.map enS)]
theorem Yx (l:List Sp) (hl:l.length≤4398046511104) (hm:Mid l):Ok 48 [aO l] (IsQ (fun d=>Srt l d) (fun d=>.sl 2 0 (d.foldl mrg []).length) (fun d=>h58 l d (d.foldl mrg []))):=by
 refine bO lw48 (by simp) ?_
 unfold c48
 simp -implicitDefEqProofs only [rX,aA,↓reduceIte,reduceCtorEq,cxN,aH]
 refine dV [aO l] (.clo 137 [.ptr 0 0 0]) (.clo 137 [.ptr 0 0 0]) [.var [aO l]] [.var [aO l]] (adW l) ⟨⟨trivial,trivial⟩,⟨rfl,rfl⟩,trivial⟩ (by simp [ren,cH]) (by simp [bV,cH,ren]) trivial ?_
 simp -implicitDefEqProofs only [rX,↓reduceIte]
 refine xE (Srt l) [0] [] [] [.clo 137 [.ptr 0 0 0],.clo 89 []] (fun _=>.sl 1 0 l.length) [.var [aO l]] (fun d=>[.var [aO l],.arr 2 (d.map enS)]) (adX l hl hm) (by simp) (by simp) (by simp [blk,bV,cH,ren]) (by simp [aG,bA,aS,cK,wkL,wk,pos]) fun d hd=>⟨by simp [aC,aB,bZ,bV,aZ],?_⟩
 simp -implicitDefEqProofs only [rX,aA,↓reduceIte,Nat.reduceEqDiff,Nat.reduceAdd,aP,aZ,kill,bM,St.kill,bZ,bV,cH,ren,back,bM,kill]
 have hdl:d.length=l.length:=hd.p.length_eq
 intro hmx
 refine eT (.virt 1 2 (by decide) (.nilE 4 2 rfl (.refl _))) (fun k:Nat=>⟨[(13,.i k),(12,.i l.length),(11,.sl 1 0 l.length),(4,.sl 2 0 ((d.take k).foldl mrg []).length)],h58 l d ((d.take k).foldl mrg []),0⟩) (fun k=>k≤d.length∧((d.take k).foldl mrg []).length≤k) (fun k=>d.length-k) 0 ⟨by omega,by simp⟩ ?_ ?_
 ·simp -implicitDefEqProofs only [rX,↓reduceIte,Nat.reduceEqDiff,leE,leH,leB,leV,dH,aC,aB,wfE,wfB,wfV,wfL,ybi,List.foldl_nil,yaT]
  simp
 rintro k ⟨hk,hol⟩
 generalize ho:(d.take k).foldl mrg []=o at hol
 unfold c48l0
 simp -implicitDefEqProofs only [rX,↓rY,aA,cells?,splice,↓reduceIte,Nat.reduceEqDiff,eQ,Nat.reduceAdd,reduceCtorEq,aD,bY,leE,leH,leB,leV,dH,aC,aB,wfE,wfB,wfV,wfL,aP,aZ,kill,bM,St.kill,isD,isC,Nat.reduceLT,yay,yah,cG,cQ,tC,mT,lE,oP,nL,iY]
 have hend:∀ (hk':k<d.length),∀ o',o'=mrg o d[k]→((lo IntKind.i64≤(k:Int)+1∧(k:Int)+1≤hi IntKind.i64)∧∃ g',((g'≤d.length∧(yaZ mrg [] (yad g' d)).length≤g')∧d.length-g'<d.length-k)∧((k:Int)+1=(g':Int)∧V.sl 2 0 o'.length=V.sl 2 0 (yaZ mrg [] (yad g' d)).length)∧Blk.arr 2 (yac enS o')=Blk.arr 2 (yac enS (yaZ mrg [] (yad g' d)))):=by
  intro h o' e
  have hf:=Kj h ([]:List Sp)
  rw [ho] at hf
  have:=Rn (o:=o) (s:=d[k])
  refine ⟨by simp only [lo,hi];omega,k+1,⟨⟨by omega,by rw [hf];omega⟩,by omega⟩,?_⟩
  rw [hf,←e]
  simp
 have htk:yad o.length (o.map enS)=o.map enS:=yab (by simp)
 simp only [br,decide_eq_true_eq,decide_eq_false_iff_not]
 refine ⟨fun h=>?_,fun h=>?_⟩
 ·have hk':k<d.length:=by omega
  have hend:=hend hk'
  refine ⟨⟨by omega,h⟩,hk',fun hmo=>⟨fun h1=>hend o (Cz h1).symm,fun h1=>?_⟩⟩
  have h1':¬d[k].1≥d[k].2:=by omega
  have hbig:(o.length+1)*16≤140737488355328:=by omega
  have hadd:∀ x,o++[x]=mrg o d[k]→x=d[k]→(o.length+1)*16≤140737488355328∧(lo IntKind.i64≤(k:Int)+1∧(k:Int)+1≤hi IntKind.i64)∧∃ g',((g'≤d.length∧(yaZ mrg [] (yad g' d)).length≤g')∧d.length-g'<d.length-k)∧((k:Int)+1=(g':Int)∧V.sl 2 0 (o.length+1)=V.sl 2 0 (yaZ mrg [] (yad g' d)).length)∧Blk.arr 2 (yad o.length (yac enS o)++[enS d[k]])=Blk.arr 2 (yac enS (yaZ mrg [] (yad g' d))):=by
   rintro x hx rfl
   have:=hend _ hx
   rw [htk]
   rw [yam,yae] at this
   exact ⟨hbig,this⟩
  refine ⟨fun h2=>?_,fun h2=>?_⟩
  ·have hn:o.length-1<o.length:=by omega
   have hto:((o.length:Int)-1).toNat=o.length-1:=by omega
   have r1:lo IntKind.i64≤(o.length:Int)-1∧(o.length:Int)-1≤hi IntKind.i64:=by simp only [lo,hi];omega
   have r2:(0:Int)≤(o.length:Int)-1∧(o.length:Int)-1<o.length:=by omega
   simp only [hto]
   refine ⟨r1,r2,hn,fun h3=>?_,fun h3=>?_⟩
   ·refine ⟨r1,r1,r2,hn,r2,hn,?_⟩
    have:=hend _ (Da h1' hn h3).symm
    have e:(yac enS o).set (o.length-1) (yad 1 (enS o[o.length-1])++[V.v (Value.int IntKind.i64 (max o[o.length-1].snd d[k].snd))])=(o.set (o.length-1) (o[o.length-1].1,max o[o.length-1].2 d[k].2)).map enS:=by
     rw [ybE];rfl
    rw [e]
    simpa using this
   ·exact hadd d[k] (If h1' hn h3).symm rfl
  ·have h0:o=[]:=ybj.1 (by omega)
   refine hadd d[k] ?_ rfl
   subst h0
   exact (Ie h1').symm
 ·refine uZ d hd ?_
  have hf:(d.take k).foldl mrg []=d.foldl mrg []:=by rw [yab (by omega)]
  rw [ho] at hf
  rw [hf]
  simp -implicitDefEqProofs only [rX,↓reduceIte,Nat.reduceAdd,aT,aY,leH,leB,leV,dH,aC,aB,wfB,wfV,wfL,Nat.reduceLeDiff]
theorem aeG (l:List Sp) (hl:l.length≤4398046511104) (hm:Mid l):Ok 48 [aO l] (Is (aO (ofS l))):=by
 refine ⟨hU lw48,Jk (R:=fun q hs=>wk (aO (ofS l)) (gvV (fun _=>true) hs q)) ?_ fun _ _ h=>h⟩
 refine (pY (Yx l hl hm) ?_).2
 rintro r h ⟨d,hd,rfl,rfl⟩
 have e:d.foldl mrg []=ofS l:=Wk hd.s fun s=>hd.p.mem_iff
 simp only [e]
 have ht:yad (ofS l).length ((ofS l).map enS)=(ofS l).map enS:=yab (by simp)
 simp [gvV,gvL,wk,wkL,wkR,aO,blk,ht]
end Go.Fx.H
namespace Go.Fx.H
open Go Go.Fx Go.Proofs Go.Fx.R
set_option maxRecDepth 20000
theorem Ts (l:List Sp) (hl:l.length≤4398046511104) (hm:Mid l):OkN Tryz.prog 48 [.sl 0 0 l.length] [.arr 2 (l.map enS)] [0] (IsA (aO (ofS l)) [.dead]):=by
 have ht:yad l.length (l.map enS)=l.map enS:=yab (by simp)
 exact Ak (xs:=[.sl 0 0 l.length]) (h0:=[.arr 2 (l.map enS)]) (aeG l hl hm) (by simp [gvL,gvV,wkL,wk,wkR,blk,ht])
theorem xG {cx:Cx} {e:Env} {h:List Blk} {b k n:Nat} {K:V→St→Prop} (l:List Sp) (hC:cx.C=C0 Tryz.prog) (hl:l.length≤4398046511104) (hm:Mid l) (hb:h[k]?=some (.arr 2 (l.map enS))) (hn:n=l.length) (hk:k∉cx.bn∧k∉cx.fx)
  (keep:aC cx.fx ((h.map (aZ [k])).set k .dead)) (h3:K (aO (ofS l)) ⟨aP [k] e,(h.map (aZ [k])).set k .dead,b⟩):eX cx 48 [.sl k 0 n] ⟨e,h,b⟩ K:=by
 subst hn
 have hlt:k<h.length:=by
  rcases yaR k h.length with h'|h'
  ·exact h'
  ·rw [List.getElem?_eq_none h'] at hb;cases hb
 have hbk:blk h k=.arr 2 (l.map enS):=by simp [blk,hb]
 refine xE (fun _:Unit=>True) [k] [0] [k] [.sl 0 0 l.length] (fun _=>aO (ofS l)) [.arr 2 (l.map enS)] (fun _=>[.dead]) ?_ ⟨by simp,fun j hj=>?_⟩ ⟨by simp,fun j hj i hi=>?_⟩ ?_ ?_ fun _ _=>⟨?_,?_⟩
 ·rw [hC]
  exact pY (Ts l hl hm) fun r hs h=>⟨(),trivial,h.1,h.2⟩
 ·simp at hj;subst hj;exact ⟨hlt,hk.1⟩
 ·simp at hj;subst hj;simp at hi;subst hi;exact hk.2
 ·simp [hbk,bV]
 ·simp [aG,bA,aS,cK,wkL,wk,pos]
 ·simpa [bZ,bV] using keep
 ·simpa [bZ,bV,ren,aO] using h3
end Go.Fx.H
namespace Go.Fx.H
open Go Go.Fx Go.Proofs Go.Fx.R
set_option maxRecDepth 20000
set_option maxHeartbeats 1000000 in
theorem abK (w:World):Calls Tryz.prog 120 #[.slice none 0 0,.int .i64 0] w fun e w'=>e=.returned (.slice none 0 0)∧w'=w:=by
 go_enter Tryz.func120,Tryz.ntmps120
 go_wp2
 go_ret
 exact ⟨rfl,rfl⟩
set_option maxHeartbeats 1000000 in
theorem abJ (n:Nat) (h0:0<n) (hn:n≤4398046511104) (w:World):Calls Tryz.prog 120 #[.slice none 0 0,.int .i64 n] w fun e w'=>∃ G row,n≤G∧G≤9223372036854775807∧row.size=G*2∧e=.returned (.slice (some ⟨w.heap.size,0,none⟩) 0 G)∧w'=w.drew.alloc (.cells row 73):=by
 have hi0:Tryz.prog.info? 73=some Tryz.t73:=by kernel_rfl
 have hz0:Tryz.t73.zero=some (.agg #[.int .i64 0,.int .i64 0]):=by kernel_rfl
 have hs:Tryz.t73.size=2:=by kernel_rfl
 have hb:Tryz.t73.bytes=16:=by kernel_rfl
 have hold:(Builtin.firstCells Tryz.t73.size 0 (.slice none 0 0)).run Tryz.prog w.drew=.ok ([]:List Value).toArray w.drew:=run_firstCells_none w.drew _ 0 0 0
 have hrz:∀ ty,_:=fun ty=>Lib.run_append_grow_zeros w 27 3 ty 73 Tryz.t73 _ .i64 .i64 Tryz.underlying27 Tryz.underlying3 hi0 hz0 none 0 0 [] hold n (by omega) (by omega) (by omega) (by omega) (by rw [hb];omega) (by rw [hb];exact growslice_fits (by omega) (by omega))
 simp only [yaA] at hrz
 obtain ⟨G,hG⟩:∃ G,G=grownCap w n 0 73:=⟨_,rfl⟩
 have hGn:n≤G:=by rw [hG];exact grownCap_ge w _ _ _
 have hG63:G≤9223372036854775807:=by
  have:=grownCap_le_maxLen w n 0 73 (by unfold maxLen;omega)
  rw [←hG] at this
  unfold maxLen at this
  omega
 rw [←hG] at hrz
 generalize hrow:(([]:List Value).toArray++Builtin.zeroCells (Value.agg #[Value.int .i64 0,Value.int .i64 0]).cells n++Builtin.zeroCells (Value.agg #[Value.int .i64 0,Value.int .i64 0]).cells (G-n))=row at hrz
 have hsz:row.size=G*2:=by
  rw [←hrow]
  simp [Builtin.zeroCells,Value.cells]
  omega
 clear hold hG hrow
 have h1:¬((n:Int)<0):=by omega
 have h4:(n:Int)-(0-0)>0:=by omega
 have e4:(n:Int)-(0-0)=n:=by omega
 go_enter Tryz.func120,Tryz.ntmps120
 go_wp2_with (at_builtin;refine Lib.wpList_append_run _ rfl _ _ _ _ rfl _ _ rfl rfl _ _ (hrz _) ?_)
 all_goals (go_ret;exact ⟨G,hGn,hG63,row,hsz,rfl,rfl⟩)
theorem aaO (n:Nat) (hn:n≤4398046511104):Ok 120 [.nil,.i n] (IsA (.sl 0 0 0) [.arr 2 []]):=by
 refine ⟨cal Tryz.func120 (by kernel_rfl) (by kernel_rfl),?_⟩
 intro ρ X w vals hr ha
 match vals,ha with
 | [v0,v1],⟨h0,h1,_⟩ =>
 have h0':v0=.slice none 0 0:=h0
 have h1':v1=.int .i64 n:=h1
 subst h0' h1'
 have hno:∀ k,(ρ k).real=false:=fun k=>hr.out k (yai _)
 have hown:∀ b,¬Own ρ b:=by
  rintro b ⟨k,hk,_⟩
  rw [hno k] at hk;cases hk
 rcases Nat.eq_zero_or_pos n with rfl|hp
 ·refine (abK w).mono ?_
  rintro e w' ⟨rfl,rfl⟩
  have hno':∀ k,(({ ρ 0 with sz:=2 }:Loc) |> fun L=>if k=0 then L else ρ k).real=false:=by
   intro k
   show (if k=0 then _ else ρ k:Loc).real=false
   split
   ·exact hno 0
   ·exact hno k
  refine ⟨_,.sl 0 0 0,[.arr 2 []],fun k=>if k=0 then { ρ 0 with sz:=2 } else ρ k,rfl,⟨⟨rfl,rfl⟩,yai _⟩,⟨rfl,rfl,rfl,yaa _,fun b hb ho=>⟨rfl,?_⟩⟩,⟨fun j k _ h=>?_,fun k _=>hno' k,fun k b hb=>?_,?_,fun k h=>?_,hr.xlt⟩,⟨0,yaa _,yai _,.inl ⟨rfl,_,rfl⟩⟩,fun k hk=>absurd hk (ybV _)⟩
  ·rintro ⟨k,hk,_⟩
   have:=hno' k
   simp only at this
   rw [this] at hk;cases hk
  ·have:=hno' j
   simp only at this
   rw [this] at h;cases h
  ·cases k with
   | succ k=>simp at hb
   | zero =>
    simp only [yar,ybk] at hb
    subst hb
    exact ⟨⟨rfl,by decide⟩,.inl ⟨hno 0,rfl⟩⟩
  ·rintro b ⟨k,hk,_⟩
   have:=hno' k
   simp only at this
   rw [this] at hk;cases hk
  ·have:=hno' k
   simp only at this
   rw [this] at h;cases h
 ·refine (abJ n hp hn w).mono ?_
  rintro e w' ⟨G,row,g1,g2,g3,rfl,rfl⟩
  have hsize:(w.drew.alloc (.cells row 73)).heap.size=w.heap.size+1:=Array.size_push ..
  have hold:∀ b,b<w.heap.size→(w.drew.alloc (.cells row 73)).heap[b]?=w.heap[b]?:=by
   intro b hb
   simp only [World.alloc,World.drew]
   rw [Array.getElem?_push_lt (by simpa using hb),Array.getElem?_eq_getElem (by simpa using hb)]
  have hnew:(w.drew.alloc (.cells row 73)).heap[w.heap.size]?=some (.cells row 73 (0,0)):=by
   simp only [World.alloc,World.drew]
   simp
  let L0:Loc:={ ρ 0 with real:=true,blk:=w.heap.size,off:=0,sz:=2,room:=G*2 }
  have hloc:∀ k,(if k=0 then L0 else ρ k:Loc).real=true→k=0:=by
   intro k hk
   by_cases h:k=0
   ·exact h
   ·rw [if_neg h,hno k] at hk;cases hk
  have hfr:Fr ρ w (fun k=>if k=0 then L0 else ρ k) (w.drew.alloc (.cells row 73)):=by
   refine ⟨rfl,rfl,rfl,by omega,fun b hb ho=>⟨hold b hb,?_⟩⟩
   rintro ⟨k,hk,hb2⟩
   have:=hloc k hk
   subst this
   simp only [if_pos] at hb2
   have:w.heap.size=b:=hb2
   omega
  refine ⟨_,.sl 0 0 0,[.arr 2 []],fun k=>if k=0 then L0 else ρ k,rfl,⟨⟨rfl,rfl⟩,yai _⟩,hfr,⟨fun j k hjk h1 h2=>?_,fun k hk=>?_,fun k b hb=>?_,?_,fun k h=>?_,hr.xfr hfr⟩,⟨G,yai _,by unfold maxLen;omega,.inr ⟨rfl,by simp [L0],by simp [L0]⟩⟩,fun k hk=>absurd hk (ybV _)⟩
  ·exact absurd ((hloc j h1).trans (hloc k h2).symm) hjk
  ·have:k≠0:=by simp at hk;omega
   simp only [if_neg this]
   exact hno k
  ·cases k with
   | succ k=>simp at hb
   | zero =>
    simp only [yar,ybk] at hb
    subst hb
    exact ⟨⟨rfl,by decide⟩,.inr ⟨rfl,row,73,hnew,g3,by simp [L0],trivial⟩⟩
  ·rintro b ⟨k,hk,hb2⟩ hX
   have:=hloc k hk
   subst this
   simp only [if_pos] at hb2
   have h3:w.heap.size=b:=hb2
   have:=hr.xlt.1 b hX
   omega
  ·have:=hloc k h
   subst this
   show w.heap.size<_
   omega
theorem yS {L:List (List Sp)} {k:Nat} (h:k<L.length):(L.take (k+1)).flatten=(L.take k).flatten++L[k]:=by
 rw [ybW,yaq h,ybT];simp
theorem uB {L:List (List Sp)} {k:Nat}:(L.take k).flatten.length≤L.flatten.length:=by
 conv=>rhs;rw [←yci k L,ybT,yae]
 omega
theorem Zf (L:List (List Sp)) (hL:L.flatten.length≤4398046511104):Ok 69 [.bro 1 (L.map enL)] (IsA (.sl 0 0 L.flatten.length) [.arr 2 (L.flatten.map enS)]):=by
 refine bO lw69 (by simp) ?_
 unfold c69
 simp -implicitDefEqProofs only [rX,↓rY,aA,↓reduceIte,reduceCtorEq,cxN,aH]
 intro hm
 refine aR (fun k:Nat=>⟨[(11,.i k),(10,.i L.length),(9,.bro 1 (L.map enL)),(3,.i (L.take k).flatten.length),(0,.bro 1 (L.map enL))],[],0⟩) (fun k=>k≤L.length) (fun k=>L.length-k) 0 (by omega) ?_ ?_
 ·simp -implicitDefEqProofs only [rX,↓reduceIte,Nat.reduceEqDiff,reduceCtorEq,leE,leH,aC,wfE,wfB,wfV,ybi,List.flatten_nil]
 rintro k hk
 have hle:=uB (L:=L) (k:=k)
 unfold c69l0
 simp -implicitDefEqProofs only [rX,↓rY,aA,↓reduceIte,Nat.reduceEqDiff,reduceCtorEq,leE,leH,aC,wfE,wfB,wfV,yay,yah,Ud]
 simp only [br,decide_eq_true_eq,decide_eq_false_iff_not]
 refine ⟨fun h=>?_,fun h=>?_⟩
 ·have hk':k<L.length:=by omega
  have hle2:=uB (L:=L) (k:=k+1)
  have hf:=yS hk'
  refine ⟨⟨by omega,h⟩,hk',?_⟩
  intro hm2
  have hfl:(L.take (k+1)).flatten.length=(L.take k).flatten.length+L[k].length:=by rw [hf,yae]
  refine ⟨by simp only [lo,hi];omega,fun hneg=>absurd hneg (by omega),fun _=>⟨by simp only [lo,hi,maxLen] at *;omega,k+1,⟨by omega,by omega⟩,?_⟩⟩
  rw [hfl]
  simp
 ·rw [yab (by omega)]
  refine dV [.nil,.i L.flatten.length] (.sl 0 0 0) (.sl 0 0 0) [.arr 2 []] [.arr 2 []] (aaO _ hL) ⟨⟨trivial,trivial,trivial⟩,rfl,rfl,trivial⟩ (by simp [ren]) (by simp [bV]) trivial ?_
  simp -implicitDefEqProofs only [rX,↓rY,aA,↓reduceIte,reduceCtorEq]
  intro hm2
  refine aR (fun k:Nat=>⟨[(27,.i k),(26,.i L.length),(25,.bro 1 (L.map enL)),(6,.sl 0 0 (L.take k).flatten.length)],[.arr 2 ((L.take k).flatten.map enS)],0⟩) (fun k=>k≤L.length) (fun k=>L.length-k) 0 (by omega) ?_ ?_
  ·simp -implicitDefEqProofs only [rX,↓reduceIte,Nat.reduceEqDiff,leE,leH,leB,aC,aB,wfE,wfB,wfV,ybi,List.flatten_nil]
  rintro k hk
  have hle:=uB (L:=L) (k:=k)
  unfold c69l1
  simp -implicitDefEqProofs only [rX,↓rY,aA,↓reduceIte,Nat.reduceEqDiff,Nat.reduceAdd,aT,aY,leE,leH,leB,aC,aB,wfE,wfB,wfV,aP,aZ,kill,St.kill,Nat.reduceLeDiff,yay,yah,Ud,bP]
  simp only [br,decide_eq_true_eq,decide_eq_false_iff_not]
  refine ⟨fun h=>?_,fun h=>?_⟩
  ·have hk':k<L.length:=by omega
   have hle2:=uB (L:=L) (k:=k+1)
   have hf:=yS hk'
   have hfl:(L.take (k+1)).flatten.length=(L.take k).flatten.length+L[k].length:=by rw [hf,yae]
   refine ⟨⟨by omega,h⟩,hk',by simp,by omega,by simp only [lo,hi,maxLen] at *;omega,k+1,⟨by omega,by omega⟩,?_⟩
   have htk:yad (L.take k).flatten.length ((L.take k).flatten.map enS)=(L.take k).flatten.map enS:=yab (by rw [yag];exact yaa _)
   rw [htk,hfl,hf,yam]
   exact ⟨⟨by simp,rfl⟩,rfl⟩
  ·rw [yab (by omega)]
   exact ⟨rfl,rfl⟩
end Go.Fx.H
namespace Go.Fx.R
open Go
def srt (l:List Int):List Int:=l.mergeSort fun x y=>decide (x≤y)
theorem Ad {l:List Int}:(srt l).length=l.length:=List.length_mergeSort ..
abbrev Asc (l:List Int):Prop:=l.Pairwise (·<·)
theorem Pc {d:Array Int} (hs:∀ i j,i≤j→j<d.size→d[i]!≤d[j]!):∀ m,m≤d.size→Asc (Lib.compactUpTo d m)∧∀ x,x∈Lib.compactUpTo d m↔∃ j,j<m∧d[j]! = x
 | 0,_=>by
  constructor
  ·simp [Lib.compactUpTo,Asc]
  ·intro x;simp [Lib.compactUpTo]
 | m+1,hm=>by
  obtain ⟨h1,h2⟩:=Pc hs m (by omega)
  rw [Lib.compactUpTo_succ]
  by_cases hk:Lib.keeps d m=true
  ·rw [if_pos hk]
   constructor
   ·rw [Asc,ycg]
    refine ⟨h1,by simp,fun x hx y hy=>?_⟩
    rw [yao] at hy
    subst hy
    obtain ⟨j,hj,rfl⟩:=(h2 x).1 hx
    have h3:=hs j m (by omega) (by omega)
    simp only [Lib.keeps,decide_eq_true_eq] at hk
    rcases hk with hk|hk
    ·omega
    ·have h4:=hs j (m-1) (by omega) (by omega)
     have h5:=hs (m-1) m (by omega) (by omega)
     omega
   ·intro x
    rw [yav,yao,h2]
    constructor
    ·rintro (⟨j,hj,he⟩|he)
     ·exact ⟨j,by omega,he⟩
     ·exact ⟨m,by omega,he.symm⟩
    ·rintro ⟨j,hj,he⟩
     by_cases hjm:j=m
     ·subst hjm;exact .inr he.symm
     ·exact .inl ⟨j,by omega,he⟩
  ·rw [if_neg hk,yal]
   refine ⟨h1,fun x=>?_⟩
   rw [h2]
   simp only [Lib.keeps,decide_eq_true_eq,not_or,ne_eq,Decidable.not_not] at hk
   constructor
   ·rintro ⟨j,hj,he⟩
    exact ⟨j,by omega,he⟩
   ·rintro ⟨j,hj,he⟩
    by_cases hjm:j=m
    ·subst hjm
     exact ⟨j-1,by omega,by rw [←hk.2];exact he⟩
    ·exact ⟨j,by omega,he⟩
theorem Vc {l:List Int}:(srt l).Pairwise (·≤·):=by
 have:=List.pairwise_mergeSort (le:=fun x y:Int=>decide (x≤y)) (fun a b c h1 h2=>by simp at *;omega) (fun a b=>by simp;omega) l
 exact this.imp fun h=>by simpa using h
theorem Ih {l:List Int} {x:Int}:x∈srt l↔x∈l:=List.mem_mergeSort
def uni (l:List Int):List Int:=Lib.compact (srt l)
theorem jY {l:List Int}:Asc (uni l)∧∀ x,x∈uni l↔x∈l:=by
 have hs:∀ i j,i≤j→j<(srt l).toArray.size→(srt l).toArray[i]!≤(srt l).toArray[j]!:=fun i j hij hj=>by
  have hj':j<(srt l).length:=by simpa using hj
  rw [getElem!_pos (srt l).toArray i (by simp;omega),getElem!_pos (srt l).toArray j (by simpa using hj')]
  simp only [ycn]
  by_cases he:i=j
  ·subst he;exact Int.le_refl _
  ·exact (ybY.1 Vc) i j (by omega) hj' (by omega)
 obtain ⟨h1,h2⟩:=Pc hs (srt l).length (by simp)
 refine ⟨h1,fun x=>?_⟩
 rw [uni,Lib.compact,h2]
 constructor
 ·rintro ⟨j,hj,he⟩
  rw [getElem!_pos (srt l).toArray j (by simpa using hj)] at he
  simp only [ycn] at he
  have:x∈srt l:=he▸yca hj
  rwa [Ih] at this
 ·intro h
  have:x∈srt l:=by rw [Ih];exact h
  obtain ⟨j,hj,he⟩:=ycb this
  refine ⟨j,hj,?_⟩
  rw [getElem!_pos (srt l).toArray j (by simpa using hj)]
  simpa using he
theorem uE {l:List Int}:(Lib.compact l).length≤l.length:=by
 have h:=List.length_filter_le (Lib.keeps l.toArray) (yau l.length)
 rw [ybx] at h
 simpa [Lib.compact,Lib.compactUpTo] using h
theorem Qq {l:List Int}:(uni l).length≤l.length:=by
 have h1:=uE (l:=srt l)
 rw [Ad] at h1
 exact h1
def dU (l:List Sp):List Int:=l.flatMap fun s=>[s.1,s.2]
theorem nF {l:List Sp} {x:Int}:x∈dU l↔∃ s∈l,x=s.1∨x=s.2:=by
 simp only [dU,List.mem_flatMap,yax,yaC,or_false]
theorem rH:∀ {l:List Sp},(dU l).length=2*l.length
 | []=>rfl
 | s::l=>by
  have:=rH (l:=l)
  unfold dU at *
  rw [ybM,yae,this,yap]
  simp;omega
def cV (a b:List Sp):List Int:=uni (dU (a++b))
def pieces:List Int→List Sp
 | x::y::r=>(x,y)::pieces (y::r)
 | _=>[]
theorem f8:∀ {E:List Int},(pieces E).length=E.length-1
 | []=>rfl
 | [_]=>rfl
 | x::y::r=>by
  have:=f8 (E:=y::r)
  simp only [pieces,yap] at *
  omega
theorem mC:∀ {E:List Int} {k:Nat} (h:k<(pieces E).length),(pieces E)[k]=(E[k]'(by rw [f8] at h;omega),E[k+1]'(by rw [f8] at h;omega))
 | [],k,h=>by simp [pieces] at h
 | [_],k,h=>by simp [pieces] at h
 | x::y::r,0,h=>rfl
 | x::y::r,k+1,h=>by
  have:=mC (E:=y::r) (k:=k) (by simpa [pieces] using h)
  simpa [pieces] using this
theorem mD:∀ {E:List Int} {x u v:Int},Asc E→u∈E→v∈E→u≤x→x<v→∃ s∈pieces E,s.1≤x∧x<s.2
 | [],_,u,_,_,hu,_,_,_=>by simp at hu
 | [a],_,u,v,_,hu,hv,h1,h2=>by
  simp at hu hv;omega
 | a::b::r,x,u,v,h,hu,hv,h1,h2=>by
  obtain ⟨h3,h4⟩:=ybK.1 h
  by_cases c:x<b
  ·refine ⟨(a,b),by simp [pieces],?_,c⟩
   rcases yax.1 hu with rfl|hu
   ·exact h1
   ·have:=h3 u hu;simp only;omega
  ·have hvb:v∈b::r:=by
    rcases yax.1 hv with rfl|hv
    ·have:=h3 b (by simp);omega
    ·exact hv
   obtain ⟨s,hs,h5⟩:=mD h4 (u:=b) (by simp) hvb (by omega) h2
   exact ⟨s,by simp [pieces,hs],h5⟩
theorem sF {E:List Int} (h:Asc E) {s:Sp} (hs:s∈pieces E):s.1<s.2∧s.1∈E∧s.2∈E∧∀ e∈E,e≤s.1∨s.2≤e:=by
 obtain ⟨k,hk,rfl⟩:=ycb hs
 rw [mC hk]
 have hk':=hk
 rw [f8] at hk'
 have hp:=ybY.1 h
 refine ⟨hp k (k+1) (by omega) (by omega) (by omega),yca _,yca _,fun e he=>?_⟩
 obtain ⟨j,hj,rfl⟩:=ycb he
 rcases yaR k j with c|c
 ·right
  rcases yaR (k+1) j with c2|c2
  ·have:=hp (k+1) j (by omega) hj c2;simp only;omega
  ·have:j=k+1:=by omega
   subst this;simp only;omega
 ·left
  rcases yaR j k with c2|c2
  ·have:=hp j k (by omega) (by omega) c2;simp only;omega
  ·have:j=k:=by omega
   subst this;simp only;omega
def hasB (l:List Sp) (x:Int):Bool:=l.any fun s=>decide (s.1≤x)&&decide (x<s.2)
theorem fT {l:List Sp} {x:Int}:hasB l x=true↔inS l x:=by
 simp only [hasB,List.any_eq_true,ybe,decide_eq_true_eq,inS]
theorem Dn {E:List Int} (h:Asc E) {a:List Sp} (ha:∀ s∈a,s.1∈E∧s.2∈E) {s:Sp} (hs:s∈pieces E) {x:Int} (h1:s.1≤x) (h2:x<s.2):inS a x↔inS a s.1:=by
 obtain ⟨p1,p2,p3,p4⟩:=sF h hs
 constructor
 ·rintro ⟨t,ht,h3,h4⟩
  have a1:=p4 _ (ha t ht).1
  have a2:=p4 _ (ha t ht).2
  exact ⟨t,ht,by omega,by omega⟩
 ·rintro ⟨t,ht,h3,h4⟩
  have a2:=p4 _ (ha t ht).2
  exact ⟨t,ht,by omega,by omega⟩
theorem lH {a b:List Sp}:Asc (cV a b):=jY.1
theorem Gk {a b:List Sp}:∀ s∈a,s.1∈cV a b∧s.2∈cV a b:=fun s hs=>by
 unfold cV
 rw [jY.2,jY.2,nF,nF]
 exact ⟨⟨s,by simp [hs],.inl rfl⟩,⟨s,by simp [hs],.inr rfl⟩⟩
theorem Gj {a b:List Sp}:∀ s∈b,s.1∈cV a b∧s.2∈cV a b:=fun s hs=>by
 unfold cV
 rw [jY.2,jY.2,nF,nF]
 exact ⟨⟨s,by simp [hs],.inl rfl⟩,⟨s,by simp [hs],.inr rfl⟩⟩
theorem Wr {a b:List Sp} {f:Bool→Bool→Bool} (hf:f false false=false) {x:Int}:inS ((pieces (cV a b)).filter fun s=>f (hasB a s.1) (hasB b s.1)) x↔f (hasB a x) (hasB b x)=true:=by
 have heq:∀ s∈pieces (cV a b),s.1≤x→x<s.2→hasB a x=hasB a s.1∧hasB b x=hasB b s.1:=fun s hs h1 h2=>by
  constructor
  ·rw [ybQ,fT,fT];exact Dn lH Gk hs h1 h2
  ·rw [ybQ,fT,fT];exact Dn lH Gj hs h1 h2
 constructor
 ·rintro ⟨s,hs,h1,h2⟩
  rw [List.mem_filter] at hs
  obtain ⟨e1,e2⟩:=heq s hs.1 h1 h2
  rw [e1,e2]
  exact hs.2
 ·intro h
  have hcov:∃ s∈pieces (cV a b),s.1≤x∧x<s.2:=by
   by_cases ha:hasB a x=true
   ·obtain ⟨t,ht,h1,h2⟩:=fT.1 ha
    exact mD lH (Gk t ht).1 (Gk t ht).2 h1 h2
   ·by_cases hb:hasB b x=true
    ·obtain ⟨t,ht,h1,h2⟩:=fT.1 hb
     exact mD lH (Gj t ht).1 (Gj t ht).2 h1 h2
    ·have e1:hasB a x=false:=by simpa using ha
     have e2:hasB b x=false:=by simpa using hb
     rw [e1,e2,hf] at h;cases h
  obtain ⟨s,hs,h1,h2⟩:=hcov
  obtain ⟨e1,e2⟩:=heq s hs h1 h2
  rw [e1,e2] at h
  exact ⟨s,List.mem_filter.2 ⟨hs,h⟩,h1,h2⟩
def Qx (f:Bool→Bool→Bool) (a b:List Sp):List Sp:=ofS ((pieces (cV a b)).filter fun s=>f (hasB a s.1) (hasB b s.1))
theorem Jr {a b:List Sp} (ha:Sep a):Qx (fun x y=>x&&!y) a b=nE a b:=by
 refine Sep.ext Ae (uR ha) fun x=>?_
 unfold Qx
 rw [Ga,Wr (f:=fun x y=>x&&!y) rfl,yN,ybe,fT,Bool.not_eq_true',←Bool.not_eq_true,fT]
end Go.Fx.R
namespace Go.Fx.H
open Go Go.Fx Go.Proofs Go.Fx.R Go.RowKit
set_option maxRecDepth 20000
theorem oY {S:Nat→Prop} {w:World} {b:Nat}:∀ {l:List Int} {off:Nat},cI S w 1 b off (l.map encI)→∀ j (h:j<l.length),w.cell? ⟨b,off+j,none⟩=some (.int .i64 l[j])
 | [],_,_,j,h=>by simp at h
 | x::r,off,hr,j,h=>by
  obtain ⟨⟨_,⟨val,h1,h2⟩,_⟩,h3⟩:=hr
  cases j with
  | zero =>
   have:val=.int .i64 x:=h2.1
   subst this;exact h1
  | succ j =>
   have:=oY h3 j (by simpa using h)
   rw [show off+(j+1)=off+1+j by omega]
   exact this
theorem sD {S:Nat→Prop} {w:World} {b:Nat}:∀ {l:List Int} {off:Nat},(∀ j (h:j<l.length),w.cell? ⟨b,off+j,none⟩=some (.int .i64 l[j]))→cI S w 1 b off (l.map encI)
 | [],_,_=>trivial
 | x::r,off,h=>⟨⟨rfl,⟨_,h 0 (by simp),rfl,rfl⟩,trivial⟩,sD fun j hj=>by
   have:=h (j+1) (by simpa using hj)
   rw [show off+1+j=off+(j+1) by omega]
   exact this⟩
theorem aaG (l:List Int) (hl:l.length<4611686018427387904):OkN Tryz.prog 133 [.sl 0 0 l.length] [.arr 1 (l.map encI)] [] (IsA (.tup []) [.arr 1 ((srt l).map encI)]):=by
 refine ⟨cal Tryz.func133 (by kernel_rfl) (by kernel_rfl),?_⟩
 intro ρ X w vals hr ha
 match vals,ha with
 | [val],⟨hv,_⟩ =>
 obtain ⟨cap,h1,h2,h3⟩:=hv
 rcases h3 with ⟨h4,a,rfl⟩|⟨hre,rfl,hroom⟩
 ·have hl0:l=[]:=ybj.1 (by omega)
  subst hl0
  refine (Tryz.slices_Sort_int_none a 0 w).mono ?_
  rintro e w' ⟨rfl,rfl⟩
  exact ⟨_,.tup [],[.arr 1 []],ρ,rfl,⟨⟨rfl,by simp [srt]⟩,yaa _⟩,Fr.refl _ _,hr,⟨#[],rfl,trivial⟩,fun _ _ _=>rfl⟩
 ·have hb:=hr.blk 0 _ rfl
  obtain ⟨⟨hsz,_⟩,hb|⟨_,c,T,hc,hcs,hlen,hels⟩⟩:=hb
  ·rw [hb.1] at hre;cases hre
  have hoff:(ρ 0).off+0*(ρ 0).sz=(ρ 0).off:=by omega
  rw [hoff]
  rw [yag] at hlen
  have hg:=fun j hj=>oY hels j hj
  have hH:Sort.Holds (Value.int .i64) w (ρ 0).blk (ρ 0).off l.toArray:=by
   intro j hj
   have hj':j<l.length:=by simpa using hj
   refine ⟨?_,by simp [World.frozen?,hc]⟩
   rw [hg j hj']
   simp [hj']
  refine (Tryz.slices_Sort_int (ρ 0).blk (ρ 0).off cap l w hH (hr.lt 0 hre) hl).mono ?_
  rintro e w' ⟨rfl,n,os,rfl⟩
  have hbl:=hr.lt 0 hre
  have hsl:(srt l).length=l.length:=Ad
  have hw1:(Sort.grow (Sort.putRow (Value.int .i64) (Sort.ahead w n) (ρ 0).blk (ρ 0).off (srt l).toArray) os).heap[(ρ 0).blk]?=some (.cells (Sort.putCells (Value.int .i64) (ρ 0).off (srt l).toArray c) T (0,0)):=by
   simp only [Sort.grow,Sort.putRow,Sort.mapBlock,Sort.ahead]
   rw [ybz (by simpa using hbl),yaY,if_pos rfl,hc]
   rfl
  have hw2:∀ b,b<w.heap.size→b≠(ρ 0).blk→(Sort.grow (Sort.putRow (Value.int .i64) (Sort.ahead w n) (ρ 0).blk (ρ 0).off (srt l).toArray) os).heap[b]?=w.heap[b]?:=by
   intro b hb hne
   simp only [Sort.grow,Sort.putRow,Sort.mapBlock,Sort.ahead]
   rw [ybz (by simpa using hb),yaY,if_neg (fun h=>hne h.symm)]
  have hsize:w.heap.size≤(Sort.grow (Sort.putRow (Value.int .i64) (Sort.ahead w n) (ρ 0).blk (ρ 0).off (srt l).toArray) os).heap.size:=by
   simp [Sort.grow,Sort.putRow,Sort.mapBlock,Sort.ahead]
  have hfr:Fr ρ w ρ (Sort.grow (Sort.putRow (Value.int .i64) (Sort.ahead w n) (ρ 0).blk (ρ 0).off (srt l).toArray) os):=⟨rfl,rfl,rfl,hsize,fun b hb ho=>⟨hw2 b hb fun h=>ho ⟨0,hre,h.symm⟩,ho⟩⟩
  have hcell:∀ j (hj:j<l.length),(Sort.grow (Sort.putRow (Value.int .i64) (Sort.ahead w n) (ρ 0).blk (ρ 0).off (srt l).toArray) os).cell? ⟨(ρ 0).blk,(ρ 0).off+j,none⟩=some (.int .i64 ((srt l)[j]'(by rw [hsl];exact hj))):=by
   intro j hj
   have hjc:(ρ 0).off+j<c.size:=by rw [hcs];rw [hsz] at hroom;omega
   simp only [World.cell?,hw1]
   simp [Sort.putCells,hjc,hsl,hj]
  refine ⟨_,.tup [],[.arr 1 ((srt l).map encI)],ρ,rfl,⟨⟨rfl,rfl⟩,yaa _⟩,hfr,⟨hr.inj,hr.out,fun k b hk=>?_,hr.disj,fun k hk=>ybZ (hr.lt k hk) hsize,hr.xfr hfr⟩,⟨#[],rfl,trivial⟩,fun _ _ _=>rfl⟩
  cases k with
  | succ k=>simp at hk
  | zero =>
   simp only [yar,ybk] at hk
   subst hk
   refine ⟨⟨hsz,by omega⟩,.inr ⟨hre,_,T,hw1,by simp [Sort.putCells,hcs],by rw [yag,hsl];exact hlen,sD fun j hj=>?_⟩⟩
   rw [hsl] at hj
   exact hcell j hj
theorem aaF (l:List Int) (hl:l.length<4611686018427387904):OkN Tryz.prog 134 [.sl 0 0 l.length] [.arr 1 (l.map encI)] [] (IsA (.sl 0 0 (Lib.compact l).length) [.arr 1 ((Lib.compact l++yak (l.length-(Lib.compact l).length) 0).map encI)]):=by
 refine ⟨cal Tryz.func134 (by kernel_rfl) (by kernel_rfl),?_⟩
 intro ρ X w vals hr ha
 match vals,ha with
 | [val],⟨hv,_⟩ =>
 obtain ⟨cap,h1,h2,h3⟩:=hv
 rcases h3 with ⟨h4,a,rfl⟩|⟨hre,rfl,hroom⟩
 ·have hl0:l=[]:=ybj.1 (by omega)
  subst hl0
  refine (Tryz.slices_Compact_int_empty a 0 w).mono ?_
  rintro e w' ⟨rfl,rfl⟩
  refine ⟨_,.sl 0 0 0,[.arr 1 []],ρ,rfl,⟨⟨rfl,rfl⟩,yaa _⟩,Fr.refl _ _,hr,?_,fun _ _ _=>rfl⟩
  exact ⟨0,yaa _,yai _,.inl ⟨rfl,a,rfl⟩⟩
 ·have hb:=hr.blk 0 _ rfl
  obtain ⟨⟨hsz,_⟩,hb|⟨_,c,T,hc,hcs,hlen,hels⟩⟩:=hb
  ·rw [hb.1] at hre;cases hre
  have hoff:(ρ 0).off+0*(ρ 0).sz=(ρ 0).off:=by omega
  rw [hoff]
  rw [yag] at hlen
  have hg:=fun j hj=>oY hels j hj
  have hH:Sort.Holds (Value.int .i64) w (ρ 0).blk (ρ 0).off l.toArray:=by
   intro j hj
   have hj':j<l.length:=by simpa using hj
   refine ⟨?_,by simp [World.frozen?,hc]⟩
   rw [hg j hj']
   simp [hj']
  refine (Tryz.slices_Compact_int (ρ 0).blk (ρ 0).off cap l w hH (by omega) (by simpa using h1)).mono ?_
  rintro e w' ⟨rfl,q,rfl⟩
  have hbl:=hr.lt 0 hre
  generalize hL:Lib.compact l++yak (l.length-(Lib.compact l).length) 0=L
  have hsl:L.length=l.length:=by
   rw [←hL,yae,ybt]
   have:=uE (l:=l)
   omega
  have hw1:(Sort.putRow (Value.int .i64) (Sort.ahead w q) (ρ 0).blk (ρ 0).off L.toArray).heap[(ρ 0).blk]?=some (.cells (Sort.putCells (Value.int .i64) (ρ 0).off L.toArray c) T (0,0)):=by
   simp only [Sort.putRow,Sort.mapBlock,Sort.ahead]
   rw [yaY,if_pos rfl,hc]
   rfl
  have hw2:∀ b,b<w.heap.size→b≠(ρ 0).blk→(Sort.putRow (Value.int .i64) (Sort.ahead w q) (ρ 0).blk (ρ 0).off L.toArray).heap[b]?=w.heap[b]?:=by
   intro b hb hne
   simp only [Sort.putRow,Sort.mapBlock,Sort.ahead]
   rw [yaY,if_neg (fun h=>hne h.symm)]
  have hsize:w.heap.size≤(Sort.putRow (Value.int .i64) (Sort.ahead w q) (ρ 0).blk (ρ 0).off L.toArray).heap.size:=by
   simp [Sort.putRow,Sort.mapBlock,Sort.ahead]
  have hfr:Fr ρ w ρ (Sort.putRow (Value.int .i64) (Sort.ahead w q) (ρ 0).blk (ρ 0).off L.toArray):=⟨rfl,rfl,rfl,hsize,fun b hb ho=>⟨hw2 b hb fun h=>ho ⟨0,hre,h.symm⟩,ho⟩⟩
  have hcell:∀ j (hj:j<l.length),(Sort.putRow (Value.int .i64) (Sort.ahead w q) (ρ 0).blk (ρ 0).off L.toArray).cell? ⟨(ρ 0).blk,(ρ 0).off+j,none⟩=some (.int .i64 (L[j]'(by rw [hsl];exact hj))):=by
   intro j hj
   have hjc:(ρ 0).off+j<c.size:=by rw [hcs];rw [hsz] at hroom;omega
   simp only [World.cell?,hw1]
   simp [Sort.putCells,hjc,hsl,hj]
  refine ⟨_,.sl 0 0 (Lib.compact l).length,[.arr 1 (L.map encI)],ρ,rfl,⟨⟨rfl,rfl⟩,yaa _⟩,hfr,⟨hr.inj,hr.out,fun k b hk=>?_,hr.disj,fun k hk=>ybZ (hr.lt k hk) hsize,hr.xfr hfr⟩,?_,fun _ _ _=>rfl⟩
  ·cases k with
   | succ k=>simp at hk
   | zero =>
    simp only [yar,ybk] at hk
    subst hk
    refine ⟨⟨hsz,by omega⟩,.inr ⟨hre,_,T,hw1,by simp [Sort.putCells,hcs],by rw [yag,hsl];exact hlen,sD fun j hj=>?_⟩⟩
    rw [hsl] at hj
    exact hcell j hj
  ·have hcl:=uE (l:=l)
   exact ⟨cap,by omega,h2,.inr ⟨hre,by simp,hroom⟩⟩
end Go.Fx.H
