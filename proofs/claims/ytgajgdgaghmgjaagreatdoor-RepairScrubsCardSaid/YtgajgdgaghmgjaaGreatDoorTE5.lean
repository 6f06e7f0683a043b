import Derived.Test.YtgajgdgaghmgjaaGreatDoorKCode
import Derived.Test.YtgajgdgaghmgjaaGreatDoorKLow
import Derived.Sort.Walk0
import Derived.WalkKit
import Derived.BigCall
import Derived.Defers
import Derived.Recover
import Derived.Laws.Pointers
import Derived.Deep.RegionHeld3
import Derived.Deep.MidRow
import Derived.WalkSmall
import Derived.Laws.IdiomStrings
import Derived.Laws.AppendOwn
import Derived.Laws.Cover3
set_option linter.unusedVariables false
set_option linter.unusedSimpArgs false
set_option linter.unusedSectionVars false
open List renaming replicate → yaa, map → yac, range' → yae, take_of_length_le → yaf, length_append → yag, take → yah, set_cons_zero → yai, getElem?_eq_getElem → yak, map_cons → yal, setIfInBounds_toArray → yam, set_cons_succ → yan, getD_eq_getElem?_getD → yao, map_append → yap, append_assoc → yaq, append_nil → yar, drop → yas, length_map → yat, length_take → yau, length_cons → yaw, drop_of_length_le → yax, getElem?_append_right → yay, length_drop → yaA, set_append_right → yaB, getElem_map → yaC, mem_range'_1 → yaE, take_append_of_le_length → yaG, range → yaH, getElem?_append_left → yaI, length_nil → yaJ, map_take → yaL, getElem?_map → yaM, drop_left → yaN, map_map → yaO, mem_cons_self → yaP, mem_cons_of_mem → yaQ, not_mem_nil → yaR, map_nil → yaS, mem_map → yaV, nil_append → yaZ, range'_succ → yba, map_congr_left → ybb, map_drop → ybe, drop_append_of_le_length → ybf, all_cons → ybg, mem_cons → ybh, getElem?_cons_zero → ybj, cons_append → ybm, reverse_cons → ybn, reverse_nil → ybo, drop_zero → ybp, drop_eq_getElem_cons → ybq, mem_map_of_mem → ybr, map_set → ybu, mem_append → ybv, take_length → yby, drop_drop → ybA, take_succ_cons → ybB, drop_left' → ybD, take_left' → ybE, take_zero → ybI, getElem?_eq_none → ybK, replicate_succ → ybL, length_set → ybM, all_nil → ybN, flatten_cons → ybP, foldl_append → ybR, take_left → ybS, mapM_toArray → ybT, mapM_cons → ybU, mapM_nil → ybV, getElem?_range' → ybW, set_eq_take_append_cons_drop → yca, take_length_add_append → ycb, length_pos_iff → ycc, replicate_succ' → ycd, take_append_getElem → yce, flatten_append → ycf, length_singleton → ych
open BitVec renaming ofInt → yab, ofNat → yaF, toNat_ofNat → ybc, ofNat_toNat → ybs, setWidth_eq → ybt, eq_of_toNat_eq → ybH, toNat_ofInt → ybQ, ofInt_natCast → ybX, toNat_ushiftRight → ybY
open Nat renaming le_refl → yad, mul_one → yav, zero_le → yaz, zero_add → yaK, sub_self → ybi, le_trans → ybz, min_eq_left → ybG, add_assoc → ybJ, shiftRight_eq_div_pow → ybZ
open Int renaming toNat_natCast → yaj, toNat → yaD, natCast_nonneg → yaT, reduceToNat → yaY, fdiv_eq_ediv_of_nonneg → ybd, reduceLE → ybl, reduceLT → ybx, natCast_add → ybF
open Array renaming replicate → yaU, getD_eq_getD_getElem? → ybC, getElem?_setIfInBounds_ne → ycg
open Bool renaming eq_iff_iff → yaW, and_self → ybk, and_true → ybw
open Option renaming getD_some → yaX, map_some → ybO
namespace Go.Fx.K
open Go Go.Fx
abbrev W:=BitVec 32
abbrev w (x:W):V:=.v (.int .u32 (x.toNat:Int))
abbrev u8 (b:UInt8):V:=.v (.int .u8 (b.toNat:Int))
abbrev n64 (n:Nat):V:=.v (.int .u64 (n:Int))
theorem ofI (x:W):yab 32 (x.toNat:Int)=x:=by
 rw [ybX,ybs,ybt]
theorem wrapN (n:Nat):IntKind.u32.wrap (n:Int)=((yaF 32 n).toNat:Int):=by
 rw [ybc]
 simp [IntKind.wrap,IntKind.bits,IntKind.signed]
theorem Uj (x:W):IntKind.u32.wrap (x.toNat:Int)=(x.toNat:Int):=by
 rw [wrapN,ybs,ybt]
section
variable {x y:W} {K:V→Prop}
theorem Lj:cK .add false .u32 (x.toNat:Int) (y.toNat:Int) K=K (w (x+y)):=by
 show K (.v (.int .u32 (IntKind.u32.wrap (x.toNat+y.toNat))))=_
 rw [←ybF,wrapN,BitVec.ofNat_add,ybs,ybs,ybt,ybt]
theorem u5:cK .xor false .u32 (x.toNat:Int) (y.toNat:Int) K=K (w (x ^^^ y)):=by
 show K (.v (.int .u32 (IntKind.u32.wrap ((yab 32 (x.toNat:Int) ^^^ yab 32 (y.toNat:Int)).toNat:Int))))=_
 rw [ofI,ofI,Uj]
theorem Zd:cK .and false .u32 (x.toNat:Int) (y.toNat:Int) K=K (w (x &&& y)):=by
 show K (.v (.int .u32 (IntKind.u32.wrap ((yab 32 (x.toNat:Int) &&& yab 32 (y.toNat:Int)).toNat:Int))))=_
 rw [ofI,ofI,Uj]
theorem aeC:cK .or false .u32 (x.toNat:Int) (y.toNat:Int) K=K (w (x ||| y)):=by
 show K (.v (.int .u32 (IntKind.u32.wrap ((yab 32 (x.toNat:Int) ||| yab 32 (y.toNat:Int)).toNat:Int))))=_
 rw [ofI,ofI,Uj]
theorem ahY:x ^^^ (4294967295#32) = ~~~x:=by
 rw [show (4294967295#32)=BitVec.allOnes 32 from rfl,BitVec.xor_allOnes]
theorem ahP:cK .xor false .u32 (if IntKind.signed .u32 then -1 else IntKind.max .u32) (x.toNat:Int) K=K (w (~~~x)):=by
 have h:(if IntKind.signed .u32 then -1 else IntKind.max .u32:Int)=((4294967295#32).toNat:Int):=rfl
 rw [h,u5,BitVec.xor_comm,ahY]
theorem Zc {n:Nat} (hn:n≤32):cL .shl .u32 (x.toNat:Int) (n:Int) K=K (w (x <<< n)):=by
 have h:cL .shl .u32 (x.toNat:Int) (n:Int) K=(0≤(n:Int)∧K (.v (.int .u32 (IntKind.u32.wrap (x.toNat*2 ^ (min (n:Int).toNat 32)))))):=rfl
 rw [h,yaj,ybG hn]
 have e:((x.toNat:Int)*2 ^ n)=((x.toNat*2 ^ n:Nat):Int):=by simp
 rw [e,wrapN]
 have e2:yaF 32 (x.toNat*2 ^ n)=x <<< n:=by
  apply ybH
  rw [ybc,BitVec.toNat_shiftLeft,Nat.shiftLeft_eq]
 rw [e2]
 exact propext ⟨fun h=>h.2,fun h=>⟨yaT n,h⟩⟩
theorem Li {n:Nat} (hn:n≤32):cL .shr .u32 (x.toNat:Int) (n:Int) K=K (w (x >>> n)):=by
 have h:cL .shr .u32 (x.toNat:Int) (n:Int) K=(0≤(n:Int)∧K (.v (.int .u32 (Int.fdiv (x.toNat:Int) (2 ^ (min (n:Int).toNat 32)))))):=rfl
 rw [h,yaj,ybG hn]
 have e:Int.fdiv (x.toNat:Int) (2 ^ n)=((x >>> n).toNat:Int):=by
  have h2:(2:Int) ^ n=((2 ^ n:Nat):Int):=by simp
  rw [ybY,ybZ,h2,ybd _ (yaT _),Int.natCast_ediv]
 rw [e]
 exact propext ⟨fun h=>h.2,fun h=>⟨yaT n,h⟩⟩
end
def rr (x:W) (n:Nat):W:=(x >>> n) ||| (x <<< (32-n))
theorem ajW:∀ n:Fin 32,n.val≠0→IntKind.u64.wrap (-(n.val:Int))=18446744073709551616-n.val:=by decide
theorem ajV:∀ n:Fin 32,n.val≠0→(IntKind.u64.wrap ((yab 64 (18446744073709551616-(n.val:Int)) &&& yab 64 31).toNat:Int))=((32-n.val:Nat):Int):=by decide
structure S8 where
 a:W
 b:W
 c:W
 d:W
 e:W
 f:W
 g:W
 h:W
def S8.l (s:S8):List W:=[s.a,s.b,s.c,s.d,s.e,s.f,s.g,s.h]
def S8.enc (s:S8):List V:=[w s.a,w s.b,w s.c,w s.d,w s.e,w s.f,w s.g,w s.h]
def S8.add (s t:S8):S8:=⟨s.a+t.a,s.b+t.b,s.c+t.c,s.d+t.d,s.e+t.e,s.f+t.f,s.g+t.g,s.h+t.h⟩
def t1 (s:S8) (k x:W):W:=s.h+(rr s.e 6 ^^^ rr s.e 11 ^^^ rr s.e 25)+((s.e &&& s.f) ^^^ (~~~s.e &&& s.g))+k+x
def t2 (s:S8):W:=(rr s.a 2 ^^^ rr s.a 13 ^^^ rr s.a 22)+((s.a &&& s.b) ^^^ (s.a &&& s.c) ^^^ (s.b &&& s.c))
def S8.rnd (s:S8) (k x:W):S8:=⟨t1 s k x+t2 s,s.a,s.b,s.c,s.d+t1 s k x,s.e,s.f,s.g⟩
def kW (i:Nat):W:=yaF 32 (Pf.getD i 0)
def Cg (ws:Nat→W) (s:S8):Nat→S8
 | 0=>s
 | i+1=>(Cg ws s i).rnd (kW i) (ws i)
def B32 (b:UInt8):W:=b.toBitVec.setWidth 32
theorem anO (b:UInt8):(B32 b).toNat=b.toNat:=by
 unfold B32
 rw [BitVec.toNat_setWidth]
 have:b.toBitVec.toNat=b.toNat:=rfl
 rw [this]
 have:=b.toNat_lt
 omega
theorem ahO {x:W} {b:UInt8} {K:V→Prop}:cK .or false .u32 (x.toNat:Int) (b.toNat:Int) K=K (w (x ||| B32 b)):=by
 rw [show (b.toNat:Int)=((B32 b).toNat:Int) by rw [anO],aeC]
def word (b0 b1 b2 b3:UInt8):W:=(B32 b0 <<< 24) ||| (B32 b1 <<< 16) ||| (B32 b2 <<< 8) ||| B32 b3
theorem aaD (b0 b1 b2 b3:UInt8):(((((0#32 <<< 8 ||| B32 b0) <<< 8) ||| B32 b1) <<< 8 ||| B32 b2) <<< 8 ||| B32 b3)=word b0 b1 b2 b3:=by
 unfold word
 have h:(0#32 <<< 8 ||| B32 b0)=B32 b0:=by simp
 rw [h]
 simp only [BitVec.shiftLeft_or_distrib,←BitVec.shiftLeft_add]
def wn (l:List W) (i:Nat):W:=l.getD i 0
def next (ws:List W):W :=
 let i:=ws.length
 let x:=wn ws (i-15)
 let y:=wn ws (i-2)
 wn ws (i-16)+(rr x 7 ^^^ rr x 18 ^^^ (x >>> 3))+wn ws (i-7)+(rr y 17 ^^^ rr y 19 ^^^ (y >>> 10))
def bn (bs:List UInt8) (i:Nat):UInt8:=bs.getD i 0
def y0 (bs:List UInt8) (i:Nat):W:=word (bn bs (4*i)) (bn bs (4*i+1)) (bn bs (4*i+2)) (bn bs (4*i+3))
def wds (bs:List UInt8):Nat→List W
 | 0=>[]
 | i+1=>wds bs i++[if i<16 then y0 bs i else next (wds bs i)]
theorem gS (bs:List UInt8):∀ i,(wds bs i).length=i
 | 0=>rfl
 | i+1=>by simp [wds,gS bs i]
def hU (bs:List UInt8) (i:Nat):List W:=wds bs i++yaa (64-i) 0
def comp (s:S8) (bs:List UInt8):S8:=s.add (Cg (fun i=>wn (wds bs 64) i) s 64)
def iv:S8:=⟨1779033703,3144134277,1013904242,2773480762,1359893119,2600822924,528734635,1541459225⟩
def ws (l:List W):List V:=l.map w
theorem Jj {l:List W}:(ws l).length=l.length:=by simp [ws]
theorem ahZ {l:List W}:(ws l).all isC=true:=by simp [ws,isC,isD]
theorem iF {l:List W} {q:List Blk}:wfL q (ws l):=by
 unfold ws
 induction l with
 | nil=>trivial
 | cons x r ih=>exact ⟨trivial,ih⟩
theorem aaB {l:List W} {n:Nat}:(ws l).take n=ws (l.take n):=by simp [ws,yaL]
theorem aaC {l:List W} {n:Nat}:(ws l).drop n=ws (l.drop n):=by simp [ws,ybe]
theorem aeQ {l:List W} {f:Nat→Option Nat}:bZ f (ws l)=ws l:=by
 unfold ws
 induction l with
 | nil=>rfl
 | cons x r ih=>exact congrArg (w x::·) ih
theorem aeP {l:List W} {i:Nat} {x:W} (hi:i<l.length):(ws l).take i++w x::(ws l).drop (i+1)=ws (l.set i x):=by
 unfold ws
 rw [ybu,yca,if_pos (by simpa using hi)]
theorem Uh {l:List W} {i:Nat} {x:W} (hi:i<l.length):(ws l).take i++[w x]++(ws l).drop (i+1)=ws (l.set i x):=by
 rw [←aeP hi]
 simp
theorem Ii {l:List W} {i:Nat} (hi:i<l.length):(ws l)[i]?=some (w (wn l i)):=by
 unfold ws wn
 rw [yaM,yak hi,yao,yak hi]
 rfl
def z64:List W:=yaa 64 0
theorem Cn:z64.length=64:=rfl
theorem w0:yac V.v (yaU 64 (Value.int IntKind.u32 0)).toList=ws z64:=rfl
theorem aiA {l:List W} (h:l.length=64):(ws l).take 64=ws l:=by rw [aaB,yaf (by omega)]
theorem adA {l:List W} (h:l.length=64):(ws l).drop 64=[]:=by rw [aaC,yax (by omega)];rfl
attribute [irreducible] ws z64
def by1 (b:UInt8):List V:=[u8 b]
theorem pI {b:UInt8}:(by1 b).length=1:=rfl
theorem uG {b:UInt8}:(by1 b)[0]?=some (u8 b):=rfl
end Go.Fx.K
namespace Go.Fx.K
open Go Go.Fx
abbrev Bs:=List UInt8
def pK (s:S8) (m:Bs):Nat→S8
 | 0=>s
 | k+1=>comp (pK s m k) ((m.drop (64*k)).take 64)
theorem u6 {s:S8} {m c:Bs}:∀ {k:Nat},64*k≤m.length→pK s (m++c) k=pK s m k
 | 0,_=>rfl
 | k+1,h=>by
  rw [pK,pK,u6 (by omega),ybf (by omega),yaG (by simp;omega)]
structure Stm where
 st:S8
 blk:Bs
 n:Nat
structure Rp (S:Stm) (m:Bs):Prop where
 n:S.n=m.length
 len:S.blk.length=64
 st:S.st=pK iv m (m.length/64)
 blk:S.blk.take (m.length%64)=m.drop (64*(m.length/64))
def nZ (blk c:Bs) (j:Nat):Bs:=blk.take j++c++blk.drop (j+c.length)
theorem Ml {blk c:Bs} {j:Nat} (h:j+c.length≤blk.length):(nZ blk c j).length=blk.length:=by
 unfold nZ;simp;omega
theorem Rp.step {S:Stm} {m c:Bs} (h:Rp S m) (hc:S.n%64+c.length≤64) :
  Rp ⟨if S.n%64+c.length=64 then comp S.st (nZ S.blk c (S.n%64)) else S.st,nZ S.blk c (S.n%64),S.n+c.length⟩ (m++c):=by
 have hn:=h.n
 have hl:=h.len
 have hb:=h.blk
 have hdl:(m.drop (64*(m.length/64))).length=m.length%64:=by rw [yaA];omega
 rw [hn] at hc ⊢
 have hpl:(nZ S.blk c (m.length%64)).length=64:=by rw [Ml (by omega),hl]
 have htk:(nZ S.blk c (m.length%64)).take (m.length%64+c.length)=m.drop (64*(m.length/64))++c:=by
  unfold nZ
  rw [hb,yaG (by rw [yag,hdl];exact yad _),yaf (by rw [yag,hdl];exact yad _)]
 by_cases h64:m.length%64+c.length=64
 ·have e1:(m++c).length/64=m.length/64+1:=by rw [yag];omega
  have e2:(m++c).length%64=0:=by rw [yag];omega
  refine ⟨by simp,hpl,?_,?_⟩
  ·simp only [if_pos h64]
   rw [e1,pK,u6 (by omega),h.st]
   congr 1
   rw [ybf (by omega),←htk,h64,List.take_take,Nat.min_self,yaf (by omega)]
  ·rw [e2,e1]
   simp only [ybI]
   rw [yax (by rw [yag];omega)]
 ·have e1:(m++c).length/64=m.length/64:=by rw [yag];omega
  have e2:(m++c).length%64=m.length%64+c.length:=by rw [yag];omega
  refine ⟨by simp,hpl,?_,?_⟩
  ·simp only [if_neg h64]
   rw [e1,u6 (by omega),h.st]
  ·rw [e1,e2]
   show (nZ S.blk c (m.length%64)).take _=_
   rw [htk,ybf (by omega)]
def len8 (n:Nat):Bs:=(yaH 8).map fun i=>UInt8.ofNat (8*n/2 ^ (56-8*i))
def zeros (n:Nat):Nat:=(119-n%64)%64
def pad (n:Nat):Bs:=128::(yaa (zeros n) 0++len8 n)
theorem Ud (n:Nat):(n+1+zeros n)%64=56:=by unfold zeros;omega
def aiE (m:Bs):S8:=pK iv (m++pad m.length) ((m++pad m.length).length/64)
def Jy (s:S8) (i:Nat):UInt8:=UInt8.ofNat ((wn s.l (i/4)).toNat/2 ^ (24-8*(i%4)))
def sha (m:Bs):Bs:=(yaH 32).map (Jy (aiE m))
def sC (st:S8) (blk:Bs) (n:Nat):List V:=st.enc++(blk.map u8++[n64 n])
section
variable {s:S8} {b:Bs} {n:Nat}
theorem eT (h:b.length=64):(sC s b n).length=73:=by simp [sC,S8.enc,h]
theorem y7 (h:b.length=64):(b.map u8).length=64:=by simpa using h
theorem aaP (h:b.length=64):(sC s b n)[72]?=some (n64 n):=by
 unfold sC
 rw [yay (by simp [S8.enc]),yay (by simp [S8.enc,h])]
 simp [S8.enc,h]
theorem aiI:(sC s b n).take 8=s.enc:=by
 unfold sC
 rw [yaG (by simp [S8.enc]),yaf (by simp [S8.enc])]
theorem afH {m:Nat} (h:b.length=64):(sC s b n).take 72++[n64 m]++(sC s b n).drop 73=sC s b m:=by
 rw [yax (by rw [eT h];exact yad _),yar]
 unfold sC
 rw [show (72:Nat)=s.enc.length+64 from rfl,ycb,yaG (by rw [y7 h];exact yad _),yaf (by rw [y7 h];exact yad _),yaq]
theorem afG {t:S8}:t.enc++(sC s b n).drop 8=sC t b n:=by
 unfold sC
 rw [show (8:Nat)=s.enc.length from rfl,yaN]
theorem aaQ {c:Bs} {j:Nat} (h:b.length=64) (hj:j+c.length≤64):(sC s b n).take (8+j)++c.map u8++(sC s b n).drop (8+j+c.length)=sC s (nZ b c j) n:=by
 unfold sC nZ
 have e8:(8:Nat)=s.enc.length:=rfl
 rw [show 8+j=s.enc.length+j from rfl,ycb,ybJ,List.drop_length_add_append]
 rw [yaG (by simp;omega),ybf (by simp;omega)]
 simp [yaL,ybe,yaq]
theorem aaO (h:b.length=64):(((sC s b n).drop 8).take 64).map (fun c=>[c])=b.map by1:=by
 unfold sC
 rw [show (8:Nat)=s.enc.length from rfl,yaN,yaG (by rw [y7 h];exact yad _),yaf (by rw [y7 h];exact yad _),yaO]
 rfl
theorem Vn (h:b.length=64):(((sC s b n).drop 8).take 64).all isD=true:=by
 unfold sC
 rw [show (8:Nat)=s.enc.length from rfl,yaN,yaG (by rw [y7 h];exact yad _),yaf (by rw [y7 h];exact yad _)]
 simp [isD]
theorem aaR:(sC s b n).all isC=true:=by simp [sC,S8.enc,isC,isD]
theorem lD {q:List Blk}:wfL q (sC s b n):=by
 have:∀ l:List V,l.all isD=true→wfL q l:=by
  intro l
  induction l with
  | nil=>intro _;trivial
  | cons x r ih =>
   intro h
   simp only [ybg,Bool.and_eq_true] at h
   refine ⟨?_,ih h.2⟩
   cases x<;>simp [isD] at h<;>trivial
 exact this _ (by simp [sC,S8.enc,isD])
theorem mC (h:b.length=64):(sC s b n).take 73=sC s b n:=yaf (by rw [eT h];exact yad _)
theorem Dv (h:b.length=64):(sC s b n).drop 73=[]:=yax (by rw [eT h];exact yad _)
theorem Cs {f:Nat→Option Nat}:bZ f (sC s b n)=sC s b n:=by
 have:∀ l:List V,l.all isD=true→(∀ x∈l,∃ u,x=.v u)→bZ f l=l:=by
  intro l
  induction l with
  | nil=>intro _ _;rfl
  | cons x r ih =>
   intro h hx
   obtain ⟨u,rfl⟩:=hx x yaP
   simp only [ybg,Bool.and_eq_true] at h
   show V.v u::bZ f r=_
   rw [ih h.2 fun y hy=>hx y (yaQ _ hy)]
 refine this _ (by simp [sC,S8.enc,isD]) ?_
 intro x hx
 simp only [sC,S8.enc,ybv,yaV,ybh,yaR,or_false] at hx
 rcases hx with (rfl|rfl|rfl|rfl|rfl|rfl|rfl|rfl)|⟨u,_,rfl⟩|rfl<;>exact ⟨_,rfl⟩
end
attribute [irreducible] sC
end Go.Fx.K

namespace Go.Fx.R
abbrev Sp:=Int × Int
def arE (s t:Sp):List Sp:=(if min t.2 s.1≤t.1 then [] else [(t.1,min t.2 s.1)])++(if t.2≤max t.1 s.2 then [] else [(max t.1 s.2,t.2)])
def cutS (l:List Sp) (s:Sp):List Sp:=if s.2≤s.1 then l else l.flatMap (arE s)
end Go.Fx.R
namespace Go.Fx.K
open Go Go.Fx Go.Proofs Go.Fx.R
abbrev Ok (f:FuncId) (xs:List V) (R:V→List Blk→Prop):Prop:=OkN Tryz.prog f xs [] [] R
theorem bO {f:FuncId} {l0 l:LCode} {rs:List eK} {nt:Nat} (hl:rlF Tryz.prog f l0=some (l,rs,nt)) {args:List V} {R:V→List Blk→Prop} (hlen:args.length≤nt)
  (h:aw (cxN Tryz.prog []) l (dD [] 0 rs R) (fun _ _=>False) (dD [] 0 rs R) ⟨aO 0 args,[],0⟩):Ok f args R :=
 cO pol [] hl hlen trivial (fun k hk=>by simp at hk) h
theorem asP {a c:Int} {K:V→Prop} {x:Bool}:cK .and x .u64 a c K=K (.v (.int .u64 (IntKind.u64.wrap ((yab 64 a &&& yab 64 c).toNat:Int)))):=rfl
theorem aoO:Lv 0 64=some Ch:=by kernel_rfl
def sb (l:Bs):ByteArray:=⟨l.toArray⟩
abbrev sv (l:Bs):V:=.v (.string (sb l))
theorem bP {l:Bs}:(sb l).size=l.length:=rfl
theorem dZ {l:Bs}:(sb l).toList=l:=(ByteArray.toList_eq _).trans rfl
theorem uP {l:Bs} {j:Nat}:(sb l)[j]?=l[j]?:=by
 by_cases h:j<l.length
 ·rw [yak h]
  exact getElem?_pos (sb l) j h
 ·rw [ybK (by omega)]
  exact getElem?_neg (sb l) j h
theorem aiH {b:ByteArray}:∃ l,b=sb l:=⟨b.data.toList,by cases b;simp [sb]⟩
theorem less {a b:Bs}:Op.bytesLess a b=decide (a<b):=bytesLess_eq a b
theorem dC:Value.string ⟨#[]⟩=.string (sb []):=rfl
theorem cN {l:Bs} {a b:Nat}:(sb l).extract a b=sb ((l.take b).drop a):=by
 apply ByteArray.ext
 show ((sb l).extract a b).data=_
 rw [ByteArray.data_extract]
 apply Array.ext'
 simp [sb,Array.toList_extract,List.extract,List.drop_take]
theorem Fi {h:List Blk}:aD [] h=True:=rfl
theorem Gk {cx:Cx} {f:FuncId} {args:List V} {e:Env} {h:List Blk} {b:Nat} {K:V→St→Prop} {G:Type} (Q:G→Prop) (xs:List V) (x:G→V) (hC:cx.C f xs [] [] (IsQ Q x (fun _=>[])))
  (h1:aE h (fun _=>none) args∧wkL xs (aL h (fun _=>none) args)) (hx:∀ g,ren (fun j=>some (h.length+j)) (x g)=x g) (keep:aD cx.fx h) (h3:∀ g,Q g→K (x g) ⟨e,h,b⟩):aR cx f args ⟨e,h,b⟩ K:=by
 refine u4 xs _ h1 hC ?_
 rintro r h' ⟨g,hg,rfl,rfl⟩
 simp only [yaS,yar]
 exact ⟨keep,by rw [hx];exact h3 g hg⟩
theorem gA {fx:List Nat} {f:(St→Prop)→St→Prop} {s:St} {G:Type} (pat:G→St) (I:G→Prop) (μ:G→Nat) (g:G) (h0:I g) (h1:leS fx s (pat g))
  (h:∀ g,I g→∀ N:St→Prop,(∀ s' g',I g'→μ g'<μ g→leS fx s' (pat g')→N s')→f N (pat g)):Ew fx f s :=
 cX pat I μ g h0 h1 fun g hg=>h g hg _ fun s' g' a b c=>⟨g',⟨a,b⟩,c⟩
def enS (s:Sp):List V:=[.i s.1,.i s.2]
def encI (x:Int):List V:=[.i x]
abbrev adF (l:List Sp):V:=.ro 2 (l.map enS)
theorem pE {s:Sp}:(enS s).length=2:=rfl
theorem lN {s:Sp}:yah 2 (enS s)=enS s:=rfl
theorem Gb {s:Sp}:(enS s)[0]?=some (.i s.1):=rfl
theorem Ga {s:Sp}:(enS s)[1]?=some (.i s.2):=rfl
theorem Fz {s:Sp}:(enS s).all isC=true:=rfl
theorem Fy {s:Sp}:(enS s).all isD=true:=rfl
theorem lQ {s:Sp}:yas 2 (enS s)=[]:=rfl
theorem lO {s:Sp} {M:List Nat}:bD M (enS s)=enS s:=rfl
theorem lJ {x:Int}:(encI x).length=1:=rfl
theorem lK {x:Int}:(encI x)[0]?=some (.i x):=rfl
theorem fD {x:Int}:yas 1 (encI x)=[]:=rfl
def enL (a:List Sp):List V:=[adF a]
theorem pF {a:List Sp}:(enL a).length=1:=rfl
theorem Gc {a:List Sp}:(enL a)[0]?=some (adF a):=rfl
theorem lR {a:List Sp}:yas 1 (enL a)=[]:=rfl
theorem Ft {s t:Sp} {K:Bool→Prop}:(cW (mP (V.agg (enS s))) fun xs=>cW (mP (V.agg (enS t))) fun ys=>dU xs ys [(0,TypeDesc.int IntKind.i64),(1,TypeDesc.int IntKind.i64)] K)=K (s==t):=by
 have e:(s.1==t.1&&(s.2==t.2&&true))=(s==t):=by
  obtain ⟨a,b⟩:=s
  obtain ⟨c,d⟩:=t
  rw [yaW]
  simp
 apply propext
 rw [←e]
 constructor
 ·exact fun h=>h.2.2
 ·exact fun h=>⟨⟨rfl,rfl⟩,⟨rfl,rfl⟩,h⟩
theorem ajU:∀ n:Fin 32,n.val≠0→IntKind.u64.wrap (32-((32-n.val:Nat):Int))=(n.val:Int):=by decide
theorem Eo (x:W) (n:Nat) (h:1≤n∧n≤31):Ok 142 [w x,.i (-(n:Int))] (Is (w (rr x n))):=by
 have ra:=ajW ⟨n,by omega⟩ (by simp;omega)
 have rb:=ajV ⟨n,by omega⟩ (by simp;omega)
 have rc:=ajU ⟨n,by omega⟩ (by simp;omega)
 simp only at ra rb rc
 refine bO lw142 (by simp) ?_
 unfold c142
 have s1:∀ {K:V→Prop},cL .shl .u32 (x.toNat:Int) ((32-n:Nat):Int) K=K (w (x <<< (32-n))):=Zc (by omega)
 have s2:∀ {K:V→Prop},cL .shr .u32 (x.toNat:Int) (n:Int) K=K (w (x >>> n)):=Li (by omega)
 simp -implicitDefEqProofs only [rX,↓rY,aA,↓reduceIte,Nat.reduceEqDiff,reduceCtorEq,aY,a7,wfV,cxN,aO,↓asP,ra,rb,rc,↓s1,↓s2,↓aeC]
 unfold rr
 rw [BitVec.or_comm]
theorem Kf {a:Nat} (h:a≤31):IntKind.i64.wrap (-(a:Int))=-(a:Int):=by
 have:=(show ∀ n:Fin 32,IntKind.i64.wrap (-(n.val:Int))=-(n.val:Int) by decide) ⟨a,by omega⟩
 simpa using this
theorem adO (x:W) (a b c:Nat) (ha:1≤a∧a≤31) (hb:1≤b∧b≤31) (hc:1≤c∧c≤31):Ok 129 [w x,.i a,.i b,.i c] (Is (w (rr x a ^^^ rr x b ^^^ rr x c))):=by
 refine bO lw129 (by simp) ?_
 unfold c129
 simp -implicitDefEqProofs only [rX,aA,↓reduceIte,Nat.reduceEqDiff,Nat.reduceAdd,reduceCtorEq,cxN,aO,Kf ha.2,Kf hb.2,Kf hc.2]
 refine aJ (Eo x a ha) (by simp [aE,aG,aL,a6,wkL,wk,wkR]) rfl trivial ?_
 simp -implicitDefEqProofs only [rX,↓reduceIte,Nat.reduceEqDiff,reduceCtorEq,Kf hb.2,Kf hc.2]
 refine aJ (Eo x b hb) (by simp [aE,aG,aL,a6,wkL,wk,wkR]) rfl trivial ?_
 simp -implicitDefEqProofs only [rX,↓reduceIte,Nat.reduceEqDiff,reduceCtorEq,Kf hb.2,Kf hc.2,↓u5]
 refine aJ (Eo x c hc) (by simp [aE,aG,aL,a6,wkL,wk,wkR]) rfl trivial ?_
 simp -implicitDefEqProofs only [rX,↓reduceIte,Nat.reduceEqDiff,aY,a7,wfV,Kf hb.2,Kf hc.2,↓u5]
set_option maxRecDepth 20000
theorem Dp (bs:List UInt8) {i:Nat} (hi:i≤64):(hU bs i).length=64:=by
 unfold hU
 rw [yag,gS,List.length_replicate]
 omega
theorem aeW (bs:List UInt8):hU bs 0=z64:=by unfold hU z64;rfl
theorem aaK (bs:List UInt8):hU bs 64=wds bs 64:=by simp [hU]
theorem Uu (bs:List UInt8) {i:Nat} (hi:i<64) (x:W) (hx:x=if i<16 then y0 bs i else next (wds bs i)):(hU bs i).set i x=hU bs (i+1):=by
 unfold hU
 rw [yaB _ _ (by rw [gS];exact yad _),gS,ybi,show 64-i=(64-(i+1))+1 by omega,ybL,yai]
 subst hx
 simp [wds]
theorem vG (bs:List UInt8) {i j:Nat} (hi:i≤64) (hj:j<i):wn (hU bs i) j=wn (wds bs i) j:=by
 unfold hU wn
 rw [yao,yao,yaI (by rw [gS];exact hj)]
def part (bs:List UInt8) (i:Nat):Nat→W
 | 0=>0
 | j+1=>part bs i j <<< 8 ||| B32 (bn bs (4*i+j))
theorem afT (bs:List UInt8) (i:Nat):part bs i 4=y0 bs i:=by
 unfold y0
 rw [←aaD]
 rfl
def oW (bs:List UInt8) (i j:Nat):List W:=(hU bs i).set i (part bs i j)
theorem aeX (bs:List UInt8) {i:Nat} (hi:i<64):oW bs i 0=hU bs i:=by
 unfold oW hU
 rw [yaB _ _ (by rw [gS];exact yad _),gS,ybi,show 64-i=(64-(i+1))+1 by omega,ybL,yai]
 rfl
theorem Uw (bs:List UInt8) {i j:Nat} (hi:i≤64):(oW bs i j).length=64:=by
 unfold oW
 rw [ybM,Dp bs hi]
theorem Ux (bs:List UInt8) {i j:Nat} (hi:i<64):wn (oW bs i j) i=part bs i j:=by
 unfold oW wn
 rw [yao,List.getElem?_set_self (by rw [Dp bs (by omega)];exact hi)]
 rfl
theorem Uv (bs:List UInt8) {i j:Nat} (x:W) (hx:x=part bs i (j+1)):(oW bs i j).set i x=oW bs i (j+1):=by
 unfold oW
 rw [List.set_set,hx]
abbrev byV (bs:List UInt8):V:=.bro 1 (bs.map by1)
set_option maxHeartbeats 1000000 in
theorem alL (bs:List UInt8) (hb:bs.length=64):Ok 128 [byV bs] (Is (.agg (ws (wds bs 64)))):=by
 refine bO lw128 (by simp) ?_
 unfold c128
 simp -implicitDefEqProofs only [rX,↓rY,aA,cells?,Nat.reduceAdd,aF,cxN,aO,w0]
 have lW:(wds bs 64).length=64:=gS bs 64
 refine gA (fun i:Nat=>(⟨[(11,.i i),(3,.ptr 1 0 0),(2,.ptr 0 0 0),(0,byV bs)],[.var (ws z64),.var (ws (hU bs i))],2⟩:St)) (fun i=>i≤64) (fun i=>64-i) 0 (yaz _) ?_ ?_
 ·rw [aeW]
  exact ⟨by simp -implicitDefEqProofs only [rX,↓reduceIte,Nat.reduceEqDiff,reduceCtorEq,leE];rfl,aU _,trivial,by simp -implicitDefEqProofs only [rX,aC,wfE,wfV],⟨iF,iF,trivial⟩⟩
 intro i hi N hN
 simp only [c128l0]
 simp -implicitDefEqProofs only [rX,↓rY,aA,cells?,splice,↓reduceIte,Nat.reduceEqDiff,Nat.reduceAdd,reduceCtorEq,bN,aY,a7,wfV,yav]
 cases h1:decide ((i:Int)<64) with
 | false =>
  have h1':=of_decide_eq_false h1
  have:i=64:=by omega
  subst this
  simp -implicitDefEqProofs only [rX,↓rY,aaK,Jj,aiA lW,lW,Cn,adA Cn,ahZ,iF]
 | true =>
  have h1':=of_decide_eq_true h1
  have hi64:i<64:=by omega
  have lT:(hU bs i).length=64:=Dp bs hi
  have fin:∀ (x:W) (e:Env),x=(if i<16 then y0 bs i else next (wds bs i))→get e 3=.ptr 1 0 0→get e 2=.ptr 0 0 0→get e 0=byV bs →
    N (⟨(11,.i ((i:Int)+1))::e,[.var (ws z64),.var (ws ((hU bs i).set i x))],2⟩:St):=by
   intro x e hx e3 e2 e0
   refine hN _ (i+1) (by omega) (by omega) ?_
   rw [Uu bs hi64 x hx]
   exact ⟨by simp -implicitDefEqProofs only [rX,↓reduceIte,Nat.reduceEqDiff,reduceCtorEq,leE,e3,e2,e0];simp,aU _,trivial,by simp -implicitDefEqProofs only [rX,aC,wfE,wfV],⟨iF,iF,trivial⟩⟩
  have sp:∀ x:W,yah i (ws (hU bs i))++[w x]++yas (i+1) (ws (hU bs i))=ws ((hU bs i).set i x):=fun x=>Uh (by omega)
  simp -implicitDefEqProofs only [↓rY]
  cases h2:decide ((i:Int)<16) with
  | true =>
   have h2':=of_decide_eq_true h2
   have h4:yah ((4*(i:Int)+4).toNat-(4*(i:Int)).toNat) (yas (4*(i:Int)).toNat (yac by1 bs))=((bs.drop (4*i)).take 4).map by1:=by
    rw [show (4*(i:Int)+4).toNat-(4*(i:Int)).toNat=4 by omega,show (4*(i:Int)).toNat=4*i by omega,yaL,ybe]
   have l4:((bs.drop (4*i)).take 4).length=4:=by simp;omega
   have a1:(lo IntKind.i64≤4*(i:Int)∧4*(i:Int)≤Fx.hi IntKind.i64):=by simp only [lo,Fx.hi];omega
   have a2:(lo IntKind.i64≤4*(i:Int)+4∧4*(i:Int)+4≤Fx.hi IntKind.i64):=by simp only [lo,Fx.hi];omega
   have a3:((0≤4*(i:Int)∧4*(i:Int)≤4*(i:Int)+4)∧4*(i:Int)+4≤(bs.length:Int)∧(bs.length:Int)≤(bs.length:Int)):=by omega
   simp -implicitDefEqProofs only [rX,↓rY,h4,l4,eq_true a1,eq_true a2,eq_true a3]
   intro _
   refine gA (fun j:Nat=>(⟨[(24,.i j),(23,.i 4),(22,.bro 1 (((bs.drop (4*i)).take 4).map by1)),(4,.i i),(11,.i i),(3,.ptr 1 0 0),(2,.ptr 0 0 0),(0,byV bs)],[.var (ws z64),.var (ws (oW bs i j))],2⟩:St)) (fun j=>j≤4) (fun j=>4-j) 0 (yaz _) ?_ ?_
   ·rw [aeX bs hi64]
    exact ⟨by simp -implicitDefEqProofs only [rX,↓reduceIte,Nat.reduceEqDiff,reduceCtorEq,leE];exact ⟨rfl,rfl⟩,aU _,trivial,by simp -implicitDefEqProofs only [rX,aC,wfE,wfV],⟨iF,iF,trivial⟩⟩
   intro j hj M hM
   have lP:(oW bs i j).length=64:=Uw bs hi
   simp only [c128l1]
   simp -implicitDefEqProofs only [rX,↓rY,aA,cells?,splice,↓reduceIte,Nat.reduceEqDiff,Nat.reduceAdd,yaC,yaj,uG,yav]
   cases h3:decide ((j:Int)<4) with
   | false =>
    have h3':=of_decide_eq_false h3
    have:j=4:=by omega
    subst this
    have hq:oW bs i 4=(hU bs i).set i (y0 bs i):=by unfold oW;rw [afT]
    simp -implicitDefEqProofs only [↓rY,hq]
    exact ⟨by simp only [lo,Fx.hi];omega,fin _ _ (by rw [if_pos (by omega)]) rfl rfl rfl⟩
   | true =>
    have h3':=of_decide_eq_true h3
    have hj4:j<4:=by omega
    have hg:((bs.drop (4*i)).take 4)[j]'(by omega)=bn bs (4*i+j):=by
     unfold bn
     rw [List.getElem_take,List.getElem_drop,yao,yak (by omega)]
     rfl
    have s8:∀ {x:W} {K:V→Prop},cL .shl .u32 (x.toNat:Int) 8 K=K (w (x <<< 8)):=fun {x K}=>Zc (n:=8) (by omega)
    have gi:(ws (oW bs i j))[i]?=some (w (part bs i j)):=by rw [Ii (by omega),Ux bs hi64]
    have spP:∀ x:W,yah i (ws (oW bs i j))++[w x]++yas (i+1) (ws (oW bs i j))=ws ((oW bs i j).set i x):=fun x=>Uh (by omega)
    simp -implicitDefEqProofs only [rX,↓rY,isC,Nat.reduceLeDiff,gi,↓s8,l4,hg,↓ahO,spP,Jj,lP]
    refine ⟨by omega,⟨by omega,by omega,?_,by omega,by omega,by simp only [lo,Fx.hi];omega,?_⟩⟩
    ·have:=(bn bs (4*i+j)).toNat_lt
     simp only [lo,Fx.hi];omega
    refine hM _ (j+1) (by omega) (by omega) ?_
    rw [show (oW bs i j).set i (part bs i j <<< 8 ||| B32 (bn bs (4*i+j)))=oW bs i (j+1) from Uv bs _ rfl]
    exact ⟨by simp -implicitDefEqProofs only [rX,↓reduceIte,Nat.reduceEqDiff,reduceCtorEq,leE];simp,aU _,trivial,by simp -implicitDefEqProofs only [rX,aC,wfE,wfV],⟨iF,iF,trivial⟩⟩
  | false =>
   have h2':=of_decide_eq_false h2
   have g15:(ws (hU bs i))[((i:Int)-15).toNat]?=some (w (wn (wds bs i) (i-15))):=by
    rw [show ((i:Int)-15).toNat=i-15 by omega,Ii (by omega),vG bs hi (by omega)]
   have g2:(ws (hU bs i))[((i:Int)-2).toNat]?=some (w (wn (wds bs i) (i-2))):=by
    rw [show ((i:Int)-2).toNat=i-2 by omega,Ii (by omega),vG bs hi (by omega)]
   have g16:(ws (hU bs i))[((i:Int)-16).toNat]?=some (w (wn (wds bs i) (i-16))):=by
    rw [show ((i:Int)-16).toNat=i-16 by omega,Ii (by omega),vG bs hi (by omega)]
   have g7:(ws (hU bs i))[((i:Int)-7).toNat]?=some (w (wn (wds bs i) (i-7))):=by
    rw [show ((i:Int)-7).toNat=i-7 by omega,Ii (by omega),vG bs hi (by omega)]
   have s3:∀ {x:W} {K:V→Prop},cL .shr .u32 (x.toNat:Int) 3 K=K (w (x >>> 3)):=fun {x K}=>Li (n:=3) (by omega)
   have s10:∀ {x:W} {K:V→Prop},cL .shr .u32 (x.toNat:Int) 10 K=K (w (x >>> 10)):=fun {x K}=>Li (n:=10) (by omega)
   simp -implicitDefEqProofs only [↓rY,g15,g2]
   refine ⟨by simp only [lo,Fx.hi];omega,by omega,by simp only [lo,Fx.hi];omega,by omega,?_⟩
   refine aJ (Eo (wn (wds bs i) (i-15)) 7 (by omega)) (by simp [aE,aG,aL,a6,wkL,wk,wkR]) rfl trivial ?_
   simp -implicitDefEqProofs only [rX,aA,↓reduceIte,Nat.reduceEqDiff]
   refine aJ (Eo (wn (wds bs i) (i-15)) 18 (by omega)) (by simp [aE,aG,aL,a6,wkL,wk,wkR]) rfl trivial ?_
   simp -implicitDefEqProofs only [qY,zb,zh,zi,zk,zu,zK,kO,kS,kU,kV,kZ,aA,yaJ,yaw,↓reduceIte,Nat.reduceEqDiff,wb,yar,yaK,Nat.reduceAdd,yal,yaS,true_and,qas,↓u5,↓s3]
   refine aJ (Eo (wn (wds bs i) (i-2)) 17 (by omega)) (by simp [aE,aG,aL,a6,wkL,wk,wkR]) rfl trivial ?_
   simp -implicitDefEqProofs only [rX,aA,↓reduceIte,Nat.reduceEqDiff]
   refine aJ (Eo (wn (wds bs i) (i-2)) 19 (by omega)) (by simp [aE,aG,aL,a6,wkL,wk,wkR]) rfl trivial ?_
   simp -implicitDefEqProofs only [qY,qZ,zh,zi,zk,zp,zq,zu,zK,kb,kS,kT,kU,kV,kZ,aA,cells?,yaJ,yaw,yai,splice,wa,yao,ybj,↓reduceIte,Nat.reduceEqDiff,yaX,wb,yar,yaK,Nat.reduceAdd,ybg,ybN,isC,ybw,ybk,true_and,and_true,and_self,yaR,not_false_eq_true,Nat.reduceLeDiff,lg0,wm,qas,↓qat,↓qav,↓qax,↓qaB,↓qaD,↓qaE,↓qaI,↓qco,↓qcq,yaj,yav,↓Lj,↓u5,↓s10,g16,g7,yav,sp,Jj,lT]
   refine ⟨by simp only [lo,Fx.hi];omega,by omega,by simp only [lo,Fx.hi];omega,by omega,by omega,by omega,by simp only [lo,Fx.hi];omega,?_⟩
   exact fin _ _ (by rw [if_neg (by omega)];unfold next;rw [gS]) rfl rfl rfl
set_option maxRecDepth 20000
theorem b8 {b:UInt8}:lo .u32≤(b.toNat:Int)∧(b.toNat:Int)≤Fx.hi .u32:=by
 have:=b.toNat_lt
 simp only [lo,Fx.hi];omega
set_option maxRecDepth 20000
def kA:List V:=Ch.map V.v
theorem agM:yac V.v Ch=kA:=rfl
theorem agN {i:Nat} (h:i<64):kA[i]?=some (w (kW i)):=by
 have:∀ i:Fin 64,Pf.getD i.val 0<4294967296∧i.val<Pf.length:=by decide +kernel
 obtain ⟨h1,h2⟩:=this ⟨i,h⟩
 simp only at h1 h2
 unfold kA Ch kW
 rw [yaO,yaM,yak h2]
 rw [yao,yak h2] at h1 ⊢
 simp only [yaX] at h1
 have h3:(yaF 32 Pf[i]).toNat=Pf[i]:=by rw [ybc];omega
 simp only [ybO,Function.comp,yaX,w]
 rw [h3]
theorem adD {q:List Blk}:∀ l:List Value,wfL q (l.map V.v)
 | []=>trivial
 | _::r=>⟨trivial,adD r⟩
theorem adV {q:List Blk}:wfL q kA:=adD Ch
attribute [irreducible] kA
def stp (s r:S8) (i:Nat):S8:=⟨if 0<i then s.a+r.a else s.a,if 1<i then s.b+r.b else s.b,if 2<i then s.c+r.c else s.c,if 3<i then s.d+r.d else s.d,if 0<i then s.e+r.e else s.e,if 1<i then s.f+r.f else s.f,if 2<i then s.g+r.g else s.g,if 3<i then s.h+r.h else s.h⟩
theorem aiD (s r:S8):stp s r 4=s.add r:=rfl
theorem n0:((0:Nat):Int)=0:=rfl
theorem n1:((1:Nat):Int)=1:=rfl
theorem n2:((2:Nat):Int)=2:=rfl
theorem n3:((3:Nat):Int)=3:=rfl
theorem n8:((8:Nat):Int)=8:=rfl
theorem m64:((64:Nat):Int)=64:=rfl
theorem n4:((4:Nat):Int)=4:=rfl
abbrev z8:List V:=[.v (.int .u32 0),.v (.int .u32 0),.v (.int .u32 0),.v (.int .u32 0),.v (.int .u32 0),.v (.int .u32 0),.v (.int .u32 0),.v (.int .u32 0)]
theorem S8.enc_C (s:S8):s.enc.all isC=true:=rfl
set_option maxHeartbeats 2000000 in
theorem alO (s:S8) (bs:List UInt8) (hb:bs.length=64):Ok 117 [.agg s.enc,byV bs] (Is (.agg (comp s bs).enc)):=by
 refine bO lw117 (by simp) ?_
 unfold c117
 simp -implicitDefEqProofs only [rX,↓rY,aA,cells?,↓reduceIte,Nat.reduceEqDiff,Nat.reduceAdd,reduceCtorEq,aF,cxN,aO,S8.enc]
 have lW:(wds bs 64).length=64:=gS bs 64
 refine aJ (alL bs hb) (by simp [aE,aG,aL,a6,wkL,wk,wkR,wkB]) (by simp [ren,aeQ]) trivial ?_
 simp -implicitDefEqProofs only [rX,↓rY,rdK,aA,cells?,splice,↓reduceIte,Nat.reduceEqDiff,Nat.reduceAdd,reduceCtorEq,aF,bN,isC,Nat.reduceLT,Nat.reduceLeDiff,w0,aoO,agM,Jj,Cn,lW,aiA lW,adA Cn,ahZ,yaY,n8,ybl,Nat.reduceSub]
 refine ⟨?_,?_⟩
 all_goals
  refine gA (fun i:Nat=>(⟨[(22,.i i),(21,.agg kA),(7,.ptr 4 0 0),(6,.ptr 3 0 0),(5,.ptr 2 0 0),(4,.ptr 1 0 0),(2,.ptr 0 0 0)],[.var [w s.a,w s.b,w s.c,w s.d,w s.e,w s.f,w s.g,w s.h],.var z8,.var (ws (wds bs 64)),.var [w (Cg (wn (wds bs 64)) s i).a,w (Cg (wn (wds bs 64)) s i).b,w (Cg (wn (wds bs 64)) s i).c,w (Cg (wn (wds bs 64)) s i).d],.var [w (Cg (wn (wds bs 64)) s i).e,w (Cg (wn (wds bs 64)) s i).f,w (Cg (wn (wds bs 64)) s i).g,w (Cg (wn (wds bs 64)) s i).h]],5⟩:St)) (fun i=>i≤64) (fun i=>64-i) 0 (yaz _) ?_ ?_
  ·refine ⟨by simp -implicitDefEqProofs only [rX,↓reduceIte,Nat.reduceEqDiff,leE];rfl,aU _,trivial,?_,?_⟩
   ·simp -implicitDefEqProofs only [rX,aC,wfE,wfV,adV]
   ·simp -implicitDefEqProofs only [rX,wfB,wfV,wfL,iF]
  intro i hi N hN
  obtain ⟨r,hr⟩:∃ r,r=Cg (wn (wds bs 64)) s i:=⟨_,rfl⟩
  rw [←hr]
  simp only [c117l0]
  simp -implicitDefEqProofs only [rX,↓rY,rdK,aA,↓reduceIte,Nat.reduceEqDiff,Nat.reduceAdd,yaj,yav]
  cases h1:decide ((i:Int)<64) with
  | false =>
   have h1':=of_decide_eq_false h1
   have:i=64:=by omega
   subst this
   simp -implicitDefEqProofs only [↓rY]
   refine gA (fun i:Nat=>(⟨[(94,.i i),(7,.ptr 4 0 0),(6,.ptr 3 0 0),(4,.ptr 1 0 0),(2,.ptr 0 0 0)],[.var [w (stp s r i).a,w (stp s r i).b,w (stp s r i).c,w (stp s r i).d,w (stp s r i).e,w (stp s r i).f,w (stp s r i).g,w (stp s r i).h],.var z8,.var (ws (wds bs 64)),.var [w r.a,w r.b,w r.c,w r.d],.var [w r.e,w r.f,w r.g,w r.h]],5⟩:St)) (fun i=>i≤4) (fun i=>4-i) 0 (yaz _) ?_ ?_
   ·exact ⟨by simp -implicitDefEqProofs only [rX,↓reduceIte,Nat.reduceEqDiff,leE];rfl,aU _,trivial,by simp -implicitDefEqProofs only [rX,aC,wfE,wfV],by simp -implicitDefEqProofs only [rX,wfB,wfV,wfL,iF]⟩
   intro i hi N hN
   have hc:comp s bs=s.add r:=by unfold comp;rw [hr]
   have hcase:i=0∨i=1∨i=2∨i=3∨i=4:=by omega
   rcases hcase with rfl|rfl|rfl|rfl|rfl
   all_goals
    simp only [c117l1]
    simp -implicitDefEqProofs only [qX,qY,qZ,zb,zc,zd,zf,zg,zh,zi,zk,zp,zq,zu,kb,kS,kT,kU,kV,kZ,aA,cells?,yaJ,yaw,yai,splice,wa,yao,ybj,↓reduceIte,Nat.reduceEqDiff,yaX,wb,wd,↓we,↓wg,yaZ,ybm,yar,yaK,Nat.reduceAdd,Nat.add_zero,wj,aY,a7,ybn,ybo,wfV,wfL,ybp,ybI,List.take_nil,List.drop_nil,ybg,ybN,isC,ybw,ybk,true_and,and_true,and_self,yaR,yag,not_false_eq_true,Nat.reduceLT,Nat.reduceLeDiff,yad,lg0,wm,wq,wt,lg1,ww,wx,lg2,wB,wC,lg3,wF,wG,lg4,wJ,wK,lg5,wN,wO,lg6,wR,wS,lg7,wV,wW,qas,↓qat,↓qav,↓qax,↓qay,↓qaB,↓qaC,↓qaD,↓qaE,↓qaF,↓qaI,↓qco,↓qcw,yav,yaY,Int.reduceAdd,n0,n1,n2,n3,n4,n8,decide_true,decide_false,ybx,ybl,↓Lj]
   ·exact ⟨by decide,by decide,hN _ 1 (by omega) (by omega) ⟨by simp -implicitDefEqProofs only [rX,↓reduceIte,Nat.reduceEqDiff,leE];rfl,aU _,trivial,by simp -implicitDefEqProofs only [rX,aC,wfE,wfV],by simp -implicitDefEqProofs only [rX,wfB,wfV,wfL,iF]⟩⟩
   ·exact ⟨by decide,by decide,hN _ 2 (by omega) (by omega) ⟨by simp -implicitDefEqProofs only [rX,↓reduceIte,Nat.reduceEqDiff,leE];rfl,aU _,trivial,by simp -implicitDefEqProofs only [rX,aC,wfE,wfV],by simp -implicitDefEqProofs only [rX,wfB,wfV,wfL,iF]⟩⟩
   ·exact ⟨by decide,by decide,hN _ 3 (by omega) (by omega) ⟨by simp -implicitDefEqProofs only [rX,↓reduceIte,Nat.reduceEqDiff,leE];rfl,aU _,trivial,by simp -implicitDefEqProofs only [rX,aC,wfE,wfV],by simp -implicitDefEqProofs only [rX,wfB,wfV,wfL,iF]⟩⟩
   ·exact ⟨by decide,by decide,hN _ 4 (by omega) (by omega) ⟨by simp -implicitDefEqProofs only [rX,↓reduceIte,Nat.reduceEqDiff,leE];rfl,aU _,trivial,by simp -implicitDefEqProofs only [rX,aC,wfE,wfV],by simp -implicitDefEqProofs only [rX,wfB,wfV,wfL,iF]⟩⟩
   ·rw [hc,aiD]
  | true =>
   have h1':=of_decide_eq_true h1
   have gw:(ws (wds bs 64))[i]?=some (w (wn (wds bs 64) i)):=Ii (by omega)
   have ck:(0≤(i:Int)∧(i:Int)<((64:Nat):Int)):=by omega
   simp -implicitDefEqProofs only [ybj,wb,↓we,ybk,true_and,and_self,Nat.reduceLT,lg0,lg1,lg2,↓qat,eq_true ck,agN (show i<64 by omega),yaY,n4,ybx,ybl,↓u5,↓Zd,↓ahP,gw]
   refine aJ (adO r.e 6 11 25 (by omega) (by omega) (by omega)) (by simp [aE,aG,aL,a6,wkL,wk,wkR]) rfl trivial ?_
   simp -implicitDefEqProofs only [qa,qe,qs,qP,rdK,qQ,qR,qS,qT,qV,zb,zk,zp,zu,kb,kO,kS,kU,kV,kZ,aA,yaJ,yaw,wa,yao,ybj,↓reduceIte,Nat.reduceEqDiff,yaX,wb,yar,yaK,Nat.reduceAdd,yal,yaS,ybw,ybk,true_and,and_true,and_self,Nat.reduceLT,lg0,lg1,lg2,qas,↓qat,↓qav,↓qax,↓qaB,↓qaI,yav,eq_true ck,yaY,n4,ybx,ybl,↓Lj,↓u5,↓Zd]
   refine aJ (adO r.a 2 13 22 (by omega) (by omega) (by omega)) (by simp [aE,aG,aL,a6,wkL,wk,wkR]) rfl trivial ?_
   simp -implicitDefEqProofs only [qa,qe,qR,qT,qY,zb,zh,zi,zk,zp,zq,zu,zH,kb,kS,kT,kU,kV,kZ,aA,cells?,yaJ,yaw,yai,splice,wa,yao,ybj,↓reduceIte,Nat.reduceEqDiff,yaX,wb,yaZ,ybm,yar,yaK,Nat.reduceAdd,Nat.add_zero,bJ,yal,yaS,ybp,ybI,List.drop_nil,ybg,ybN,isC,ybw,ybk,true_and,and_true,and_self,yaR,yag,not_false_eq_true,Nat.reduceLT,Nat.reduceLeDiff,yad,lg0,wm,wq,wt,lg1,wv,ww,wx,lg2,wz,wB,wC,lg3,wE,wF,qas,↓qat,↓qav,↓qax,↓qaB,↓qaD,↓qaF,↓qaI,↓qco,yav,yaY,n4,ybx,ybl,↓Lj,splice]
   refine ⟨by simp only [lo,Fx.hi];omega,hN _ (i+1) (by omega) (by omega) ?_⟩
   have e:Cg (wn (wds bs 64)) s (i+1)=r.rnd (kW i) (wn (wds bs 64) i):=by rw [hr];rfl
   simp only [e]
   exact ⟨by simp -implicitDefEqProofs only [rX,↓reduceIte,Nat.reduceEqDiff,leE];simp,aU _,trivial,by simp -implicitDefEqProofs only [rX,aC,wfE,wfV,adV],by simp -implicitDefEqProofs only [rX,wfB,wfV,wfL,iF]⟩
set_option maxRecDepth 20000
def Stm.enc (S:Stm):List V:=sC S.st S.blk S.n
theorem Yo {s:S8} {f:Nat→Option Nat}:bZ f s.enc=s.enc:=rfl
theorem Pj {s:S8} {h:List Blk} {g:Nat→Option Nat}:aE h g s.enc:=⟨trivial,trivial,trivial,trivial,trivial,trivial,trivial,trivial,trivial⟩
theorem abZ {s:S8} {h:List Blk} {g:Nat→Option Nat}:wkL s.enc (aL h g s.enc):=⟨rfl,rfl,rfl,rfl,rfl,rfl,rfl,rfl,trivial⟩
theorem acA {s:S8}:s.enc.length=8:=rfl
theorem Uy {t:Bs}:eM (sb t)=t.map by1:=rfl
set_option maxHeartbeats 2000000 in
theorem afY (S:Stm) (m t:Bs) (h:Rp S m) (hm:m.length+t.length≤1152921504606846976):Ok 93 [.agg S.enc,sv t] (IsQ (fun S'=>Rp S' (m++t)) (fun S'=>.agg S'.enc) (fun _=>[])):=by
 refine bO lw93 (by simp) ?_
 unfold c93
 simp -implicitDefEqProofs only [rX,↓rY,aA,cells?,↓reduceIte,aF,cxN,aO,Stm.enc]
 refine gA (fun g:Stm × Bs × Bs=>(⟨[(1,sv g.2.2),(4,.ptr 1 0 0),(2,.ptr 0 0 0)],[.var (sC g.1.st g.1.blk g.1.n),.var (sC ⟨0,0,0,0,0,0,0,0⟩ (yaa 64 0) 0)],2⟩:St)) (fun g=>Rp g.1 (m++g.2.1)∧g.2.1++g.2.2=t) (fun g=>g.2.2.length) (S,[],t) ⟨by simpa using h,rfl⟩ ?_ ?_
 ·refine ⟨by simp -implicitDefEqProofs only [rX,↓reduceIte,Nat.reduceEqDiff,reduceCtorEq,leE],⟨aS _,?_,trivial⟩,trivial,by simp -implicitDefEqProofs only [rX,aC,wfE,wfV],⟨lD,lD,trivial⟩⟩
  show cI _ _
  rw [show sC ⟨0,0,0,0,0,0,0,0⟩ (yaa 64 0) 0=yaa 8 (w 0)++(yaa 64 (u8 0)++[n64 0]) by unfold sC;rfl]
  exact iZ _
 rintro ⟨S,c,r⟩ ⟨hR,hcr⟩ N hN
 simp only at hR hcr
 have hl:=hR.len
 have hn:=hR.n
 have hsum:c.length+r.length=t.length:=by rw [←hcr,yag]
 rw [yag] at hn
 obtain ⟨j,hj⟩:∃ j,j=S.n%64:=⟨_,rfl⟩
 have hj64:j<64:=by omega
 obtain ⟨cc,hcc⟩:∃ cc,cc=r.take (64-j):=⟨_,rfl⟩
 have hcl:cc.length=min r.length (64-j):=by rw [hcc,yau];omega
 have e1:IntKind.i64.wrap (Int.tmod (S.n:Int) 64)=(j:Int):=by
  rw [show Int.tmod (S.n:Int) 64=(j:Int) by rw [hj];simp [Int.tmod_eq_emod]]
  exact oS _ _ ⟨by simp only [lo];omega,by simp only [Fx.hi];omega⟩
 have f1:(yah (64-j) (eM (sb r))).flatten=cc.map u8:=by
  rw [hcc,Uy,←yaL]
  induction r.take (64-j) with
  | nil=>rfl
  | cons x q ih=>rw [yal,ybP,ih];rfl
 have f2:min (eM (sb r)).length (64-j)=cc.length:=by rw [Uy,yat,hcl]
 have e2:IntKind.u64.wrap (cc.length:Int)=(cc.length:Int):=oS _ _ ⟨by simp only [lo];omega,by simp only [Fx.hi];omega⟩
 have e3:IntKind.u64.wrap ((S.n:Int)+(cc.length:Int))=((S.n+cc.length:Nat):Int):=by
  rw [←ybF]
  exact oS _ _ ⟨by simp only [lo];omega,by simp only [Fx.hi];omega⟩
 have f3:(sC S.st S.blk S.n).take (8+j)++cc.map u8++(sC S.st S.blk S.n).drop (8+j+cc.length)=sC S.st (nZ S.blk cc j) S.n:=aaQ hl (by omega)
 have pl:(nZ S.blk cc j).length=64:=by rw [Ml (by omega),hl]
 have sx:(sb r).extract cc.length r.length=sb (r.drop cc.length):=by rw [cN,yby]
 have hst:=hR.step (c:=cc) (by omega)
 simp only [c93l0]
 simp -implicitDefEqProofs only [rX,↓rY,aA,cells?,splice,↓reduceIte,Nat.reduceEqDiff,Nat.reduceAdd,bN,isC,Nat.reduceLeDiff,yaj,bP,dZ,dC,dC,dZ,aaP hl,eT hl,e1,f1,f2,f3,e2,aaP pl,eT pl,e3,afH pl,sx,yau,yaA,yaY,m64]
 cases hr:(!r==([]:Bs)) with
 | false =>
  have hr':r=[]:=by simpa using hr
  subst hr'
  rw [yar] at hcr
  subst hcr
  have zl:(yaa 64 (0:UInt8)).length=64:=rfl
  simp -implicitDefEqProofs only [rX,↓rY,mC hl,aaR,eT zl,Dv zl,eT hl,Nat.min_self]
  refine Vq S hR ?_
  simp -implicitDefEqProofs only [rX,↓rY,↓reduceIte,Nat.reduceEqDiff,aY,a7,leH,aD,wfB,wfV,mC hl,eT hl,lD]
 | true =>
  have hr':r≠[]:=by simpa using hr
  have hrl:0<r.length:=ycc.2 hr'
  simp -implicitDefEqProofs only [↓rY]
  refine ⟨by omega,by omega,by omega,by omega,by omega,⟨by simp only [lo];omega,by simp only [Fx.hi];omega⟩,?_⟩
  have hrd:cc++r.drop cc.length=r:=by
   by_cases h:64-j≤r.length
   ·rw [show cc.length=64-j by omega,hcc,List.take_append_drop]
   ·rw [hcc,yaf (by omega),yax (by omega),yar]
  rw [←hj] at hst
  have hI:c++cc++r.drop cc.length=t:=by rw [yaq,hrd,hcr]
  rw [yaq] at hst
  cases h6:((j:Int)+(cc.length:Int)==64) with
  | true =>
   have h6':j+cc.length=64:=by have:=eq_of_beq h6;omega
   rw [if_pos h6'] at hst
   simp -implicitDefEqProofs only [↓rY,aiI]
   refine ⟨by omega,⟨by omega,by omega,by omega⟩,?_⟩
   refine aJ (alO S.st (nZ S.blk cc j) pl) ⟨⟨Pj,trivial,trivial⟩,abZ,?_,trivial⟩ (by simp only [ren,Yo]) trivial ?_
   ·show wkB (if (decide (8+64≤(sC S.st (nZ S.blk cc j) (S.n+cc.length)).length)&&(((sC S.st (nZ S.blk cc j) (S.n+cc.length)).drop 8).take 64).all isD)=true then V.bro 1 ((((sC S.st (nZ S.blk cc j) (S.n+cc.length)).drop 8).take 64).map fun c=>[c]) else V.any) 1 ((nZ S.blk cc j).map by1)
    rw [if_pos (by rw [eT pl,Vn pl];rfl),aaO pl]
    exact ⟨rfl,rfl⟩
   simp -implicitDefEqProofs only [rX,↓rY,cells?,splice,↓reduceIte,Nat.reduceEqDiff,Nat.reduceLeDiff,afG,eT pl,acA,S8.enc_C]
   refine hN _ (⟨comp S.st (nZ S.blk cc j),nZ S.blk cc j,S.n+cc.length⟩,c++cc,r.drop cc.length) ⟨hst,hI⟩ (by simp only [yaA];omega) ?_
   exact ⟨by simp -implicitDefEqProofs only [rX,↓reduceIte,Nat.reduceEqDiff,leE],aU _,trivial,by simp -implicitDefEqProofs only [rX,aC,wfE,wfV],⟨lD,lD,trivial⟩⟩
  | false =>
   have h6':j+cc.length≠64:=by
    intro h
    have:((j:Int)+(cc.length:Int)==64)=true:=by rw [beq_iff_eq];omega
    rw [this] at h6;cases h6
   rw [if_neg h6'] at hst
   simp -implicitDefEqProofs only [↓rY]
   refine hN _ (⟨S.st,nZ S.blk cc j,S.n+cc.length⟩,c++cc,r.drop cc.length) ⟨hst,hI⟩ (by simp only [yaA];omega) ?_
   exact ⟨by simp -implicitDefEqProofs only [rX,↓reduceIte,Nat.reduceEqDiff,leE],aU _,trivial,by simp -implicitDefEqProofs only [rX,aC,wfE,wfV],⟨lD,lD,trivial⟩⟩
set_option maxRecDepth 20000
def us (l:Bs):List V:=l.map u8
theorem fK {l:Bs}:(us l).length=l.length:=by simp [us]
theorem nR {l:Bs}:(us l).all isC=true:=by simp [us,isC,isD]
theorem Sn {l:Bs}:(us l).all isD=true:=by simp [us,isD]
theorem eD {l:Bs} {q:List Blk}:wfL q (us l):=by
 unfold us
 induction l with
 | nil=>trivial
 | cons x r ih=>exact ⟨trivial,ih⟩
theorem cR {l:Bs} {f:Nat→Option Nat}:bZ f (us l)=us l:=by
 unfold us
 induction l with
 | nil=>rfl
 | cons x r ih=>exact congrArg (u8 x::·) ih
theorem Cq {l:Bs} {n:Nat}:(us l).take n=us (l.take n):=by simp [us,yaL]
theorem Jn {l:Bs} {n:Nat}:(us l).drop n=us (l.drop n):=by simp [us,ybe]
theorem Ur {l:Bs} {i:Nat} {x:UInt8} (hi:i<l.length):(us l).take i++[u8 x]++(us l).drop (i+1)=us (l.set i x):=by
 unfold us
 rw [ybu,yca,if_pos (by simpa using hi)]
 simp
theorem aeT {l:Bs} {i:Nat} (hi:i<l.length):(us l)[i]?=some (u8 (bn l i)):=by
 unfold us bn
 rw [yaM,yak hi,yao,yak hi]
 rfl
attribute [irreducible] us
def z32:Bs:=yaa 32 0
theorem Co:z32.length=32:=rfl
theorem w32:yac V.v (yaU 32 (Value.int IntKind.u8 0)).toList=us z32:=by unfold us;rfl
attribute [irreducible] z32
def pz (k:Nat):Bs:=128::yaa k 0
theorem Ai {k:Nat}:(pz k).length=k+1:=by simp [pz]
theorem afS {k:Nat}:pz k++[0]=pz (k+1):=by
 unfold pz
 rw [ybm,←ycd]
theorem apY:pz 0=[128]:=rfl
attribute [irreducible] pz
theorem uM {M:List Nat}:∀ l:List V,(∀ x∈l,∃ u,x=.v u)→bD M l=l
 | [],_=>rfl
 | x::r,h=>by
  obtain ⟨u,rfl⟩:=h x yaP
  show V.v u::bD M r=_
  rw [uM r fun y hy=>h y (yaQ _ hy)]
theorem fZ {M:List Nat} {l:Bs}:bD M (us l)=us l:=uM _ (by
 unfold us
 intro x hx
 obtain ⟨b,_,rfl⟩:=yaV.1 hx
 exact ⟨_,rfl⟩)
theorem iL {s:S8} {b:Bs} {n:Nat}:∀ x∈sC s b n,∃ u,x=V.v u:=by
 unfold sC
 intro x hx
 simp only [S8.enc,ybv,yaV,ybh,yaR,or_false] at hx
 rcases hx with (rfl|rfl|rfl|rfl|rfl|rfl|rfl|rfl)|⟨u,_,rfl⟩|rfl<;>exact ⟨_,rfl⟩
theorem Mb {M:List Nat} {s:S8} {b:Bs} {n:Nat}:bD M (sC s b n)=sC s b n:=uM _ iL
theorem fC {h:List Blk} {g:Nat→Option Nat}:∀ l:List V,(∀ x∈l,∃ u,x=.v u)→aE h g l∧wkL l (aL h g l)
 | [],_=>⟨trivial,trivial⟩
 | x::r,q=>by
  obtain ⟨u,rfl⟩:=q x yaP
  have:=fC (h:=h) (g:=g) r fun y hy=>q y (yaQ _ hy)
  exact ⟨⟨trivial,this.1⟩,rfl,this.2⟩
def l8 (n i:Nat):Bs:=(yaH i).map fun i=>UInt8.ofNat (8*n/2 ^ (56-8*i))
theorem aqY {n i:Nat}:l8 n (i+1)=l8 n i++[UInt8.ofNat (8*n/2 ^ (56-8*i))]:=by simp [l8,List.range_succ]
theorem Kk {n i:Nat}:(l8 n i).length=i:=by simp [l8]
theorem fE:∀ l:Bs,bytesOf (l.map by1)=some l
 | []=>rfl
 | b::r=>by
  show (bytesOf (r.map by1)).map (UInt8.ofNat ((b.toNat:Int)).toNat::·)=_
  rw [fE r]
  simp
theorem Ma {l:Bs}:({ data:=l.toArray }:ByteArray)=sb l:=rfl
theorem afU {n:Nat}:pz (zeros n)++l8 n 8=pad n:=by unfold pz;rfl
def oB (s:S8) (i:Nat):Bs:=(yaH i).map (Jy s)++yaa (32-i) 0
theorem agF {s:S8} {i:Nat} (h:i≤32):(oB s i).length=32:=by simp [oB];omega
theorem aqW {s:S8}:oB s 0=z32:=by unfold z32;rfl
theorem alS {s:S8}:oB s 32=(yaH 32).map (Jy s):=by simp [oB]
theorem agE {s:S8} {i:Nat} (h:i<32):(oB s i).set i (Jy s i)=oB s (i+1):=by
 unfold oB
 rw [yaB _ _ (by simp),yat,List.length_range,ybi,show 32-i=(32-(i+1))+1 by omega,ybL,yai,List.range_succ,yap]
 simp
theorem aaN {s:S8} {b:Bs} {n j:Nat} (h:j<8):(sC s b n)[j]?=some (w (wn s.l j)):=by
 unfold sC
 rw [yaI (by simp [S8.enc];omega)]
 have:j=0∨j=1∨j=2∨j=3∨j=4∨j=5∨j=6∨j=7:=by omega
 rcases this with rfl|rfl|rfl|rfl|rfl|rfl|rfl|rfl<;>rfl
set_option maxHeartbeats 2000000 in
theorem aqB (S:Stm) (m:Bs) (h:Rp S m) (hm:m.length≤576460752303423488):Ok 94 [.agg S.enc] (Is (.agg (us (sha m)))):=by
 refine bO lw94 (by simp) ?_
 unfold c94
 have hn:=h.n
 have hl:=h.len
 have e8:IntKind.u64.wrap (8*(S.n:Int))=((8*S.n:Nat):Int):=by
  rw [show (8*(S.n:Int))=((8*S.n:Nat):Int) by omega]
  exact oS _ _ ⟨by simp only [lo];omega,by simp only [Fx.hi];omega⟩
 simp -implicitDefEqProofs only [rX,↓rY,aA,cells?,↓reduceIte,Nat.reduceEqDiff,Nat.reduceAdd,aF,bR,isD,Nat.reduceLT,cxN,aO,Stm.enc,w32,aaP hl,e8]
 refine gA (fun k:Nat=>(⟨[(4,.sl 2 0 (k+1)),(3,n64 (8*S.n)),(2,.ptr 1 0 0),(1,.ptr 0 0 0)],[.var (sC S.st S.blk S.n),.var (us z32),.arr 1 ((pz k).map by1)],3⟩:St)) (fun k=>k≤zeros m.length) (fun k=>zeros m.length-k) 0 (yaz _) ?_ ?_
 ·exact ⟨by simp -implicitDefEqProofs only [rX,↓reduceIte,Nat.reduceEqDiff,leE],⟨aS _,aS _,by rw [apY];exact aS _,trivial⟩,trivial,by simp -implicitDefEqProofs only [rX,aC,wfE,wfV],by simp -implicitDefEqProofs only [rX,wfB,lD,eD]⟩
 intro k hk N hN
 have ei:IntKind.i64.wrap (S.n:Int)=(S.n:Int):=oS _ _ ⟨by simp only [lo];omega,by simp only [Fx.hi];omega⟩
 have hz:=Ud m.length
 have hz2:zeros m.length<64:=by unfold zeros;omega
 have tk:yah (k+1) (yac by1 (pz k))=yac by1 (pz k):=yaf (by rw [yat,Ai];exact yad _)
 have b0:(yac by1 (pz k))++[[V.v (Value.int IntKind.u8 0)]]=(pz (k+1)).map by1:=by rw [←afS,yap];rfl
 simp only [c94l0]
 simp -implicitDefEqProofs only [rX,↓rY,aA,cells?,↓reduceIte,Nat.reduceEqDiff,Nat.reduceAdd,reduceCtorEq,aF,bR,aM,aK,kill,St.kill,isD,Nat.reduceLT,Nat.reduceLeDiff,yav,aaP hl,ei,Ai,tk,b0,fZ,Mb]
 intro _
 have hmod:((S.n:Int)+((k+1:Nat):Int)).tmod 64=(((m.length+1+k)%64:Nat):Int):=by
  rw [show ((S.n:Int)+((k+1:Nat):Int))=((m.length+1+k:Nat):Int) by omega]
  rfl
 refine ⟨⟨by simp only [lo];omega,by simp only [Fx.hi];omega⟩,by omega,?_⟩
 rw [hmod]
 cases hc:((((m.length+1+k)%64:Nat):Int) != 56) with
 | true =>
  have hc':(m.length+1+k)%64≠56:=by intro h;rw [h] at hc;simp at hc
  have hlt:k<zeros m.length:=by
   rcases Nat.lt_or_ge k (zeros m.length) with h|h
   ·exact h
   ·have:k=zeros m.length:=by omega
    rw [this] at hc';exact absurd hz hc'
  simp -implicitDefEqProofs only [↓rY]
  refine ⟨by omega,hN _ (k+1) (by omega) (by omega) ?_⟩
  exact ⟨by simp -implicitDefEqProofs only [rX,↓reduceIte,Nat.reduceEqDiff,leE],⟨aS _,aS _,aS _,trivial⟩,trivial,by simp -implicitDefEqProofs only [rX,aC,wfE,wfV],by simp -implicitDefEqProofs only [rX,wfB,lD,eD]⟩
 | false =>
  have hc':(m.length+1+k)%64=56:=by
   have h2:¬((((m.length+1+k)%64:Nat):Int)≠56):=fun h=>by rw [bne_iff_ne.2 h] at hc;cases hc
   omega
  have hke:k=zeros m.length:=by omega
  simp -implicitDefEqProofs only [↓rY]
  clear hN N hmod tk b0 hk
  refine gA (fun i:Nat=>(⟨[(23,.i i),(4,.sl 2 0 (k+1+i)),(3,n64 (8*S.n)),(2,.ptr 1 0 0),(1,.ptr 0 0 0)],[.var (sC S.st S.blk S.n),.var (us z32),.arr 1 ((pz k++l8 m.length i).map by1)],3⟩:St)) (fun i=>i≤8) (fun i=>8-i) 0 (yaz _) ?_ ?_
  ·exact ⟨by simp -implicitDefEqProofs only [rX,↓reduceIte,Nat.reduceEqDiff,leE];rfl,⟨aS _,aS _,by rw [show l8 m.length 0=[] from rfl,yar];exact aS _,trivial⟩,trivial,by simp -implicitDefEqProofs only [rX,aC,wfE,wfV],by simp -implicitDefEqProofs only [rX,wfB,lD,eD]⟩
  intro i hi N hN
  simp only [c94l1]
  simp -implicitDefEqProofs only [rX,↓rY,aA,cells?,↓reduceIte,Nat.reduceEqDiff,Nat.reduceAdd,reduceCtorEq,aF,bR,aM,aK,kill,St.kill,isD,Nat.reduceLT,Nat.reduceLeDiff,yav]
  cases h1:decide ((i:Int)<8) with
  | true =>
   have h1':=of_decide_eq_true h1
   have sh:∀ {K:V→Prop},cL .shr .u64 ((8*S.n:Nat):Int) (56-8*(i:Int)) K=K (.v (.int .u64 ((8*S.n/2 ^ (56-8*i):Nat):Int))):=by
    intro K
    have h:cL .shr .u64 ((8*S.n:Nat):Int) (56-8*(i:Int)) K=(0≤(56-8*(i:Int))∧K (.v (.int .u64 (Int.fdiv ((8*S.n:Nat):Int) (2 ^ (min (56-8*(i:Int)).toNat 64)))))):=rfl
    rw [h,show (56-8*(i:Int)).toNat=56-8*i by omega,ybG (by omega)]
    have h2:(2:Int) ^ (56-8*i)=((2 ^ (56-8*i):Nat):Int):=by simp
    rw [h2,ybd _ (yaT _),←Int.natCast_ediv]
    exact propext ⟨fun h=>h.2,fun h=>⟨by omega,h⟩⟩
   have cv:IntKind.u8.wrap ((8*S.n/2 ^ (56-8*i):Nat):Int)=((UInt8.ofNat (8*m.length/2 ^ (56-8*i))).toNat:Int):=by
    rw [hn,UInt8.toNat_ofNat']
    simp [IntKind.wrap,IntKind.bits,IntKind.signed]
   simp -implicitDefEqProofs only [rX,↓rY,kill,St.kill,↓sh,cv,fZ,Mb,Ai,Kk]
   have tk2:yah (k+1+i) (yac by1 (pz k++l8 m.length i))=yac by1 (pz k++l8 m.length i):=yaf (by rw [yat,yag,Ai,Kk];exact yad _)
   rw [tk2]
   refine ⟨⟨by simp only [lo];omega,by simp only [Fx.hi];omega⟩,⟨by simp only [lo];omega,by simp only [Fx.hi];omega⟩,by omega,⟨by simp only [lo];omega,by simp only [Fx.hi];omega⟩,?_⟩
   refine hN _ (i+1) (by omega) (by omega) ?_
   exact ⟨by simp -implicitDefEqProofs only [rX,↓reduceIte,Nat.reduceEqDiff,leE];simp;omega,⟨aS _,aS _,by rw [aqY,←yaq,yap (l₂:=[_])];exact aS _,trivial⟩,trivial,by simp -implicitDefEqProofs only [rX,aC,wfE,wfV],by simp -implicitDefEqProofs only [rX,wfB,lD,eD]⟩
  | false =>
   have h1':=of_decide_eq_false h1
   have:i=8:=by omega
   subst this
   have tk2:yah (k+1+8) (yac by1 (pz k++l8 m.length 8))=yac by1 (pz k++l8 m.length 8):=yaf (by rw [yat,yag,Ai,Kk];exact yad _)
   simp -implicitDefEqProofs only [rX,↓rY,tk2,fE,Ma,mC hl,eT hl,Ai,Kk]
   refine ⟨.inr trivial,?_⟩
   clear hN N
   have hpd:pz k++l8 m.length 8=pad m.length:=by rw [hke];exact afU
   rw [hpd]
   refine Gk _ _ _ (afY S m (pad m.length) h (by simp [pad,len8];omega)) ⟨⟨(fC _ iL).1,trivial,trivial⟩,(fC _ iL).2,rfl,trivial⟩ (fun g=>by simp only [ren,Stm.enc,Cs]) trivial ?_
   intro S' hS'
   have hl':=hS'.len
   have hst':S'.st=aiE m:=hS'.st
   simp -implicitDefEqProofs only [rX,↓rY,aA,cells?,splice,↓reduceIte,Nat.reduceEqDiff,Nat.reduceAdd,aF,Stm.enc,mC hl',eT hl',aaR,eT hl,Dv hl,w32]
   refine gA (fun i:Nat=>(⟨[(40,.i i),(6,.ptr 3 0 0),(2,.ptr 1 0 0),(1,.ptr 0 0 0)],[.var (sC S'.st S'.blk S'.n),.var (us z32),.arr 1 ((pad m.length).map by1),.var (us (oB S'.st i))],4⟩:St)) (fun i=>i≤32) (fun i=>32-i) 0 (yaz _) ?_ ?_
   ·exact ⟨by simp -implicitDefEqProofs only [rX,↓reduceIte,Nat.reduceEqDiff,leE];rfl,⟨aS _,aS _,aS _,by rw [aqW];exact aS _,trivial⟩,trivial,by simp -implicitDefEqProofs only [rX,aC,wfE,wfV],by simp -implicitDefEqProofs only [rX,wfB,lD,eD]⟩
   intro i hi N hN
   simp only [c94l2]
   simp -implicitDefEqProofs only [rX,↓rY,aA,cells?,splice,↓reduceIte,Nat.reduceEqDiff,Nat.reduceAdd,aY,a7,wfV,isC,yaj,yav]
   cases h1:decide ((i:Int)<32) with
   | true =>
    have h1':=of_decide_eq_true h1
    have lo':(oB S'.st i).length=32:=agF hi
    have ed:Int.tdiv (i:Int) 4=((i/4:Nat):Int):=rfl
    have er:Int.tmod (i:Int) 4=((i%4:Nat):Int):=rfl
    have es:(24-8*((i%4:Nat):Int))=((24-8*(i%4):Nat):Int):=by omega
    have sh:∀ {x:W} {K:V→Prop},cL .shr .u32 (x.toNat:Int) ((24-8*(i%4):Nat):Int) K=K (w (x >>> (24-8*(i%4)))):=fun {x K}=>Li (by omega)
    have cv:IntKind.u8.wrap ((wn S'.st.l (i/4) >>> (24-8*(i%4))).toNat:Int)=((Jy S'.st i).toNat:Int):=by
     unfold Jy
     rw [UInt8.toNat_ofNat',ybY,ybZ]
     simp [IntKind.wrap,IntKind.bits,IntKind.signed]
    have sp:∀ x:UInt8,yah i (us (oB S'.st i))++[u8 x]++yas (i+1) (us (oB S'.st i))=us ((oB S'.st i).set i x):=fun x=>Ur (by omega)
    simp -implicitDefEqProofs only [rX,↓rY,Nat.reduceLeDiff,yaj,ed,er,es,↓sh,aaN (show i/4<8 by omega),cv,sp,fK,lo']
    refine ⟨by omega,⟨by simp only [lo];omega,by simp only [Fx.hi];omega⟩,by omega,by omega,⟨by simp only [lo];omega,by simp only [Fx.hi];omega⟩,⟨by simp only [lo];omega,by simp only [Fx.hi];omega⟩,by omega,by omega,⟨by simp only [lo];omega,by simp only [Fx.hi];omega⟩,?_⟩
    refine hN _ (i+1) (by omega) (by omega) ?_
    rw [agE (by omega)]
    exact ⟨by simp -implicitDefEqProofs only [rX,↓reduceIte,Nat.reduceEqDiff,leE];simp,aU _,trivial,by simp -implicitDefEqProofs only [rX,aC,wfE,wfV],by simp -implicitDefEqProofs only [rX,wfB,lD,eD]⟩
   | false =>
    have h1':=of_decide_eq_false h1
    have:i=32:=by omega
    subst this
    have l32:((yaH 32).map (Jy S'.st)).length=32:=by simp
    have tk3:(us ((yaH 32).map (Jy S'.st))).take 32=us ((yaH 32).map (Jy S'.st)):=yaf (by rw [fK,l32];exact yad _)
    have dk3:(us z32).drop 32=[]:=yax (by rw [fK,Co];exact yad _)
    simp -implicitDefEqProofs only [rX,↓rY,alS,tk3,fK,l32,nR,Co,dk3,eD]
    rw [hst']
    rfl
set_option maxRecDepth 20000
set_option maxRecDepth 20000
theorem agO:iv.enc=[.v (.int .u32 1779033703),.v (.int .u32 3144134277),.v (.int .u32 1013904242),.v (.int .u32 2773480762),.v (.int .u32 1359893119),.v (.int .u32 2600822924),.v (.int .u32 528734635),.v (.int .u32 1541459225)]:=rfl
theorem n5:((5:Nat):Int)=5:=rfl
theorem n6:((6:Nat):Int)=6:=rfl
set_option maxRecDepth 20000
theorem Js {m:Bs}:(sha m).length=32:=by simp [sha]
def z16:Bs:=yaa 16 0
theorem Ji:z16.length=16:=rfl
theorem w16:yac V.v (yaU 16 (Value.int IntKind.u8 0)).toList=us z16:=by unfold us;rfl
attribute [irreducible] z16
def cp (l:Bs) (i:Nat):Bs:=l.take i++yaa (16-i) 0
set_option maxRecDepth 20000
def S0:Stm:=⟨iv,yaa 64 0,0⟩
theorem rp0:Rp S0 []:=⟨rfl,rfl,rfl,rfl⟩
theorem ahT:S0.enc=iv.enc++(yaa 64 (u8 0)++[n64 0]):=by unfold Stm.enc sC;rfl
theorem Ue:t7.toList.length=73:=rfl
set_option maxHeartbeats 2000000 in
theorem aqC:Ok 92 [] (Is (.agg S0.enc)):=by
 refine bO lw92 (by simp) ?_
 unfold c92
 simp -implicitDefEqProofs only [rX,↓rY,aA,cells?,splice,↓reduceIte,Nat.reduceAdd,reduceCtorEq,aF,bJ,aY,a7,wfV,isC,Nat.reduceLeDiff,cxN,aO,ahT,agO,Ue]
 refine ⟨yad _,?_,?_⟩
 ·simp [wfL,wfV]
 ·rfl
end Go.Fx.K
namespace Go.Fx.K
open Go Go.Fx
def zz (x:Int):Nat:=if 0≤x then (2*x).toNat else (-2*x-1).toNat
def vi (n:Nat):Bs:=if h:n<128 then [UInt8.ofNat n] else UInt8.ofNat (n%128+128)::vi (n/128)
termination_by n
decreasing_by omega
def nB (x:Int):Bs:=vi (zz x)
def tB (t:Bs):Bs:=nB t.length++t
def lB (l:List Int):Bs:=nB l.length++(l.map nB).flatten
def inB (k:Int) (l:List Bs):Bs:=UInt8.ofNat (k%256).toNat::(l.map tB).flatten
def cF (k:Int) (l:List Bs):Bs:=(sha (inB k l)).take 16
theorem Ls {n:Nat} (h:n<128):vi n=[UInt8.ofNat n]:=by rw [vi,dif_pos h]
theorem Uq {n:Nat} (h:¬n<128):vi n=UInt8.ofNat (n%128+128)::vi (n/128):=by rw [vi,dif_neg h]
theorem Uc {x:Int} (hx:-9223372036854775808≤x∧x≤9223372036854775807):zz x<18446744073709551616:=by unfold zz;split<;>omega
theorem wrap64 {x:Int}:IntKind.u64.wrap x=x%18446744073709551616:=by simp [IntKind.wrap,IntKind.bits,IntKind.signed]
theorem Hl {x:Int}:IntKind.u8.wrap x=x%256:=by simp [IntKind.wrap,IntKind.bits,IntKind.signed]
theorem Zv {x:Int} (hx:-9223372036854775808≤x∧x≤9223372036854775807) :
  IntKind.u64.wrap ((yab 64 (IntKind.u64.wrap (IntKind.u64.wrap x*2)) ^^^ yab 64 (IntKind.u64.wrap (x.fdiv 9223372036854775808))).toNat:Int)=(zz x:Int):=by
 rw [wrap64 (x:=((BitVec.toNat _:Nat):Int))]
 have h64:∀ b:BitVec 64,((b.toNat:Nat):Int)%18446744073709551616=(b.toNat:Int):=fun b=>Int.emod_eq_of_lt (yaT _) (by have:=b.isLt;omega)
 rw [h64,wrap64,wrap64,wrap64,ybd _ (by omega)]
 unfold zz
 by_cases h:0≤x
 ·rw [if_pos h,show x/9223372036854775808=0 by omega,show x%18446744073709551616*2%18446744073709551616=2*x by omega]
  simp only [Int.zero_emod,BitVec.ofInt_ofNat,BitVec.xor_zero,ybQ]
  omega
 ·rw [if_neg h,show x/9223372036854775808=-1 by omega,show x%18446744073709551616*2%18446744073709551616=2*x+18446744073709551616 by omega,show (-1:Int)%18446744073709551616=18446744073709551615 from rfl]
  have e1:yab 64 18446744073709551615=BitVec.allOnes 64:=ybH (by rw [ybQ,BitVec.toNat_allOnes];omega)
  rw [e1,BitVec.xor_allOnes,BitVec.toNat_not,ybQ]
  omega
theorem akS {n:Nat} (h:n<18446744073709551616):IntKind.u8.wrap ((yab 8 (IntKind.u8.wrap (n:Int)) ||| yab 8 128).toNat:Int)=((UInt8.ofNat (n%128+128)).toNat:Int):=by
 rw [Hl,Hl]
 have h8:∀ b:BitVec 8,((b.toNat:Nat):Int)%256=(b.toNat:Int):=fun b=>Int.emod_eq_of_lt (yaT _) (by have:=b.isLt;omega)
 rw [h8]
 have key:∀ m:Fin 256,(yaF 8 m.val ||| 128#8).toNat=m.val%128+128:=by decide +kernel
 have:=key ⟨n%256,by omega⟩
 simp only at this
 have e:yab 8 ((n:Int)%256)=yaF 8 (n%256):=by
  rw [show ((n:Int)%256)=((n%256:Nat):Int) by omega,ybX]
 rw [e,show yab 8 128=128#8 by rfl,this,UInt8.toNat_ofNat']
 omega
theorem Us {n:Nat} (h:n<128):IntKind.u8.wrap (n:Int)=((UInt8.ofNat n).toNat:Int):=by
 rw [Hl,UInt8.toNat_ofNat'];omega
theorem Qh:∀ (k n:Nat),n<128 ^ (k+1)→(vi n).length≤k+1
 | 0,n,h=>by rw [Ls (by omega)];simp
 | k+1,n,h=>by
  by_cases hn:n<128
  ·rw [Ls hn];simp
  ·rw [Uq hn,yaw]
   have:=Qh k (n/128) (by rw [Nat.div_lt_iff_lt_mul (by omega),←Nat.pow_succ];exact h)
   omega
theorem Up {n:Nat} (h:n<18446744073709551616):(vi n).length≤10:=Qh 9 n (by omega)
theorem Eq {x:Int} (hx:-9223372036854775808≤x∧x≤9223372036854775807):(nB x).length≤10:=Up (Uc hx)
open Go Go.Fx Go.Proofs
set_option maxRecDepth 20000
theorem aoT {a b:Int} {K:V→Prop}:cL .shl .u64 a b K=(0≤b∧K (.v (.int .u64 (IntKind.u64.wrap (a*2 ^ (min b.toNat 64)))))):=rfl
theorem aoS {a b:Int} {K:V→Prop}:cL .shr .u64 a b K=(0≤b∧K (.v (.int .u64 (a.fdiv (2 ^ (min b.toNat 64)))))):=rfl
theorem sri {a b:Int} {K:V→Prop}:cL .shr .i64 a b K=(0≤b∧K (.v (.int .i64 (a.fdiv (2 ^ (min b.toNat 64)))))):=rfl
theorem aoM {a c:Int} {K:V→Prop} {x:Bool}:cK .xor x .u64 a c K=K (.v (.int .u64 (IntKind.u64.wrap ((yab 64 a ^^^ yab 64 c).toNat:Int)))):=rfl
theorem or8 {a c:Int} {K:V→Prop} {x:Bool}:cK .or x .u8 a c K=K (.v (.int .u8 (IntKind.u8.wrap ((yab 8 a ||| yab 8 c).toNat:Int)))):=rfl
theorem p1:(2:Int) ^ (min (1:Int).toNat 64)=2:=rfl
theorem p63:(2:Int) ^ (min (63:Int).toNat 64)=9223372036854775808:=rfl
theorem p7:(2:Int) ^ (min (7:Int).toNat 64)=128:=rfl
theorem Wz {fx:List Nat} {f:(St→Prop)→St→Prop} {s s0:St} (hgh:eL fx s s0) {G:Type} (pat:G→St) (I:G→Prop) (μ:G→Nat) (g:G) (h0:I g) (h1:leS fx s0 (pat g))
  (h:∀ g,I g→∀ N:St→Prop,(∀ s' g',I g'→μ g'<μ g→leS fx s' (pat g')→N s')→f N (pat g)):Ew fx f s :=
 fS hgh pat I μ g h0 h1 fun g hg=>h g hg _ fun s' g' a b c=>⟨g',⟨a,b⟩,c⟩
theorem amM {n:Nat}:((n:Int).fdiv 128)=((n/128:Nat):Int):=by rw [ybd _ (by omega)];rfl
structure VI (x:Nat) (g:Bs × Nat):Prop where
 e:vi x=g.1++vi g.2
 lt:g.2<18446744073709551616
 len:g.1.length≤10
theorem VI.next {x:Nat} {L:Bs} {n:Nat} (h:VI x (L,n)) (hx:x<18446744073709551616) (hn:¬n<128):VI x (L++[UInt8.ofNat (n%128+128)],n/128):=by
 have he:=h.e
 have hl:=Up hx
 have:=h.lt
 simp only at he this
 rw [Uq hn] at he
 refine ⟨by simp only;rw [he];simp,by simp only;omega,?_⟩
 rw [he] at hl
 simp only [yag,yaw,yaJ] at hl ⊢
 omega
set_option maxHeartbeats 1000000 in
theorem afX (x:Int) (hx:-9223372036854775808≤x∧x≤9223372036854775807):Ok 96 [.i x] (IsA (.sl 0 0 (nB x).length) [.arr 1 ((nB x).map by1)]):=by
 refine bO lw96 (by simp) ?_
 unfold c96
 simp -implicitDefEqProofs only [rX,aA,↓reduceIte,Nat.reduceEqDiff,reduceCtorEq,cxN,aO,↓aoT,↓sri,↓aoM,p1,p63,Zv hx]
 refine ⟨by omega,by omega,?_⟩
 refine Wz (.virt 1 1 (by decide) (.nilE 4 0 rfl (.refl _))) (fun g:Bs × Nat=>(⟨[(4,.sl 0 0 g.1.length),(3,n64 g.2)],[.arr 1 (g.1.map by1)],0⟩:St)) (VI (zz x)) (fun g=>g.2) ([],zz x) ⟨rfl,Uc hx,by simp⟩ ?_ ?_
 ·exact ⟨by simp -implicitDefEqProofs only [rX,↓reduceIte,Nat.reduceEqDiff,leE],aU _,trivial,by simp -implicitDefEqProofs only [rX,aC,wfE,wfV],by simp -implicitDefEqProofs only [wfB]⟩
 rintro ⟨L,n⟩ hI N hN
 have hlt:=hI.lt
 have hlen:=hI.len
 have he:=hI.e
 simp only at hlt hlen he
 have tk:yah L.length (yac by1 L)=yac by1 L:=yaf (by rw [yat];exact yad _)
 simp only [c96l0]
 simp -implicitDefEqProofs only [rX,↓rY,aA,cells?,↓reduceIte,Nat.reduceEqDiff,Nat.reduceAdd,reduceCtorEq,aF,bR,aM,aK,kill,St.kill,isD,Nat.reduceLT,Nat.reduceLeDiff,yav]
 cases h1:decide ((n:Int)>127) with
 | true =>
  have h1':=of_decide_eq_true h1
  simp -implicitDefEqProofs only [rX,↓rY,kill,St.kill,isD,↓or8,↓aoS,p7,akS hlt,amM,tk]
  refine ⟨by omega,by omega,hN _ (L++[UInt8.ofNat (n%128+128)],n/128) (hI.next (Uc hx) (by omega)) (by simp only;omega) ?_⟩
  exact ⟨by simp -implicitDefEqProofs only [rX,↓reduceIte,Nat.reduceEqDiff,leE],⟨by rw [yap];exact aS _,trivial⟩,trivial,by simp -implicitDefEqProofs only [rX,aC,wfE,wfV],by simp -implicitDefEqProofs only [wfB]⟩
 | false =>
  have h1':=of_decide_eq_false h1
  have hv:nB x=L++[UInt8.ofNat n]:=by unfold nB;rw [he,Ls (by omega)]
  simp -implicitDefEqProofs only [↓rY,Us (show n<128 by omega),tk]
  refine ⟨by omega,?_⟩
  simp -implicitDefEqProofs only [rX,↓reduceIte,aY,a7,leH,leB,aD,aC,wfB,wfV,Nat.reduceLeDiff,bC,hv,yap]
  rfl
set_option maxRecDepth 20000
theorem oX {t:Bs} (h:t.length≤140737488355000):(tB t).length≤t.length+10:=by
 have:=Eq (x:=(t.length:Int)) (by omega)
 simp only [tB,yag];omega
set_option maxHeartbeats 1000000 in
theorem akY (t:Bs) (ht:t.length≤140737488355000):Ok 72 [sv t] (IsA (.sl 1 0 (tB t).length) [.dead,.arr 1 ((tB t).map by1)]):=by
 refine bO lw72 (by simp) ?_
 unfold c72
 simp -implicitDefEqProofs only [rX,↓rY,aA,↓reduceIte,reduceCtorEq,cxN,bP,aO]
 have hn:-9223372036854775808≤((t.length:Nat):Int)∧((t.length:Nat):Int)≤9223372036854775807:=by omega
 have hl:=Eq hn
 have tk:yah (nB t.length).length (yac by1 (nB t.length))=yac by1 (nB t.length):=yaf (by rw [yat];exact yad _)
 refine gD _ _ (.sl 1 0 (nB t.length).length) _ [.arr 1 ((nB t.length).map by1)] (afX (t.length:Int) hn) (by simp [aE,aG,aL,a6,wkL,wk,wkR,bP]) (by simp [ren]) (by simp [bA]) trivial ?_
 simp -implicitDefEqProofs only [rX,↓rY,↓reduceIte,Nat.reduceEqDiff,Nat.reduceAdd,reduceCtorEq,aY,a7,leH,leB,aD,aC,wfB,wfV,aM,aK,kill,St.kill,Nat.reduceLeDiff,yav,Uy,bC,tk,tB,yap]
 omega
def i1 (x:Int):List V:=[.i x]
theorem aqZ {x:Int}:(i1 x)[0]?=some (.i x):=rfl
abbrev bI (l:List Int):V:=.bro 1 (l.map i1)
def In64 (l:List Int):Prop:=∀ x∈l,-9223372036854775808≤x∧x≤9223372036854775807
def lBk (l:List Int) (k:Nat):Bs:=nB l.length++((l.take k).map nB).flatten
theorem Xh {l:List Int}:lBk l 0=nB l.length:=by simp [lBk]
theorem Xg {l:List Int} {k:Nat} (h:k<l.length):lBk l (k+1)=lBk l k++nB l[k]:=by
 unfold lBk
 rw [←yce h,yap,ycf,yaq]
 simp
theorem Rj {l:List Int}:lBk l l.length=lB l:=by simp [lBk,lB]
theorem Kj {l:List Int} (hl:In64 l) (hn:l.length≤1000000000000):∀ {k:Nat},k≤l.length→(lBk l k).length≤10+10*k
 | 0,_=>by rw [Xh];exact Eq (by omega)
 | k+1,h=>by
  rw [Xg h,yag]
  have:=Kj hl hn (k:=k) (by omega)
  have:=Eq (hl _ (List.getElem_mem h))
  omega
theorem Xi {l:List Int} (hl:In64 l) (hn:l.length≤1000000000000):(lB l).length≤10+10*l.length:=by rw [←Rj];exact Kj hl hn (yad _)
attribute [irreducible] lBk
set_option maxHeartbeats 1000000 in
theorem aqA (l:List Int) (hl:In64 l) (hn:l.length≤1000000000000):Ok 95 [bI l,.clo 96 []] (IsA (.sl 0 0 (lB l).length) [.arr 1 ((lB l).map by1)]):=by
 refine bO lw95 (by simp) ?_
 unfold c95
 simp -implicitDefEqProofs only [rX,↓rY,aA,↓reduceIte,reduceCtorEq,cxN,aO]
 intro _
 refine gD _ _ (.sl 0 0 (nB l.length).length) _ [.arr 1 ((nB l.length).map by1)] (afX (l.length:Int) (by omega)) (by simp [aE,aG,aL,a6,wkL,wk,wkR,bP]) (by simp [ren]) (by simp [bA]) trivial ?_
 simp -implicitDefEqProofs only [rX,↓rY,aA,↓reduceIte,reduceCtorEq]
 intro _
 refine gA (fun k:Nat=>(⟨[(13,.i k),(12,.i l.length),(11,bI l),(5,.sl 0 0 (lBk l k).length),(1,.clo 96 [])],[.arr 1 ((lBk l k).map by1)],0⟩:St)) (fun k=>k≤l.length) (fun k=>l.length-k) 0 (yaz _) ?_ ?_
 ·exact ⟨by simp -implicitDefEqProofs only [rX,↓reduceIte,Nat.reduceEqDiff,reduceCtorEq,leE,Xh];rfl,⟨by rw [Xh];exact aS _,trivial⟩,trivial,by simp -implicitDefEqProofs only [rX,aC,wfE,wfV,wfL],by simp -implicitDefEqProofs only [wfB]⟩
 intro k hk N hN
 have hbl:=Kj hl hn hk
 have tk:yah (lBk l k).length (yac by1 (lBk l k))=yac by1 (lBk l k):=yaf (by rw [yat];exact yad _)
 simp only [c95l0]
 simp -implicitDefEqProofs only [rX,↓rY,↓reduceIte,Nat.reduceEqDiff,yaC,yaj]
 cases h1:decide ((k:Int)<(l.length:Int)) with
 | true =>
  have h1':=of_decide_eq_true h1
  have hk':k<l.length:=by omega
  have hx:=hl _ (List.getElem_mem hk')
  have hb2:=Eq hx
  simp -implicitDefEqProofs only [↓rY,yak hk',aqZ]
  refine ⟨by omega,hk',?_⟩
  refine gD _ _ (.sl 2 0 (nB l[k]).length) _ [.arr 1 ((nB l[k]).map by1)] (afX l[k] hx) (by simp [aE,aG,aL,a6,wkL,wk,wkR,bP]) (by simp [ren]) (by simp [bA]) trivial ?_
  have tk2:yah (nB l[k]).length (yac by1 (nB l[k]))=yac by1 (nB l[k]):=yaf (by rw [yat];exact yad _)
  simp -implicitDefEqProofs only [rX,↓rY,aA,↓reduceIte,Nat.reduceEqDiff,Nat.reduceAdd,reduceCtorEq,aM,aK,kill,bD,St.kill,yav,tk,tk2]
  refine ⟨.inr trivial,by omega,⟨by simp only [lo];omega,by simp only [Fx.hi];omega⟩,hN _ (k+1) (by omega) (by omega) ?_⟩
  exact ⟨by simp -implicitDefEqProofs only [rX,↓reduceIte,Nat.reduceEqDiff,leE,Xg hk'];rfl,⟨by rw [Xg hk',yap];exact aS _,trivial⟩,trivial,by simp -implicitDefEqProofs only [rX,aC,wfE,wfV,wfL],by simp -implicitDefEqProofs only [wfB]⟩
 | false =>
  have h1':=of_decide_eq_false h1
  have:k=l.length:=by omega
  subst this
  simp -implicitDefEqProofs only [rX,↓rY,↓reduceIte,aY,a7,leH,leB,aD,aC,wfB,wfV,Nat.reduceLeDiff,bC,Rj]
theorem alA (l:List Int) (hl:In64 l) (hn:l.length≤1000000000000):Ok 62 [bI l] (IsA (.sl 0 0 (lB l).length) [.arr 1 ((lB l).map by1)]):=by
 refine bO lw62 (by simp) ?_
 unfold c62
 simp -implicitDefEqProofs only [rX,aA,↓reduceIte,reduceCtorEq,cxN,aO]
 refine gD _ _ (.sl 0 0 (lB l).length) _ [.arr 1 ((lB l).map by1)] (aqA l hl hn) (by simp [aE,aG,aL,a6,wkL,wk,wkR,wkB]) (by simp [ren]) (by simp [bA]) trivial ?_
 simp -implicitDefEqProofs only [rX,↓reduceIte,aY,a7,leH,leB,aD,aC,wfB,wfV,Nat.reduceLeDiff,bC]
set_option maxRecDepth 20000
def sqL:LCode→LCode
 | .seq a _=>a
 | x=>x
def sqR:LCode→LCode
 | .seq _ b=>b
 | x=>x
def s1 (t:Bs):List V:=[sv t]
theorem apB {t:Bs}:(s1 t)[0]?=some (sv t):=rfl
abbrev bS (l:List Bs):V:=.bro 1 (l.map s1)
def inK (k:Int) (l:List Bs) (n:Nat):Bs:=UInt8.ofNat (k%256).toNat::((l.take n).map tB).flatten
theorem Xo {k:Int} {l:List Bs} {n:Nat} (h:n<l.length):inK k l (n+1)=inK k l n++tB l[n]:=by
 unfold inK
 rw [←yce h,yap,ycf,ybm]
 simp
theorem Rl {k:Int} {l:List Bs}:inK k l l.length=inB k l:=by simp [inK,inB]
theorem amC {k:Int} {l:List Bs}:inK k l 0=[UInt8.ofNat (k%256).toNat]:=by simp [inK]
theorem Xq {k:Int} {l:List Bs}:∀ (d n:Nat),n+d=l.length→(inK k l n).length≤(inB k l).length
 | 0,n,h=>by rw [←Rl,←h];exact yad _
 | d+1,n,h=>by
  refine ybz ?_ (Xq d (n+1) (by omega))
  rw [Xo (by omega),yag];omega
theorem Xp {k:Int} {l:List Bs} {n:Nat} (h:n<l.length):(inK k l n).length+(tB l[n]).length≤(inB k l).length∧l[n].length≤(inB k l).length:=by
 have:=Xq (k:=k) (l:=l) (l.length-(n+1)) (n+1) (by omega)
 rw [Xo h,yag] at this
 refine ⟨this,ybz ?_ (ybz (Nat.le_add_left _ _) this)⟩
 simp [tB]
attribute [irreducible] inK
theorem cJ {k:Int} {l:List Bs}:(cF k l).length=16:=by unfold cF;rw [yau,Js];rfl
def c70r:LCode:=sqR (sqR c61)
theorem c70_eq:c61=.seq (sqL c61) (.seq (sqL (sqR c61)) c70r):=rfl
theorem amT {k:Int}:IntKind.u8.wrap k=((UInt8.ofNat (k%256).toNat).toNat:Int):=by rw [Hl,UInt8.toNat_ofNat'];omega
set_option maxHeartbeats 2000000 in
theorem anI (k:Int) (l:List Bs) (hB:(inB k l).length≤1000000000000) (S:Stm) (hS:Rp S (inK k l 0)) (els:List (List V)) (e:Env) (b:Nat) (h1:get e 1=bS l) (h4:get e 4=.ptr 0 0 0) (h5:get e 5=.ptr 2 0 0) :
  aw (cxN Tryz.prog []) c70r (dD [] 0 [eK.cell 4 (some 16)] (Is (.agg (us (cF k l))))) (fun _ _=>False) (dD [] 0 [eK.cell 4 (some 16)] (Is (.agg (us (cF k l))))) ⟨e,[.var (us z16),.arr 1 els,.var S.enc],b⟩:=by
 unfold c70r
 simp -implicitDefEqProofs only [rX,↓rY,c61,sqR,aA,↓reduceIte,Nat.reduceAdd,cxN,h1]
 intro hml
 simp only [maxLen] at hml
 refine gA (fun g:Nat × Stm=>(⟨[(17,.i g.1),(16,.i l.length),(15,bS l),(5,.ptr 2 0 0),(4,.ptr 0 0 0)],[.var (us z16),.dead,.var (sC g.2.st g.2.blk g.2.n)],3⟩:St)) (fun g=>g.1≤l.length∧Rp g.2 (inK k l g.1)) (fun g=>l.length-g.1) (0,S) ⟨yaz _,hS⟩ ?_ ?_
 ·exact ⟨by simp -implicitDefEqProofs only [rX,↓reduceIte,Nat.reduceEqDiff,leE,h4,h5];rfl,⟨aS _,trivial,aS _,trivial⟩,trivial,by simp -implicitDefEqProofs only [rX,aC,wfE,wfV],by simp -implicitDefEqProofs only [rX,wfB,lD,eD]⟩
 rintro ⟨n,S⟩ ⟨hn,hS⟩ N hN
 simp only at hn hS
 have hl:=hS.len
 simp only [c61l0]
 simp -implicitDefEqProofs only [rX,↓rY,rdK,↓reduceIte,Nat.reduceEqDiff,Nat.reduceAdd,yaC,yaj]
 cases h1:decide ((n:Int)<(l.length:Int)) with
 | true =>
  have h1':=of_decide_eq_true h1
  have hn':n<l.length:=by omega
  simp -implicitDefEqProofs only [rX,↓rY,yak hn',apB,mC hl,eT hl]
  have hp:=Xp (k:=k) hn'
  refine ⟨by omega,hn',?_⟩
  refine gD _ _ (.sl 4 0 (tB l[n]).length) _ [.dead,.arr 1 ((tB l[n]).map by1)] (akY l[n] (by omega)) (by simp [aE,aG,aL,a6,wkL,wk,wkR,bP]) (by simp [ren]) (by simp [bA]) trivial ?_
  have tk:yah (tB l[n]).length (yac by1 (tB l[n]))=yac by1 (tB l[n]):=yaf (by rw [yat];exact yad _)
  simp -implicitDefEqProofs only [rX,↓rY,↓reduceIte,Nat.reduceEqDiff,tk,fE,Ma]
  refine ⟨.inr trivial,?_⟩
  refine Gk _ _ _ (afY S _ (tB l[n]) hS (by omega)) ⟨⟨(fC _ iL).1,trivial,trivial⟩,(fC _ iL).2,rfl,trivial⟩ (fun g=>by simp only [ren,Stm.enc,Cs]) trivial ?_
  intro S' hS'
  have hl':=hS'.len
  simp -implicitDefEqProofs only [rX,↓rY,aA,cells?,splice,↓reduceIte,Nat.reduceEqDiff,Nat.reduceAdd,Stm.enc,mC hl',eT hl',aaR,eT hl,Dv hl]
  rw [←Xo hn'] at hS'
  refine ⟨⟨by simp only [lo];omega,by simp only [Fx.hi];omega⟩,hN _ (n+1,S') ⟨by simp only;omega,hS'⟩ (by simp only;omega) ?_⟩
  exact ⟨by simp -implicitDefEqProofs only [rX,↓reduceIte,Nat.reduceEqDiff,leE];rfl,⟨aS _,trivial,aS _,trivial⟩,trivial,by simp -implicitDefEqProofs only [rX,aC,wfE,wfV],by simp -implicitDefEqProofs only [rX,wfB,lD,eD]⟩
 | false =>
  have h1':=of_decide_eq_false h1
  have:n=l.length:=by omega
  subst this
  rw [Rl] at hS
  simp -implicitDefEqProofs only [rX,↓rY,mC hl,eT hl]
  refine aJ (aqB S _ hS (by omega)) ⟨⟨(fC _ iL).1,trivial⟩,(fC _ iL).2,trivial⟩ (by simp [ren,cR]) trivial ?_
  have tks:(us (sha (inB k l))).take 32=us (sha (inB k l)):=yaf (by rw [fK,Js];exact yad _)
  have dz:(us z32).drop 32=[]:=yax (by rw [fK,Co];exact yad _)
  simp -implicitDefEqProofs only [rX,↓rY,aA,cells?,splice,↓reduceIte,Nat.reduceEqDiff,Nat.reduceAdd,aF,bN,aY,a7,wfV,Nat.reduceLT,Nat.reduceLeDiff,w32,fK,nR,Js,Co,dz]
  have h16:yah 16 (yas (yaD 0) (us (sha (inB k l))))=us (cF k l):=by rw [show yaD 0=0 from rfl,ybp,Cq];rfl
  have l16:=cJ (k:=k) (l:=l)
  have dz6:(us z16).drop 16=[]:=yax (by rw [fK,Ji];exact yad _)
  have tk3:(us (cF k l)).take 16=us (cF k l):=yaf (by rw [fK,l16];exact yad _)
  rw [h16,fK,l16,dz6,yar,tk3,Ji]
  exact ⟨⟨⟨by omega,by omega⟩,by omega,by omega⟩,by decide,by decide,rfl,nR,by omega,by simp,eD,rfl⟩
set_option maxHeartbeats 4000000 in
theorem Wk (k:Int) (l:List Bs) (hB:(inB k l).length≤1000000000000):Ok 61 [.i k,bS l] (Is (.agg (us (cF k l)))):=by
 refine bO lw61 (by simp) ?_
 have t73:∀ {S:Stm},Rp S (inK k l 0)→(S.enc).length=73∧(S.enc).take 73=S.enc∧S.enc.all isC=true:=fun {S} h=>⟨eT h.len,mC h.len,aaR⟩
 have d73:(yac V.v t7.toList).drop 73=[]:=rfl
 have hd:UInt8.ofNat (k%256).toNat::[]=inK k l 0:=amC.symm
 have by0:by1 (UInt8.ofNat (k%256).toNat)=[V.v (.int .u8 ((UInt8.ofNat (k%256).toNat).toNat:Int))]:=rfl
 have bo:bytesOf [[V.v (.int .u8 ((UInt8.ofNat (k%256).toNat).toNat:Int))]]=some (inK k l 0):=by rw [←hd,←by0];exact fE [_]
 have i0:(inK k l 0).length=1:=by rw [←hd];rfl
 have o97:Ok 93 [.agg S0.enc,sv (inK k l 0)] (IsQ (fun S'=>Rp S' (inK k l 0)) (fun S'=>.agg S'.enc) (fun _=>[])):=by
  have:=afY S0 [] (inK k l 0) rp0 (by rw [i0];decide)
  simpa using this
 rw [c70_eq]
 simp -implicitDefEqProofs only [rX,↓rY,c61,sqL,sqR,aA,cells?,↓reduceIte,Nat.reduceEqDiff,Nat.reduceAdd,reduceCtorEq,aF,bR,isD,Nat.reduceLT,cxN,aO,w16,amT,bo,Ma]
 repeat' first
  | exact anI k l hB _ (by assumption) _ _ _ rfl rfl rfl
  | refine And.intro ?_ ?_
  | (refine aJ aqC ⟨trivial,trivial⟩ (by simp only [ren,Stm.enc,Cs]) trivial ?_
     simp -implicitDefEqProofs only [rX,↓rY,aA,cells?,↓reduceIte,Nat.reduceEqDiff,Nat.reduceAdd,reduceCtorEq,aF,bR,isD,Nat.reduceLT,bo,Ma])
  | (refine Gk _ _ _ o97 ⟨⟨(fC _ iL).1,trivial,trivial⟩,(fC _ iL).2,rfl,trivial⟩ (fun g=>by simp only [ren,Stm.enc,Cs]) trivial ?_
     intro S hS
     simp -implicitDefEqProofs only [rX,↓rY,aA,cells?,splice,↓reduceIte,Nat.reduceEqDiff,Nat.reduceAdd,aF,Ue,d73,(t73 hS).1,(t73 hS).2.1,(t73 hS).2.2])
set_option maxRecDepth 20000
theorem abD (s k:Int) (hs:0≤s∧s≤100000) (hk:0≤k∧k≤100000):Ok 37 [.i s,.i k] (Is (.i (s*129+1+k*8))):=by
 refine bO lw37 (by simp) ?_
 unfold c37
 simp -implicitDefEqProofs only [rX,↓rY,aA,↓reduceIte,Nat.reduceEqDiff,reduceCtorEq,aY,a7,wfV,cxN,aO]
 refine ⟨⟨?_,?_⟩,⟨?_,?_⟩,⟨?_,?_⟩,?_,?_⟩<;>simp only [lo,Fx.hi]<;>omega
def gst (n:Int) (b:UInt8):Int:=IntKind.i64.wrap ((yab 64 (IntKind.i64.wrap (n*2 ^ 8)) ||| yab 64 (b.toNat:Int)).toNat:Int)
def dE (l:Bs):Int:=l.foldl gst 0
theorem Tm {l:Bs} {k:Nat} (h:k<l.length):dE (l.take (k+1))=gst (dE (l.take k)) l[k]:=by
 unfold dE
 rw [List.take_add_one,yak h,ybR];rfl
theorem alI (l:Bs):Ok 27 [byV l] (Is (.i (dE l))):=by
 refine bO lw27 (by simp) ?_
 unfold c27
 simp -implicitDefEqProofs only [rX,↓rY,aA,↓reduceIte,reduceCtorEq,cxN,aO]
 intro hl
 unfold maxLen at hl
 refine cX (fun k:Nat=>(⟨[(8,.i k),(7,.i l.length),(6,byV l),(3,.i (dE (l.take k)))],[],0⟩:St)) (fun k=>k≤l.length) (fun k=>l.length-k) 0 (yaz _) ?_ ?_
 ·simp -implicitDefEqProofs only [rX,↓reduceIte,Nat.reduceEqDiff,leE,leH,aD,wfE,wfB,wfV]
  exact ⟨rfl,rfl⟩
 intro k hk
 unfold c27l0
 simp -implicitDefEqProofs only [rX,↓rY,aA,↓reduceIte,Nat.reduceEqDiff,aY,a7,leE,leH,aD,wfE,wfB,wfV,yaC,yaj,uG]
 cases hd:decide ((k:Int)<(l.length:Int)) with
 | false =>
  have hd':=of_decide_eq_false hd
  have:k=l.length:=by omega
  subst this
  simp -implicitDefEqProofs only [↓rY,yby]
 | true =>
  have hd':=of_decide_eq_true hd
  have hkl:k<l.length:=by omega
  simp -implicitDefEqProofs only [↓rY]
  have hb:l[k].toNat<256:=UInt8.toNat_lt _
  refine ⟨⟨by omega,by omega⟩,hkl,(by decide:(0:Int)≤8),⟨by simp only [lo];omega,by simp only [Fx.hi];omega⟩,rfl,⟨by simp only [lo];omega,by simp only [Fx.hi];omega⟩,k+1,⟨by omega,by omega⟩,by omega,?_⟩
  rw [Tm hkl]
  rfl
def byB (x:Int):UInt8:=UInt8.ofNat (IntKind.u8.wrap x).toNat
def wrN:Nat→Int→Bs
 | 0,_=>[]
 | n+1,x=>wrN n (x.fdiv (2 ^ 8))++[byB x]
theorem dG:∀ {n:Nat} {x:Int},(wrN n x).length=n
 | 0,_=>rfl
 | n+1,x=>by unfold wrN;rw [yag,dG];rfl
def fR (L:Bs) (a n:Nat) (x:Int):Bs:=L.take a++wrN n x++L.drop (a+n)
theorem acI {x:Int}:V.v (.int .u8 (IntKind.u8.wrap x))=u8 (byB x):=by
 have h:0≤IntKind.u8.wrap x∧IntKind.u8.wrap x<256:=by
  simp only [IntKind.wrap]
  constructor
  ·exact Int.emod_nonneg _ (by decide)
  ·exact Int.emod_lt_of_pos _ (by decide)
 unfold byB
 show _=V.v (.int .u8 ((UInt8.ofNat _).toNat:Int))
 rw [UInt8.toNat_ofNat']
 congr 2
 omega
structure PuI (L:Bs) (a n:Nat) (x:Int) (g:Nat × Int × Bs):Prop where
 le:g.1≤n
 len:g.2.2.length=n-g.1
 eq:wrN g.1 g.2.1++g.2.2=wrN n x
def pS (L:Bs) (a n:Nat) (g:Nat × Int × Bs):Bs:=L.take (a+g.1)++g.2.2++L.drop (a+n)
theorem afV {L:Bs} {a n:Nat} {x:Int} {g:Nat × Int × Bs} (h:a+n≤L.length) (hI:PuI L a n x g):(pS L a n g).length=L.length:=by
 have:=hI.le
 have:=hI.len
 unfold pS
 simp
 omega
theorem abC (L:Bs) (a n:Nat) (x:Int) (h:a+n≤L.length):OkN Tryz.prog 60 [.sl 0 a n,.i x] [.var (us L)] [] (IsA (.tup []) [.var (us (fR L a n x))]):=by
 refine cO pol [0] lw60 (by simp) ⟨trivial,trivial⟩ (by simp) ?_
 unfold c60
 simp -implicitDefEqProofs only [rX,↓rY,aA,↓reduceIte,cxN,aO]
 intro hn
 unfold maxLen at hn
 refine ⟨by simp only [lo,Fx.hi];omega,?_⟩
 unfold c60l0
 refine cX (fun g:Nat × Int × Bs=>(⟨[(4,.i ((g.1:Int)-1)),(0,.sl 0 a n),(1,.i g.2.1)],[.var (us (pS L a n g))],1⟩:St)) (PuI L a n x) (fun g=>g.1) (n,x,[]) ⟨yad _,by simp,by simp⟩ ?_ ?_
 ·have e:pS L a n (n,x,[])=L:=by unfold pS;simp
  simp -implicitDefEqProofs only [rX,↓reduceIte,Nat.reduceEqDiff,reduceCtorEq,leE,leH,leB,aD,aC,wfE,wfB,wfV,e]
  exact ⟨iZ _,eD⟩
 rintro ⟨m,y,M⟩ hI
 have hlen:=afV h hI
 obtain ⟨h1,h2,h3⟩:=hI
 simp only at h1 h2 h3
 simp -implicitDefEqProofs only [rX,↓rY,aA,cells?,splice,↓reduceIte,Nat.reduceEqDiff,dB,reduceCtorEq,leE,leH,leB,aD,aC,wfE,wfB,wfV,isC]
 cases hd:decide ((0:Int)≤(m:Int)-1) with
 | false =>
  have hd':=of_decide_eq_false hd
  obtain rfl:m=0:=by omega
  have e:pS L a n (0,y,M)=fR L a n x:=by
   have h4:M=wrN n x:=h3
   unfold pS fR
   rw [←h4];rfl
  simp -implicitDefEqProofs only [rX,↓rY,aY,a7,leH,leB,aD,aC,wfB,wfV,wfL,bC,e]
  exact ⟨iZ _,eD⟩
 | true =>
  have hd':=of_decide_eq_true hd
  simp -implicitDefEqProofs only [↓rY,acI]
  have hm:(((m:Int)-1).toNat)=m-1:=by omega
  rw [hm,fK]
  refine ⟨⟨by omega,by omega⟩,by omega,(by decide:(0:Int)≤8),⟨by simp only [lo];omega,by simp only [Fx.hi];omega⟩,(m-1,y.fdiv (2 ^ 8),byB y::M),⟨⟨by simp only;omega,by simp only [yaw];omega,?_⟩,by simp only;omega⟩,⟨by simp only;omega,rfl⟩,?_,eD⟩
  ·obtain ⟨k,rfl⟩:∃ k,m=k+1:=⟨m-1,by omega⟩
   rw [←h3]
   show wrN k _++(byB y::M)=wrN (k+1) y++M
   have e:wrN (k+1) y=wrN k (y.fdiv (2 ^ 8))++[byB y]:=rfl
   rw [e,yaq];rfl
  ·have e:pS L a n (m-1,y.fdiv (2 ^ 8),byB y::M)=(pS L a n (m,y,M)).set (a+(m-1)) (byB y):=by
    obtain ⟨k,rfl⟩:∃ k,m=k+1:=⟨m-1,by omega⟩
    have hk:a+k<L.length:=by omega
    have e1:L.take (a+(k+1))=L.take (a+k)++[L[a+k]]:=by rw [←ybJ,List.take_add_one,yak hk];rfl
    have e2:(L.take (a+k)).length=a+k:=by rw [yau];omega
    unfold pS
    simp only [Nat.add_sub_cancel]
    rw [e1]
    simp only [yaq]
    rw [yaB _ _ (by omega),e2,ybi]
    simp
   rw [e,Ur (by omega)]
   exact iZ _
set_option maxRecDepth 20000
def giS (z:Int) (c:UInt8) (k:Nat):Int:=IntKind.u64.wrap ((yab 64 z ||| yab 64 (IntKind.u64.wrap ((IntKind.u8.wrap ((yab 8 (c.toNat:Int) &&& yab 8 127).toNat:Int))*2 ^ (7*k)))).toNat:Int)
def giE (z:Int):Int:=IntKind.i64.wrap ((yab 64 (IntKind.i64.wrap (z.fdiv (2 ^ 1))) ^^^ yab 64 (IntKind.i64.wrap (-(IntKind.i64.wrap (IntKind.u64.wrap ((yab 64 z &&& yab 64 1).toNat:Int)))))).toNat:Int)
def giR:Bs→Nat→Int→Int × Nat × Int
 | [],_,_=>(0,0,10)
 | c::r,k,z=>if (k=9∧1<c.toNat)∨(0<k∧c.toNat=0) then (0,0,11) else if c.toNat<128 then (giE (giS z c k),k+1,0) else giR r (k+1) (giS z c k)
def giO (l:Bs):Int × Nat × Int:=giR l 0 0
structure GiI (l:Bs) (g:Nat × Int):Prop where
 le:g.1≤l.length
 k9:g.1≤9
 eq:giR (l.drop g.1) g.1 g.2=giO l
theorem alN (l:Bs):Ok 118 [byV l] (Is (.tup [.i (giO l).1,.i (giO l).2.1,.i (giO l).2.2])):=by
 refine bO lw118 (by simp) ?_
 unfold c118
 simp -implicitDefEqProofs only [rX,↓rY,aA,↓reduceIte,reduceCtorEq,cxN,aO]
 intro hl
 unfold maxLen at hl
 refine gA (fun g:Nat × Int=>(⟨[(11,.i g.1),(10,.i l.length),(9,byV l),(6,.i 0),(5,.v (.int .u64 g.2))],[],0⟩:St)) (GiI l) (fun g=>l.length-g.1) (0,0) ⟨yaz _,by omega,rfl⟩ ?_ ?_
 ·simp -implicitDefEqProofs only [rX,↓reduceIte,Nat.reduceEqDiff,leE,leH,aD,wfE,wfB,wfV]
  rfl
 rintro ⟨k,z⟩ ⟨h1,h2,h3⟩ N hN
 simp only at h1 h2 h3
 unfold c118l0
 simp -implicitDefEqProofs only [rX,↓rY,aA,↓reduceIte,Nat.reduceEqDiff,reduceCtorEq,aY,a7,wfV,wfL,yaC,yaj,uG]
 cases hd:decide ((k:Int)<(l.length:Int)) with
 | false =>
  have hd':=of_decide_eq_false hd
  have:k=l.length:=by omega
  subst this
  rw [List.drop_length] at h3
  have h4:giO l=(0,0,10):=h3.symm
  simp -implicitDefEqProofs only [↓rY,h4,beq_self_eq_true]
  rfl
 | true =>
  have hd':=of_decide_eq_true hd
  have hkl:k<l.length:=by omega
  have hb:l[k].toNat<256:=UInt8.toNat_lt _
  rw [ybq hkl] at h3
  simp -implicitDefEqProofs only [↓rY]
  refine ⟨⟨by omega,by omega⟩,hkl,?_⟩
  generalize l[k]=c at *
  have hbad:((k=9∧1<c.toNat)∨(0<k∧c.toNat=0))→V.tup [V.v (Value.int IntKind.i64 0),V.v (Value.int IntKind.i64 0),V.v (Value.int IntKind.i64 11)]=V.tup [V.i (giO l).1,V.i (giO l).2.1,V.i (giO l).2.2]:=by
   intro h
   rw [←h3,giR,if_pos h]
   rfl
  have hgood:¬((k=9∧1<c.toNat)∨(0<k∧c.toNat=0))→(c.toNat<128→giO l=(giE (giS z c k),k+1,0))∧(¬c.toNat<128→k+1≤9∧giR (l.drop (k+1)) (k+1) (giS z c k)=giO l):=by
   intro h
   rw [giR,if_neg h] at h3
   refine ⟨fun h4=>by rw [if_pos h4] at h3;exact h3.symm,fun h4=>?_⟩
   rw [if_neg h4] at h3
   refine ⟨?_,h3⟩
   by_cases h9:k=9
   ·exact absurd (.inl ⟨h9,by omega⟩) h
   ·omega
  have e9:((k:Int)==9)=decide (k=9):=by rw [yaW];simp;omega
  have e1:decide ((1:Int)<(c.toNat:Int))=decide (1<c.toNat):=by rw [yaW];simp;omega
  have e0:decide ((0:Int)<(k:Int))=decide (0<k):=by rw [yaW];simp
  have ez:((c.toNat:Int)==0)=decide (c.toNat=0):=by rw [yaW];simp
  have e8:decide ((c.toNat:Int)<128)=decide (c.toNat<128):=by rw [yaW];simp;omega
  have eu:((k:Int)+1==0)=false:=by rw [beq_eq_false_iff_ne];omega
  have eA:∀ u:Int,IntKind.u8.wrap u=IntKind.u8.wrap u∧0≤IntKind.u8.wrap u∧IntKind.u8.wrap u<256:=fun u=>⟨rfl,by
   simp only [IntKind.wrap]
   exact ⟨Int.emod_nonneg _ (by decide),Int.emod_lt_of_pos _ (by decide)⟩⟩
  rw [e9,e1,e0,ez]
  by_cases hA:k=9∧1<c.toNat
  ·rw [decide_eq_true hA.1,decide_eq_true hA.2]
   simp only [we]
   exact hbad (.inl hA)
  by_cases hB:0<k∧c.toNat=0
  ·have h1c:decide (1<c.toNat)=false:=decide_eq_false (by omega)
   rw [h1c,decide_eq_true hB.1,decide_eq_true hB.2]
   simp only [we,wg]
   refine ⟨fun _=>hbad (.inr hB),fun _=>hbad (.inr hB)⟩
  obtain ⟨hg1,hg2⟩:=hgood (fun h=>h.elim hA hB)
  have hd1:decide (k=9)=true→decide (1<c.toNat)=false:=fun h=>decide_eq_false fun h2=>hA ⟨of_decide_eq_true h,h2⟩
  have hd2:decide (0<k)=true→decide (c.toNat=0)=false:=fun h=>decide_eq_false fun h2=>hB ⟨of_decide_eq_true h,h2⟩
  rw [e8,eu]
  have hk7:IntKind.u64.wrap (IntKind.u8.wrap ((yab 8 (c.toNat:Int) &&& yab 8 127).toNat:Int)*2 ^ (min (7*(k:Int)).toNat 64))=IntKind.u64.wrap (IntKind.u8.wrap ((yab 8 (c.toNat:Int) &&& yab 8 127).toNat:Int)*2 ^ (7*k)):=by
   have e:min (7*(k:Int)).toNat 64=7*k:=by omega
   rw [e]
  have hgs:giS z c k=IntKind.u64.wrap ((yab 64 z ||| yab 64 (IntKind.u64.wrap (IntKind.u8.wrap ((yab 8 (c.toNat:Int) &&& yab 8 127).toNat:Int)*2 ^ (min (7*(k:Int)).toNat 64)))).toNat:Int):=by rw [hk7];rfl
  have b8:=(eA ((yab 8 (c.toNat:Int) &&& yab 8 127).toNat:Int)).2
  have two:∀ {A B C:Prop},(decide (0<k)=true→decide (c.toNat=0)=false)→A→B→br (decide (0<k)) (br (decide (c.toNat=0)) C A) B:=by
   intro A B C h hA hB
   refine ⟨fun c1=>?_,fun _=>hB⟩
   rw [h c1]
   exact ⟨fun h=>Bool.noConfusion h,fun _=>hA⟩
  have one:∀ {A B C:Prop},(decide (k=9)=true→decide (1<c.toNat)=false)→A→B→br (decide (k=9)) (br (decide (1<c.toNat)) C A) B:=by
   intro A B C h hA hB
   refine ⟨fun c1=>?_,fun _=>hB⟩
   rw [h c1]
   exact ⟨fun h=>Bool.noConfusion h,fun _=>hA⟩
  refine one hd1 (two hd2 ?_ ?_) (two hd2 ?_ ?_)
  all_goals
   simp only [wg]
   refine ⟨⟨b8.1,Int.le_trans (Int.le_of_lt b8.2) (by decide:(256:Int)≤Fx.hi .u64)⟩,⟨by simp only [lo];omega,by simp only [Fx.hi];omega⟩,(by omega:(0:Int)≤7*(k:Int)),rfl,fun h8=>⟨⟨by simp only [lo];omega,by simp only [Fx.hi];omega⟩,?_⟩,fun h8=>⟨⟨by simp only [lo];omega,by simp only [Fx.hi];omega⟩,?_⟩⟩
   ·rw [hg1 (of_decide_eq_true h8),hgs]
    exact ⟨(by decide:(0:Int)≤1),rfl,trivial,rfl⟩
   ·obtain ⟨q1,q2⟩:=hg2 (of_decide_eq_false h8)
    refine hN _ (k+1,giS z c k) ⟨by simp only;omega,q1,q2⟩ (by simp only;omega) ?_
    rw [hgs]
    simp -implicitDefEqProofs only [rX,↓reduceIte,Nat.reduceEqDiff,leE,leH,aD,wfE,wfB,wfV]
    exact ⟨by omega,rfl⟩
def lnO (l:Bs):Int × Int × Int:=if (giO l).2.2≠0 then (0,0,(giO l).2.2) else if (giO l).1<0 then (0,0,11) else if (l.length:Int)-(giO l).2.1<(giO l).1 then (0,0,10) else ((giO l).1,((giO l).2.1:Int),0)
theorem adX:∀ {l:Bs} {k:Nat} {z:Int},(giR l k z).2.1≤k+l.length
 | [],k,z=>by simp [giR]
 | c::r,k,z=>by
  unfold giR
  split
  ·simp
  ·split
   ·simp
   ·have:=adX (l:=r) (k:=k+1) (z:=giS z c k)
    simp only [yaw];omega
theorem adY {l:Bs}:(giO l).2.1≤l.length:=by
 have:=adX (l:=l) (k:=0) (z:=0)
 unfold giO;omega
theorem apZ (l:Bs):Ok 97 [byV l,.i 1] (Is (.tup [.i (lnO l).1,.i (lnO l).2.1,.i (lnO l).2.2])):=by
 refine bO lw97 (by simp) ?_
 unfold c97
 simp -implicitDefEqProofs only [rX,aA,↓reduceIte,reduceCtorEq,cxN,aO]
 refine aJ (alN l) ⟨⟨trivial,trivial⟩,⟨rfl,rfl⟩,trivial⟩ rfl trivial ?_
 have hb:=adY (l:=l)
 have hl:lnO l=if (giO l).2.2≠0 then (0,0,(giO l).2.2) else if (giO l).1<0 then (0,0,11) else if (l.length:Int)-(giO l).2.1<(giO l).1 then (0,0,10) else ((giO l).1,((giO l).2.1:Int),0):=rfl
 generalize giO l=g at *
 obtain ⟨g1,g2,g3⟩:=g
 simp only at hb hl
 simp -implicitDefEqProofs only [rX,↓rY,aA,↓reduceIte,Nat.reduceEqDiff,reduceCtorEq,aY,a7,wfV,wfL]
 refine ⟨fun h=>?_,fun h=>⟨fun h2=>?_,fun h2 hm=>?_⟩⟩
 ·rw [hl,if_pos (by simpa using h)]
 ·rw [hl,if_neg (by simpa using h),if_pos (of_decide_eq_true h2)]
 ·unfold maxLen at hm
  rw [hl,if_neg (by simpa using h),if_neg (of_decide_eq_false h2),Int.tdiv_one]
  refine ⟨⟨by simp only [lo];omega,by simp only [Fx.hi];omega⟩,by decide,⟨by simp only [lo];omega,by simp only [Fx.hi];omega⟩,fun h3=>?_,fun h3=>?_⟩
  ·rw [if_pos (of_decide_eq_true h3)]
  ·rw [if_neg (of_decide_eq_false h3)]
def gbO (l:Bs):Bs × Int × Int:=if (lnO l).2.2≠0 then ([],0,(lnO l).2.2) else ((l.drop (lnO l).2.1.toNat).take (lnO l).1.toNat,(lnO l).2.1+(lnO l).1,0)
theorem adQ {l:Bs} (h:(lnO l).2.2=0):(0≤(lnO l).1∧0≤(lnO l).2.1)∧(lnO l).2.1+(lnO l).1≤l.length:=by
 have hb:=adY (l:=l)
 unfold lnO at h ⊢
 split at h
 ·rename_i h1
  exact absurd h h1
 ·rename_i h1
  rw [if_neg h1]
  split at h
  ·exact absurd h (by decide)
  ·rename_i h2
   rw [if_neg h2]
   split at h
   ·exact absurd h (by decide)
   ·rename_i h3
    rw [if_neg h3]
    simp only
    omega
theorem aqI (l:Bs) (hlen:l.length≤1000000):Ok 66 [byV l] (Is (.tup [sv (gbO l).1,.i (gbO l).2.1,.i (gbO l).2.2])):=by
 refine bO lw66 (by simp) ?_
 unfold c66
 simp -implicitDefEqProofs only [rX,aA,↓reduceIte,reduceCtorEq,cxN,dC,aO]
 refine aJ (apZ l) ⟨⟨trivial,trivial,trivial⟩,⟨rfl,rfl⟩,rfl,trivial⟩ rfl trivial ?_
 have hb:=adQ (l:=l)
 have hl:gbO l=if (lnO l).2.2≠0 then ([],0,(lnO l).2.2) else ((l.drop (lnO l).2.1.toNat).take (lnO l).1.toNat,(lnO l).2.1+(lnO l).1,0):=rfl
 generalize lnO l=g at *
 obtain ⟨g1,g2,g3⟩:=g
 simp only at hb hl
 simp -implicitDefEqProofs only [rX,↓rY,aA,↓reduceIte,Nat.reduceEqDiff,reduceCtorEq,bN,aY,a7,wfV,wfL]
 refine ⟨fun h=>?_,fun h=>?_⟩
 ·rw [hl,if_pos (by simpa using h)]
 ·have h0:g3=0:=by simpa using h
  obtain ⟨⟨b1,b2⟩,b3⟩:=hb h0
  rw [hl,if_neg (by simpa using h)]
  have e1:(g2+g1).toNat-g2.toNat=g1.toNat:=by omega
  rw [e1,←ybe,←yaL,fE]
  refine ⟨⟨by simp only [lo];omega,by simp only [Fx.hi];omega⟩,⟨⟨b2,by omega⟩,by omega,by omega⟩,.inr trivial,⟨by simp only [lo];omega,by simp only [Fx.hi];omega⟩,rfl⟩
def Xz (fx:List Nat) (v:V) (r:List Nat) (s:St) (K:St→Prop):Prop :=
 match v with
 | .sl k _ _=>Kr fx k (blk s.h k) s fun s'=>pV fx r s' K
 | _=>pV fx r s K
theorem mM {fx:List Nat} {s:St} {K:St→Prop}:pV fx [] s K=K s:=rfl
theorem mN {fx:List Nat} {x:Nat} {r:List Nat} {e:Env} {h:List Blk} {b:Nat} {K:St→Prop}:pV fx (x::r) ⟨e,h,b⟩ K=Xz fx (get e x) r ⟨e,h,b⟩ K:=rfl
theorem mK {fx:List Nat} {k i n:Nat} {r:List Nat} {e:Env} {h:List Blk} {b:Nat} {K:St→Prop}:Xz fx (.sl k i n) r ⟨e,h,b⟩ K=Kr fx k (blk h k) ⟨e,h,b⟩ fun s'=>pV fx r s' K:=rfl
theorem mO {fx:List Nat} {k sz:Nat} {els:List (List V)} {e:Env} {h:List Blk} {b:Nat} {K:St→Prop}:Kr fx k (.arr sz els) ⟨e,h,b⟩ K=(k∉fx∧K ⟨pW k sz els e,(h.map (lI k sz els)).set k .dead,b⟩):=rfl
@[congr] theorem asA {fx:List Nat} {v v':V} {r:List Nat} {s:St} {K:St→Prop} (q:v=v'):Xz fx v r s K=Xz fx v' r s K:=by rw [q]
@[congr] theorem asC {fx:List Nat} {k:Nat} {B B':Blk} {s:St} {K:St→Prop} (q:B=B'):Kr fx k B s K=Kr fx k B' s K:=by rw [q]
@[congr] theorem asB {fx xs:List Nat} {s s':St} {K:St→Prop} (q:s=s'):pV fx xs s K=pV fx xs s' K:=by rw [q]
theorem fM {cx:Cx} {e:Env} {h:List Blk} {b:Nat} {K:V→St→Prop} {xs:List Nat} {j sz n:Nat} {z:List Value} {ps:List (Nat × Operand)}:aOp cx (.litsf xs j sz n z ps) ⟨e,h,b⟩ K =
  pV (cx.fx++cx.bn) xs ⟨e,h,b⟩ fun s=>bR s.e sz (yaa n (z.map .v)) ps fun els=>aF s.h (s.b+j)∧K (.sl (s.b+j) 0 n) { s with h:=s.h.set (s.b+j) (.arr sz els) }:=rfl
theorem mL {fx:List Nat} {k:Nat} {l:List (List V)} {r:List Nat} {s:St} {K:St→Prop}:Xz fx (.ro k l) r s K=pV fx r s K:=rfl
set_option maxRecDepth 20000
def pt:Nat→LCode→LCode
 | 0,.seq a _=>a
 | n+1,.seq _ b=>pt n b
 | _,c=>c
def rt:Nat→LCode→LCode
 | 0,c=>c
 | n+1,.seq _ b=>rt n b
 | _,c=>c
def acM:LCode→LCode
 | .block _ c=>c
 | c=>c
abbrev cT:Cx:=cxN Tryz.prog []
theorem t8 {l:Bs} {n:Nat} (h:l.length=n):(us l).length=n∧(us l).take n=us l∧(us l).drop n=[]:=by
 have hl:(us l).length=n:=by rw [fK,h]
 exact ⟨hl,yaf (by omega),yax (by omega)⟩
theorem zU (n:Nat):yac V.v (yaU n (Value.int IntKind.u8 0)).toList=us (yaa n 0):=by
 rw [Array.toList_replicate,List.map_replicate]
 unfold us
 rw [List.map_replicate];rfl
def Cf (seg k gen seq:Int) (c:Bs):Bs:=cF 141 [lB [seg,k,gen,seq],c]
theorem akZ (seg k gen seq:Int) (c:Bs) (h:In64 [seg,k,gen,seq]) (hc:c.length≤1000000):Ok 65 [.i seg,.i k,.i gen,.i seq,sv c] (Is (.agg (us (Cf seg k gen seq c)))):=by
 refine bO lw65 (by simp) ?_
 unfold c65
 simp -implicitDefEqProofs only [rX,↓rY,aA,cells?,↓reduceIte,Nat.reduceEqDiff,Nat.reduceAdd,reduceCtorEq,aF,bR,isD,Nat.reduceLT,cxN,dC,aO]
 rw [zU 16]
 have hZ:(yaa 16 (0:UInt8)).length=16:=by simp
 generalize yaa 16 (0:UInt8)=Z at *
 have hlB:=Xi (l:=[seg,k,gen,seq]) h (by simp)
 simp only [yaw,yaJ] at hlB
 refine gD [bI [seg,k,gen,seq]] (.sl 0 0 (lB [seg,k,gen,seq]).length) (.sl 3 0 (lB [seg,k,gen,seq]).length) [.arr 1 ((lB [seg,k,gen,seq]).map by1)] [.arr 1 ((lB [seg,k,gen,seq]).map by1)] (alA [seg,k,gen,seq] h (by simp)) (by simp [aE,aG,aL,a6,wkL,wk,wkB,blk];exact ⟨rfl,rfl,rfl,rfl⟩) (by simp [ren]) (by simp [bA]) trivial ?_
 simp -implicitDefEqProofs only [rX,↓rY,aA,cells?,↓reduceIte,Nat.reduceEqDiff,Nat.reduceAdd,reduceCtorEq,aF,bR,isD,Nat.reduceLT]
 have tk:yah (lB [seg,k,gen,seq]).length ((lB [seg,k,gen,seq]).map by1)=(lB [seg,k,gen,seq]).map by1:=yaf (by simp)
 have hin:(inB 141 [lB [seg,k,gen,seq],c]).length≤1000000000000:=by
  have h1:=oX (t:=lB [seg,k,gen,seq]) (by omega)
  have h2:=oX (t:=c) (by omega)
  unfold inB
  simp
  omega
 rw [tk,fE,qat]
 refine ⟨.inr trivial,?_⟩
 refine aJ (Wk 141 [lB [seg,k,gen,seq],c] hin) ⟨⟨trivial,yad 2,trivial⟩,rfl,⟨rfl,rfl⟩,trivial⟩ (by simp [ren,cR]) trivial ?_
 obtain ⟨u1,u2,u3⟩:=t8 (cJ (k:=141) (l:=[lB [seg,k,gen,seq],c]))
 obtain ⟨z1,z2,z3⟩:=t8 hZ
 simp -implicitDefEqProofs only [rX,↓rY,cells?,splice,↓reduceIte,Nat.reduceEqDiff,aY,a7,wfV,u1,u2,z1,z3,nR,eD]
 rfl
theorem Kt:∀ l:Bs,(l.map by1).flatten=us l
 | []=>by simp [us]
 | c::r=>by rw [yal,ybP,Kt r];simp [us,by1]
theorem rE:∀ l:List V,(l.map fun c=>[c]).flatten=l
 | []=>rfl
 | c::r=>by rw [yal,ybP,rE r];rfl
def l9 (L:Bs) (a:Nat) (B:Bs):Bs:=L.take a++B++L.drop (a+B.length)
theorem tJ {L B:Bs} {a:Nat}:yah a (us L)++us B++yas (a+(us B).length) (us L)=us (l9 L a B):=by
 unfold l9
 rw [fK,Cq,Jn]
 unfold us
 rw [yap,yap]
theorem We {L B:Bs} {a:Nat} (h:a+B.length≤L.length):(l9 L a B).length=L.length:=by
 unfold l9;simp;omega
theorem tN {A C X B:Bs} (h:X.length=B.length):l9 (A++(X++C)) A.length B=A++(B++C):=by
 unfold l9
 rw [ybS,←ybA,yaN,←h,yaN,yaq]
def Fl (seg gen:Int):Bs:=[87,83,69,71]++(wrN 8 gen++(cF 140 [lB [seg,gen]]++yaa 36 0))
theorem Ig {seg gen:Int}:(Fl seg gen).length=64:=by
 unfold Fl
 simp [dG,cJ]
theorem c33_parts:c28=.seq (pt 0 c28) (.seq (pt 1 c28) (.seq (pt 2 c28) (.seq (pt 3 c28) (.seq (pt 4 c28) (rt 5 c28))))):=by rfl
section
variable {N R:St→Prop} {X:Nat→St→Prop} {e:Env} {bb:Nat} {L:Bs} {seg gen:Int}
structure E33 (seg gen:Int) (e:Env):Prop where
 g0:get e 0=.i seg
 g1:get e 1=.i gen
 g4:get e 4=.ptr 0 0 0
theorem aiX (hL:L.length=64) (hE:E33 seg gen e) (hN:∀ e b,E33 seg gen e→N ⟨e,[.var (us (l9 L 0 [87,83,69,71]))],b⟩):aw cT (pt 1 c28) N X R ⟨e,[.var (us L)],bb⟩:=by
 obtain ⟨g0,g1,g4⟩:=hE
 conv=>arg 2;whnf
 simp -implicitDefEqProofs only [rX,↓rY,aA,splice,↓reduceIte,bN,yaj,cxN,g4]
 have hs:eM { data:=#[87,83,69,71] }=yac by1 [87,83,69,71]:=Uy (t:=[87,83,69,71])
 have hz:yah (64-yaD 0) (yac by1 [87,83,69,71])=yac by1 [87,83,69,71]:=rfl
 rw [hs,hz,Kt,tJ,fK,hL]
 refine ⟨⟨by decide,by decide,by decide⟩,by decide,hN _ _ ⟨g0,g1,g4⟩⟩
theorem aiW (hL:L.length=64) (hE:E33 seg gen e) (hN:∀ e b,E33 seg gen e→N ⟨e,[.var (us (fR L 4 8 gen))],b⟩):aw cT (pt 2 c28) N X R ⟨e,[.var (us L)],bb⟩:=by
 obtain ⟨g0,g1,g4⟩:=hE
 conv=>arg 2;whnf
 simp -implicitDefEqProofs only [rX,↓rY,kh,aA,↓reduceIte,Nat.reduceEqDiff,bN,cxN,g4,g1]
 rw [fK,hL]
 refine ⟨⟨by decide,by decide,by decide,by decide⟩,?_⟩
 refine l6 [0] [.sl 0 4 8,.i gen] (.tup []) (.tup []) [.var (us L)] [.var (us (fR L 4 8 gen))] [.var (us (fR L 4 8 gen))] (abC L 4 8 gen (by omega)) (by simp) (by simp [blk,bA,cR]) (by simp [aE,aG,aL,a6,wkL,wk,pos]) (by simp) (by simp [aN,bA,cR]) rfl trivial ?_
 simp -implicitDefEqProofs only [rX]
 exact hN _ _ ⟨g0,g1,g4⟩
abbrev hdD (seg gen:Int):Bs:=cF 140 [lB [seg,gen]]
abbrev h33 (L:Bs) (seg gen:Int):List Blk:=[.var (us L),.arr 1 [[.i seg],[.i gen]],.arr 1 [[sv (lB [seg,gen])]],.var (us (hdD seg gen)),.arr 1 ((lB [seg,gen]).map by1)]
theorem aiV (h:In64 [seg,gen]) (hE:E33 seg gen e) (hN:∀ e b,E33 seg gen e→get e 5=.ptr 3 0 0→N ⟨e,h33 L seg gen,b⟩):aw cT (pt 3 c28) N X R ⟨e,[.var (us L)],bb⟩:=by
 obtain ⟨g0,g1,g4⟩:=hE
 have hlB:=Xi (l:=[seg,gen]) h (by simp)
 simp only [yaw,yaJ] at hlB
 conv=>arg 2;whnf
 simp -implicitDefEqProofs only [rX,↓rY,cells?,↓reduceIte,Nat.reduceEqDiff,Nat.reduceAdd,aF,bR,isD,Nat.reduceLT,cxN,dC,g0,g1]
 refine gD [bI [seg,gen]] (.sl 0 0 (lB [seg,gen]).length) (.sl 4 0 (lB [seg,gen]).length) [.arr 1 ((lB [seg,gen]).map by1)] [.arr 1 ((lB [seg,gen]).map by1)] (alA [seg,gen] h (by simp)) (by simp [aE,aG,aL,a6,wkL,wk,wkB,blk];exact ⟨rfl,rfl⟩) (by simp [ren]) (by simp [bA]) trivial ?_
 have tk:yah (lB [seg,gen]).length ((lB [seg,gen]).map by1)=(lB [seg,gen]).map by1:=yaf (by simp)
 have hin:(inB 140 [lB [seg,gen]]).length≤1000000000000:=by
  have h1:=oX (t:=lB [seg,gen]) (by omega)
  unfold inB
  simp
  omega
 simp -implicitDefEqProofs only [rX,↓rY,aA,cells?,↓reduceIte,Nat.reduceAdd,aF,bR,isD,Nat.reduceLT]
 rw [tk,fE,qat]
 refine ⟨.inr trivial,?_⟩
 refine aJ (Wk 140 [lB [seg,gen]] hin) ⟨⟨trivial,yad 1,trivial⟩,rfl,⟨rfl,rfl⟩,trivial⟩ (by simp [ren,cR]) trivial ?_
 obtain ⟨u1,u2,u3⟩:=t8 (cJ (k:=140) (l:=[lB [seg,gen]]))
 simp -implicitDefEqProofs only [rX,↓rY,aA,cells?,splice,↓reduceIte,Nat.reduceEqDiff,Nat.reduceAdd,aF,u1,nR]
 rw [zU 16]
 obtain ⟨z1,z2,z3⟩:=t8 (l:=yaa 16 0) (n:=16) (by simp)
 rw [z3,yar]
 refine ⟨by simp,hN _ _ ⟨g0,g1,g4⟩ ?_⟩
 rfl
theorem aiU (hL:L.length=64) (hE:E33 seg gen e) (g5:get e 5=.ptr 3 0 0) (hN:∀ e b,E33 seg gen e→N ⟨e,h33 (l9 L 12 (hdD seg gen)) seg gen,b⟩):aw cT (pt 4 c28) N X R ⟨e,h33 L seg gen,bb⟩:=by
 obtain ⟨g0,g1,g4⟩:=hE
 have hD:(hdD seg gen).length=16:=cJ
 conv=>arg 2;whnf
 simp -implicitDefEqProofs only [rX,↓rY,aA,splice,↓reduceIte,Nat.reduceEqDiff,Nat.reduceAdd,bN,↓qbx,yaj,cxN,g4,g5]
 have t1:yah (16-yaD 0) (yas (yaD 0) (us (hdD seg gen)))=us (hdD seg gen):=(t8 hD).2.1
 have t2:yah (64-yaD 12) (yac (fun c=>[c]) (us (hdD seg gen)))=yac (fun c=>[c]) (us (hdD seg gen)):=yaf (by rw [yat,fK,hD];decide)
 rw [t1,t2,rE,tJ,fK,fK,hL,hD]
 refine ⟨⟨by decide,by decide,by decide⟩,⟨by decide,by decide,by decide⟩,⟨by decide,Sn⟩,.inr trivial,by decide,hN _ _ ⟨g0,g1,g4⟩⟩
end
theorem alH (seg gen:Int) (h:In64 [seg,gen]):Ok 28 [.i seg,.i gen] (Is (.agg (us (Fl seg gen)))):=by
 refine bO lw28 (by simp) ?_
 rw [c33_parts]
 simp -implicitDefEqProofs only [zb]
 conv=>arg 2;whnf
 simp -implicitDefEqProofs only [rX,↓rY,aA,cells?,aF,cxN,aO]
 rw [zU 64]
 have hZ:(yaa 64 (0:UInt8)).length=64:=by simp
 have hd4:yas 4 (yaa 64 (0:UInt8))=yaa 8 0++yaa 52 0:=by decide
 have hw:(hdD seg gen).length=16:=cJ
 refine aiX hZ ⟨rfl,rfl,rfl⟩ fun e _ hE=>?_
 have p1:l9 (yaa 64 0) 0 [87,83,69,71]=[87,83,69,71]++(yaa 8 0++(yaa 16 0++yaa 36 0)):=by decide
 rw [p1]
 simp -implicitDefEqProofs only [zb]
 refine aiW (by simp) hE fun e _ hE=>?_
 have p2:fR ([87,83,69,71]++(yaa 8 0++(yaa 16 0++yaa 36 0))) 4 8 gen=[87,83,69,71]++(wrN 8 gen++(yaa 16 0++yaa 36 0)):=by
  have:=tN (A:=[87,83,69,71]) (X:=yaa 8 0) (B:=wrN 8 gen) (C:=yaa 16 0++yaa 36 0) (by rw [dG];simp)
  unfold l9 at this
  rw [dG] at this
  exact this
 rw [p2]
 simp -implicitDefEqProofs only [zb]
 refine aiV h hE fun e _ hE g5=>?_
 simp -implicitDefEqProofs only [zb]
 refine aiU (by simp [dG]) hE g5 fun e _ hE=>?_
 have p3:l9 ([87,83,69,71]++(wrN 8 gen++(yaa 16 0++yaa 36 0))) 12 (hdD seg gen)=Fl seg gen:=by
  have:=tN (A:=[87,83,69,71]++wrN 8 gen) (X:=yaa 16 0) (B:=hdD seg gen) (C:=yaa 36 0) (by rw [hw];simp)
  rw [yag,dG,yaq] at this
  rw [show Fl seg gen=_ from rfl,←yaq [87,83,69,71] (wrN 8 gen)]
  exact this
 rw [p3]
 obtain ⟨g0,g1,g4⟩:=hE
 obtain ⟨u1,u2,u3⟩:=t8 (Ig (seg:=seg) (gen:=gen))
 conv=>arg 2;whnf
 simp -implicitDefEqProofs only [rX,↓rY,cells?,splice,↓reduceIte,Nat.reduceEqDiff,Nat.reduceAdd,aY,a7,wfV,g4,u1,u2,u3,nR,eD]
set_option maxRecDepth 20000
theorem afF {a b:Bs}:sb a++sb b=sb (a++b):=by
 apply ByteArray.ext
 rw [ByteArray.data_append]
 simp [sb]
structure dV where
 gen:Int
 seq:Int
 key:Bs
 data:Bs
def dV.enc (s:dV):List V:=[.i s.gen,.i s.seq,sv s.key,sv s.data]
def dV.c (s:dV):Bs:=tB s.key++s.data
structure dV.Ok (s:dV):Prop where
 g:-9223372036854775808≤s.gen∧s.gen≤9223372036854775807
 q:-9223372036854775808≤s.seq∧s.seq≤9223372036854775807
 k:s.key.length≤100000
 d:s.data.length≤100000
theorem dV.cl {s:dV} (h:s.Ok):s.c.length≤300000:=by
 have:=oX (t:=s.key) (by have:=h.k;omega)
 have:=h.k
 have:=h.d
 unfold dV.c
 rw [yag]
 omega
def eY (seg k:Int) (s:dV):Bs:=Cf seg k s.gen s.seq s.c++(wrN 8 s.gen++(wrN 8 s.seq++(wrN 2 s.c.length++(s.c.take 478++yaa (478-s.c.length) 0))))
theorem hO {seg k:Int} {s:dV}:(eY seg k s).length=512:=by
 have:(Cf seg k s.gen s.seq s.c).length=16:=cJ
 unfold eY
 simp [dG,this]
 omega
theorem c40_parts:c35=.seq (pt 0 c35) (.seq (pt 1 c35) (.seq (pt 2 c35) (.seq (pt 3 c35) (.seq (pt 4 c35) (.seq (pt 5 c35) (.seq (pt 6 c35) (.seq (pt 7 c35) (rt 8 c35)))))))):=by rfl
structure E40 (seg k:Int) (e:Env):Prop where
 g0:get e 0=.i seg
 g1:get e 1=.i k
 g5:get e 5=.ptr 0 0 0
 g6:get e 6=.ptr 1 0 0
section
variable {N R:St→Prop} {X:Nat→St→Prop} {e:Env} {bb:Nat} {L:Bs} {seg k:Int} {s:dV}
theorem aiP (hs:s.Ok) (hE:E40 seg k e) (hN:∀ e b,E40 seg k e→get e 7=sv s.c→N ⟨e,[.var s.enc,.var (us L),.dead,.arr 1 ((tB s.key).map by1)],b⟩):aw cT (pt 1 c35) N X R ⟨e,[.var s.enc,.var (us L)],bb⟩:=by
 obtain ⟨g0,g1,g5,g6⟩:=hE
 conv=>arg 2;whnf
 simp -implicitDefEqProofs only [rX,↓rY,rdK,↓reduceIte,Nat.reduceEqDiff,Nat.reduceAdd,cxN,g5,dV.enc]
 have tk:yah (tB s.key).length ((tB s.key).map by1)=(tB s.key).map by1:=yaf (by simp)
 refine gD [sv s.key] (.sl 1 0 (tB s.key).length) (.sl 3 0 (tB s.key).length) [.dead,.arr 1 ((tB s.key).map by1)] [.dead,.arr 1 ((tB s.key).map by1)] (akY s.key (by have:=hs.k;omega)) (by simp [aE,aG,aL,a6,wkL,wk]) (by simp [ren]) (by simp [bA]) trivial ?_
 simp -implicitDefEqProofs only [rX,↓rY,qH,↓reduceIte,Nat.reduceEqDiff,↓qbH,bP]
 rw [tk,fE,qat]
 have hk:=hs.k
 have hd:=hs.d
 have hl:=oX (t:=s.key) (by omega)
 rw [Ma,afF]
 refine ⟨.inr trivial,?_,hN _ _ ⟨g0,g1,g5,g6⟩ rfl⟩
 show (tB s.key).length+s.data.length≤_
 omega
theorem zD (n:Nat) {D:Bs} (h:D.length=n):us D++yas n (yac V.v (yaU n (Value.int IntKind.u8 0)).toList)=us D:=by
 rw [yax (by simp),yar]
abbrev sD (seg k:Int) (s:dV):Bs:=Cf seg k s.gen s.seq s.c
abbrev h40 (L:Bs) (seg k:Int) (s:dV):List Blk:=[.var s.enc,.var (us L),.dead,.arr 1 ((tB s.key).map by1),.var (us (sD seg k s))]
theorem aiO (hs:s.Ok) (h1:In64 [seg,k]) (hE:E40 seg k e) (g7:get e 7=sv s.c) (hN:∀ e b,E40 seg k e→get e 7=sv s.c→get e 8=.ptr 4 0 0→N ⟨e,h40 L seg k s,b⟩):aw cT (pt 2 c35) N X R ⟨e,[.var s.enc,.var (us L),.dead,.arr 1 ((tB s.key).map by1)],bb⟩:=by
 obtain ⟨g0,g1,g5,g6⟩:=hE
 have h64:In64 [seg,k,s.gen,s.seq]:=by
  intro x hx
  simp only [ybh,yaR,or_false] at hx
  rcases hx with rfl|rfl|rfl|rfl
  ·exact h1 _ (by simp)
  ·exact h1 _ (by simp)
  ·exact hs.g
  ·exact hs.q
 have hD:(Cf seg k s.gen s.seq s.c).length=16:=cJ
 have hcl:=dV.cl hs
 conv=>arg 2;whnf
 simp -implicitDefEqProofs only [rX,↓rY,↓reduceIte,Nat.reduceEqDiff,Nat.reduceAdd,cxN,g0,g1,g5,g7,dV.enc]
 refine aJ (akZ seg k s.gen s.seq s.c h64 (by omega)) ⟨⟨trivial,trivial,trivial,trivial,trivial,trivial⟩,rfl,rfl,rfl,rfl,rfl,trivial⟩ (by simp [ren,cR]) trivial ?_
 obtain ⟨u1,u2,u3⟩:=t8 hD
 simp -implicitDefEqProofs only [rX,↓rY,aA,cells?,splice,↓reduceIte,Nat.reduceEqDiff,aF,u1,nR,zD 16 hD]
 refine ⟨by simp,hN _ _ ⟨g0,g1,g5,g6⟩ ?_ ?_⟩
 ·exact g7
 ·rfl
theorem aiN (hL:L.length=512) (hE:E40 seg k e) (g7:get e 7=sv s.c) (g8:get e 8=.ptr 4 0 0) (hN:∀ e b,E40 seg k e→get e 7=sv s.c→N ⟨e,h40 (l9 L 0 (sD seg k s)) seg k s,b⟩):aw cT (pt 3 c35) N X R ⟨e,h40 L seg k s,bb⟩:=by
 obtain ⟨g0,g1,g5,g6⟩:=hE
 have hD:(sD seg k s).length=16:=cJ
 conv=>arg 2;whnf
 simp -implicitDefEqProofs only [rX,↓rY,splice,↓reduceIte,Nat.reduceEqDiff,Nat.reduceAdd,bN,↓qbx,yaj,cxN,g6,g8]
 have t1:yah (16-yaD 0) (yas (yaD 0) (us (sD seg k s)))=us (sD seg k s):=(t8 hD).2.1
 have t2:yah (512-yaD 0) (yac (fun c=>[c]) (us (sD seg k s)))=yac (fun c=>[c]) (us (sD seg k s)):=yaf (by rw [yat,fK,hD];decide)
 rw [t1,t2,rE,tJ,fK,fK,hL,hD]
 refine ⟨⟨by decide,by decide,by decide⟩,⟨by decide,by decide,by decide⟩,⟨by decide,Sn⟩,.inr trivial,by decide,hN _ _ ⟨g0,g1,g5,g6⟩ g7⟩
theorem aiM (hL:L.length=512) (hE:E40 seg k e) (g7:get e 7=sv s.c) (hN:∀ e b,E40 seg k e→get e 7=sv s.c→N ⟨e,h40 (fR L 16 8 s.gen) seg k s,b⟩):aw cT (pt 4 c35) N X R ⟨e,h40 L seg k s,bb⟩:=by
 obtain ⟨g0,g1,g5,g6⟩:=hE
 conv=>arg 2;whnf
 simp -implicitDefEqProofs only [rX,↓rY,kh,aA,↓reduceIte,Nat.reduceEqDiff,Nat.reduceAdd,bN,cxN,g6,g5,dV.enc]
 rw [fK,hL]
 refine ⟨⟨by decide,by decide,by decide,by decide⟩,?_⟩
 refine l6 [1] [.sl 0 16 8,.i s.gen] (.tup []) (.tup []) [.var (us L)] [.var (us (fR L 16 8 s.gen))] (h40 (fR L 16 8 s.gen) seg k s) (abC L 16 8 s.gen (by omega)) (by simp) (by simp [blk,bA,cR]) (by simp [aE,aG,aL,a6,wkL,wk,pos]) (by simp) (by simp [aN,bA,cR]) rfl trivial ?_
 simp -implicitDefEqProofs only [rX]
 exact hN _ _ ⟨g0,g1,g5,g6⟩ g7
theorem aiL (hL:L.length=512) (hE:E40 seg k e) (g7:get e 7=sv s.c) (hN:∀ e b,E40 seg k e→get e 7=sv s.c→N ⟨e,h40 (fR L 24 8 s.seq) seg k s,b⟩):aw cT (pt 5 c35) N X R ⟨e,h40 L seg k s,bb⟩:=by
 obtain ⟨g0,g1,g5,g6⟩:=hE
 conv=>arg 2;whnf
 simp -implicitDefEqProofs only [rX,↓rY,kh,aA,↓reduceIte,Nat.reduceEqDiff,Nat.reduceAdd,bN,cxN,g6,g5,dV.enc]
 rw [fK,hL]
 refine ⟨⟨by decide,by decide,by decide,by decide⟩,?_⟩
 refine l6 [1] [.sl 0 24 8,.i s.seq] (.tup []) (.tup []) [.var (us L)] [.var (us (fR L 24 8 s.seq))] (h40 (fR L 24 8 s.seq) seg k s) (abC L 24 8 s.seq (by omega)) (by simp) (by simp [blk,bA,cR]) (by simp [aE,aG,aL,a6,wkL,wk,pos]) (by simp) (by simp [aN,bA,cR]) rfl trivial ?_
 simp -implicitDefEqProofs only [rX]
 exact hN _ _ ⟨g0,g1,g5,g6⟩ g7
theorem aiK (hL:L.length=512) (hE:E40 seg k e) (g7:get e 7=sv s.c) (hN:∀ e b,E40 seg k e→get e 7=sv s.c→N ⟨e,h40 (fR L 32 2 s.c.length) seg k s,b⟩):aw cT (pt 6 c35) N X R ⟨e,h40 L seg k s,bb⟩:=by
 obtain ⟨g0,g1,g5,g6⟩:=hE
 conv=>arg 2;whnf
 simp -implicitDefEqProofs only [rX,↓rY,kh,aA,↓reduceIte,Nat.reduceEqDiff,Nat.reduceAdd,bN,cxN,bP,g6,g7]
 rw [fK,hL]
 refine ⟨⟨by decide,by decide,by decide,by decide⟩,?_⟩
 refine l6 [1] [.sl 0 32 2,.i s.c.length] (.tup []) (.tup []) [.var (us L)] [.var (us (fR L 32 2 s.c.length))] (h40 (fR L 32 2 s.c.length) seg k s) (abC L 32 2 s.c.length (by omega)) (by simp) (by simp [blk,bA,cR]) (by simp [aE,aG,aL,a6,wkL,wk,pos]) (by simp) (by simp [aN,bA,cR]) rfl trivial ?_
 simp -implicitDefEqProofs only [rX]
 exact hN _ _ ⟨g0,g1,g5,g6⟩ g7
theorem aiJ (hL:L.length=512) (hE:E40 seg k e) (g7:get e 7=sv s.c) (hN:∀ e b,E40 seg k e→N ⟨e,h40 (l9 L 34 (s.c.take 478)) seg k s,b⟩):aw cT (pt 7 c35) N X R ⟨e,h40 L seg k s,bb⟩:=by
 obtain ⟨g0,g1,g5,g6⟩:=hE
 conv=>arg 2;whnf
 simp -implicitDefEqProofs only [rX,↓rY,aA,splice,↓reduceIte,Nat.reduceEqDiff,Nat.reduceAdd,bN,yaj,cxN,g6,g7,Uy]
 have t1:yah (512-yaD 34) (yac by1 s.c)=yac by1 (s.c.take 478):=by rw [yaL];rfl
 rw [t1,Kt,tJ,fK,hL]
 exact ⟨⟨by decide,by decide,by decide⟩,by decide,hN _ _ ⟨g0,g1,g5,g6⟩⟩
end
theorem Ek {A C X:Bs} {n:Nat} {x:Int} (h:X.length=n):fR (A++(X++C)) A.length n x=A++(wrN n x++C):=by
 have:=tN (A:=A) (X:=X) (C:=C) (B:=wrN n x) (by rw [dG,h])
 unfold l9 at this
 rw [dG] at this
 exact this
theorem amR {seg k:Int} {s:dV}:l9 (fR (fR (fR (l9 (yaa 512 0) 0 (sD seg k s)) 16 8 s.gen) 24 8 s.seq) 32 2 s.c.length) 34 (s.c.take 478)=eY seg k s:=by
 have hD:(sD seg k s).length=16:=cJ
 have e0:(yaa 512 (0:UInt8))=[]++(yaa 16 0++(yaa 8 0++(yaa 8 0++(yaa 2 0++yaa 478 0)))):=by simp
 have e1:l9 (yaa 512 0) 0 (sD seg k s)=sD seg k s++(yaa 8 0++(yaa 8 0++(yaa 2 0++yaa 478 0))):=by
  rw [e0]
  exact tN (A:=[]) (by rw [hD];simp)
 have e2:∀ C:Bs,fR (sD seg k s++(yaa 8 0++C)) 16 8 s.gen=sD seg k s++(wrN 8 s.gen++C):=fun C=>by
  have:=Ek (A:=sD seg k s) (X:=yaa 8 0) (C:=C) (n:=8) (x:=s.gen) (by simp)
  rwa [hD] at this
 have e3:∀ C:Bs,fR (sD seg k s++(wrN 8 s.gen++(yaa 8 0++C))) 24 8 s.seq=sD seg k s++(wrN 8 s.gen++(wrN 8 s.seq++C)):=fun C=>by
  have:=Ek (A:=sD seg k s++wrN 8 s.gen) (X:=yaa 8 0) (C:=C) (n:=8) (x:=s.seq) (by simp)
  rwa [yag,hD,dG,yaq,yaq] at this
 have e4:∀ C:Bs,fR (sD seg k s++(wrN 8 s.gen++(wrN 8 s.seq++(yaa 2 0++C)))) 32 2 s.c.length=sD seg k s++(wrN 8 s.gen++(wrN 8 s.seq++(wrN 2 s.c.length++C))):=fun C=>by
  have:=Ek (A:=sD seg k s++(wrN 8 s.gen++wrN 8 s.seq)) (X:=yaa 2 0) (C:=C) (n:=2) (x:=s.c.length) (by simp)
  simp only [yag,hD,dG,yaq] at this
  exact this
 rw [e1,e2,e3,e4]
 have e5:(yaa 478 (0:UInt8))=yaa (s.c.take 478).length 0++yaa (478-s.c.length) 0:=by
  rw [List.replicate_append_replicate,yau]
  congr 1
  omega
 rw [e5]
 have:=tN (A:=sD seg k s++(wrN 8 s.gen++(wrN 8 s.seq++wrN 2 s.c.length))) (X:=yaa (s.c.take 478).length 0) (C:=yaa (478-s.c.length) 0) (B:=s.c.take 478) (by simp)
 simp only [yag,hD,dG,yaq] at this
 exact this
theorem afZ (seg k:Int) (s:dV) (h:In64 [seg,k]) (hs:s.Ok):Ok 35 [.i seg,.i k,.agg s.enc] (Is (.agg (us (eY seg k s)))):=by
 refine bO lw35 (by simp) ?_
 rw [c40_parts]
 simp -implicitDefEqProofs only [zb]
 conv=>arg 2;whnf
 have hen:s.enc.length=4:=rfl
 simp -implicitDefEqProofs only [rX,↓rY,aA,cells?,↓reduceIte,Nat.reduceEqDiff,Nat.reduceAdd,reduceCtorEq,aF,cxN,aO]
 rw [zU 512]
 have hD:(sD seg k s).length=16:=cJ
 have hc:(s.c.take 478).length≤478:=by rw [yau];omega
 have l0:(yaa 512 (0:UInt8)).length=512:=by simp
 have l1:(l9 (yaa 512 0) 0 (sD seg k s)).length=512:=by rw [We (by rw [hD,l0];omega),l0]
 have lL:∀ {L:Bs} {a n:Nat} {x:Int},a+n≤L.length→(fR L a n x).length=L.length:=fun {L a n x} h=>by unfold fR;simp [dG];omega
 have e40:=amR (seg:=seg) (k:=k) (s:=s)
 generalize yaa 512 (0:UInt8)=Z at *
 refine aiP hs (L:=Z) ⟨rfl,rfl,rfl,rfl⟩ fun e _ hE g7=>?_
 simp -implicitDefEqProofs only [zb]
 refine aiO hs h hE g7 fun e _ hE g7 g8=>?_
 simp -implicitDefEqProofs only [zb]
 refine aiN l0 hE g7 g8 fun e _ hE g7=>?_
 simp -implicitDefEqProofs only [zb]
 refine aiM l1 hE g7 fun e _ hE g7=>?_
 have l2:(fR (l9 Z 0 (sD seg k s)) 16 8 s.gen).length=512:=by rw [lL (by omega),l1]
 simp -implicitDefEqProofs only [zb]
 refine aiL l2 hE g7 fun e _ hE g7=>?_
 have l3:(fR (fR (l9 Z 0 (sD seg k s)) 16 8 s.gen) 24 8 s.seq).length=512:=by rw [lL (by omega),l2]
 simp -implicitDefEqProofs only [zb]
 refine aiK l3 hE g7 fun e _ hE g7=>?_
 have l4:(fR (fR (fR (l9 Z 0 (sD seg k s)) 16 8 s.gen) 24 8 s.seq) 32 2 s.c.length).length=512:=by rw [lL (by omega),l3]
 simp -implicitDefEqProofs only [zb]
 refine aiJ l4 hE g7 fun e _ hE=>?_
 rw [e40]
 obtain ⟨g0,g1,g5,g6⟩:=hE
 obtain ⟨u1,u2,u3⟩:=t8 (hO (seg:=seg) (k:=k) (s:=s))
 conv=>arg 2;whnf
 simp -implicitDefEqProofs only [rX,↓rY,cells?,splice,↓reduceIte,Nat.reduceEqDiff,Nat.reduceAdd,aY,a7,wfV,g6,u1,u2,u3,nR,eD]
end Go.Fx.K
namespace Go.Fx.K
open Go Go.Fx Go.Proofs Go.RowKit
set_option maxHeartbeats 4000000
set_option maxRecDepth 1000000
theorem Pp (p q:Addr) (w:World) :
  CallsD Tryz.prog 63 #[.pointer (some p),.pointer (some q)] .returning w fun e u' w'=>e=.returned (.tuple #[])∧u'=.returning∧w'=w:=by
 refine callsD_of_wpS Tryz.func63 rfl fun c₀ cs hu=>?_
 apply wpS_seq
 apply wpS_region
 simp [wpOpsS,go_sem,recoverD,hu,Tryz.ntmps63,Exit.thenS]
 refine wpS_of_wp ?_
 go_wp2
 cases c₀
 simp_all [bodyPostS,results,Tryz.results63]
theorem cM {w:World} {b:Addr} {u:Value} (a:Addr) (v:Value) (h:w.cell? b=some u):(w.setCell a v).cell? b=some (if a=b then v else u):=by
 by_cases e:a=b
 ·subst e
  rw [if_pos rfl]
  exact World.cell?_setCell_same w a v h
 ·rw [if_neg e,World.cell?_setCell_other w a b v e]
  exact h
theorem Xn (w:World):(Instr.typeAssert (Value.iface 139 (Value.agg #[])) 20 139 true).run Tryz.prog w=.ok (.tuple #[.agg #[],.bool true]) w:=by
 rfl
theorem Lc (B C n:Nat) (x1 x2 x3 x4 y:Value) (older:List PanicEntry) (w:World) (hB:n≤B) (hC:n≤C) (hBC:B≠C) (hn:n≤w.heap.size) (h1:w.cell? ⟨B,0,none⟩=some x1) (h2:w.cell? ⟨B,1,none⟩=some x2) (h3:w.cell? ⟨B,2,none⟩=some x3) (h4:w.cell? ⟨B,3,none⟩=some x4) (h5:w.cell? ⟨C,0,none⟩=some y)
  (z1:w.frozen? ⟨B,0,none⟩=false) (z2:w.frozen? ⟨B,1,none⟩=false) (z3:w.frozen? ⟨B,2,none⟩=false) (z4:w.frozen? ⟨B,3,none⟩=false) (z5:w.frozen? ⟨C,0,none⟩=false) :
  CallsD Tryz.prog 63 #[.pointer (some ⟨B,0,none⟩),.pointer (some ⟨C,0,none⟩)] (.panicking ({ v:=.iface 139 (.agg #[]),recovered:=false }::older)) w fun e u' w'=>e=.returned (.tuple #[])∧u'=.panicking ({ v:=.iface 139 (.agg #[]),recovered:=true }::older) ∧
   (w'.cell? ⟨B,0,none⟩=some (.int .i64 0)∧w'.cell? ⟨B,1,none⟩=some (.int .i64 0)∧w'.cell? ⟨B,2,none⟩=some (.string ⟨#[]⟩)∧w'.cell? ⟨B,3,none⟩=some (.string ⟨#[]⟩)∧w'.cell? ⟨C,0,none⟩=some (.bool false))∧Below n w w':=by
 have n1:=World.new_ne w _ h1
 have n2:=World.new_ne w _ h2
 have n3:=World.new_ne w _ h3
 have n4:=World.new_ne w _ h4
 have n5:=World.new_ne w _ h5
 have fA:∀ a:Addr,w.heap.size≠a.block→w.frozen? a=false→(w.alloc (.cells #[] 139)).frozen? a=false:=fun a ha hz=>by rw [World.frozen?_alloc_old w _ a (Ne.symm ha)];exact hz
 have cA:∀ (a:Addr) (u:Value),w.heap.size≠a.block→w.cell? a=some u→(w.alloc (.cells #[] 139)).cell? a=some u:=fun a u ha hz=>by rw [World.cell?_alloc_old w _ a (Ne.symm ha)];exact hz
 have y1:=fA _ n1 z1
 have y2:=fA _ n2 z2
 have y3:=fA _ n3 z3
 have y4:=fA _ n4 z4
 have y5:=fA _ n5 z5
 have k1:=cA _ _ n1 h1
 have k2:=cA _ _ n2 h2
 have k3:=cA _ _ n3 h3
 have k4:=cA _ _ n4 h4
 have k5:=cA _ _ n5 h5
 refine callsD_of_wpS Tryz.func63 rfl fun c₀ cs hu=>?_
 apply wpS_seq
 apply wpS_region
 simp [wpOpsS,go_sem,recoverD,hu,Tryz.ntmps63,Exit.thenS]
 refine wpS_of_wp ?_
 have hta:=Xn
 go_wp2
 simp [bodyPostS,results,Tryz.results63]
 refine ⟨?_,(((((Below.refl n w).alloc hn _).setCell hB _).setCell hB _).setCell hB _).setCell hB _ |>.setCell hC _⟩
 have hCB:=Ne.symm hBC
 refine ⟨?_,?_,?_,?_,?_⟩
 ·rw [cM _ _ (cM _ _ (cM _ _ (cM _ _ (cM _ _ k1))))];simp [hBC,hCB]
 ·rw [cM _ _ (cM _ _ (cM _ _ (cM _ _ (cM _ _ k2))))];simp [hBC,hCB]
 ·rw [cM _ _ (cM _ _ (cM _ _ (cM _ _ (cM _ _ k3))))];simp [hBC,hCB]
 ·rw [cM _ _ (cM _ _ (cM _ _ (cM _ _ (cM _ _ k4))))];simp [hBC,hCB]
 ·rw [cM _ _ (cM _ _ (cM _ _ (cM _ _ (cM _ _ k5))))];simp [hBC,hCB]
end Go.Fx.K
namespace Go.Fx.K
open Go Go.Fx Go.Proofs Go.RowKit
set_option maxHeartbeats 4000000
set_option maxRecDepth 1000000
abbrev usV (t:Bs):List Value:=t.map fun c=>Value.int .u8 c.toNat
section
variable {ρ:Nat→Loc} {X:Nat→Prop} {w w1:World}
theorem Ij (hr:Rep ρ X w []) (h:Below w.heap.size w w1):Fr ρ w ρ w1:=⟨h.os,h.tape,h.output,h.size,fun b hb ho=>⟨h.block b hb,ho⟩⟩
theorem Ea (hr:Rep ρ X w []) (h:Below w.heap.size w w1):Rep ρ X w1 [] :=
 ⟨hr.inj,hr.out,fun k b hk=>by simp at hk,hr.disj,fun k hk=>Nat.lt_of_lt_of_le (hr.lt k hk) h.size,hr.xfr (Ij hr h)⟩
theorem Wq (hr:Rep ρ X w []):∀ b,¬Own ρ b:=by
 rintro b ⟨k,hk,_⟩
 rw [hr.out k (yaz _)] at hk;cases hk
theorem Tu {ρ':Nat→Loc} (hr:Rep ρ X w []) (h:Fr ρ w ρ' w1):Below w.heap.size w w1 :=
 ⟨h.os,h.tape,h.output,h.size,fun b hb=>(h.keep b hb (Wq hr b)).1⟩
theorem lift {f:FuncId} {xs:List V} {r:V} {vals:List Value} (o:Ok f xs (Is r)) (hr:Rep ρ X w []) (hb:Below w.heap.size w w1) (ha:bL ρ X w1 xs vals) :
  Calls Tryz.prog f vals.toArray w1 fun e w2=>∃ val ρ',e=.returned val∧aX ρ' X w2 r val∧Below w1.heap.size w1 w2:=by
 have hr1:=Ea hr hb
 refine Calls.mono (o.2 ρ X w1 vals hr1 ha) ?_
 rintro e w2 ⟨val,r',h',ρ',rfl,⟨⟨rfl,rfl⟩,_⟩,hf,hr2,hv,_⟩
 exact ⟨val,ρ',rfl,hv,Tu hr1 hf⟩
theorem oV:∀ {t:Bs} {a:List Value},bL ρ X w (us t) a→a=usV t
 | [],[],_=>rfl
 | [],_::_,h=>by simp only [us,yaS,bL] at h
 | _::_,[],h=>by simp only [us,yal,bL] at h
 | c::r,v::a,h=>by
  simp only [us,yal,bL] at h
  have h3:v=.int .u8 c.toNat:=h.1
  have h4:a=usV r:=oV (t:=r) (a:=a) (by unfold us;exact h.2)
  rw [h3,h4];rfl
theorem Oo:∀ {t:Bs},bL ρ X w (us t) (usV t)
 | []=>by simp only [us,yaS,bL]
 | c::r=>by
  have h:=Oo (t:=r)
  unfold us at h
  simp only [us,yal,bL]
  exact ⟨rfl,h⟩
theorem Qp {B:Nat}:∀ {l:Bs} {off:Nat},(∀ j (h:j<l.length),w.cell? ⟨B,off+j,none⟩=some (.int .u8 l[j].toNat))→cP (Sta ρ X w) w 1 B off (l.map by1)
 | [],_,_=>trivial
 | c::r,off,h=>⟨⟨rfl,⟨_,h 0 (by simp),rfl,rfl⟩,trivial⟩,Qp fun j hj=>by
   have:=h (j+1) (by simpa using hj)
   rw [show off+1+j=off+(j+1) by omega]
   exact this⟩
theorem Vr (hr:Rep ρ X w []) (hB:Below w.heap.size w w1) {B off cap:Nat} {l:Bs} (h:∀ j (h:j<l.length),w1.cell? ⟨B,off+j,none⟩=some (.int .u8 l[j].toNat)) (hb:B<w1.heap.size) (hc:l.length≤cap∧cap≤maxLen):aX ρ X w1 (byV l) (.slice (some ⟨B,off,none⟩) l.length cap) :=
 ⟨_,l.length,cap,rfl,by simp,hc.1,hc.2,.inr ⟨B,off,rfl,⟨hb,Wq hr B⟩,Qp h⟩⟩
end
def Ax (b:Bs):Int:=dE ((b.drop 16).take 8)
def Gf (b:Bs):Int:=dE ((b.drop 24).take 8)
def Kv (b:Bs):Int:=dE ((b.drop 32).take 2)
def pX (b:Bs):Bs:=(b.drop 34).take (Kv b).toNat
def Ge (b:Bs):dV:=⟨Ax b,Gf b,(gbO (pX b)).1,(pX b).drop (gbO (pX b)).2.1.toNat⟩
def Kw (b:Bs):Prop:=(0<Ax b∧Ax b≤1152921504606846976)∧(0<Gf b∧Gf b≤1152921504606846976)∧Kv b≤478
instance {b:Bs}:Decidable (Kw b):=by unfold Kw;infer_instance
def lV (seg k:Int) (b:Bs):Option dV :=
 if Kw b then
  if Cf seg k (Ax b) (Gf b) (pX b)=b.take 16 then
   if (gbO (pX b)).2.2=0 then
    if eY seg k (Ge b)=b then some (Ge b) else none
   else none
  else none
 else none
def slV (o:Option dV):Value:=match o with
 | some s=>.agg #[.int .i64 s.gen,.int .i64 s.seq,.string (sb s.key),.string (sb s.data)]
 | none=>.agg #[.int .i64 0,.int .i64 0,.string ⟨#[]⟩,.string ⟨#[]⟩]
structure DS (n:Nat) (b:Bs) (x1 x2 x3 x4 y:Value) (W:World):Prop where
 by':∀ j (h:j<b.length),W.cell? ⟨n,j,none⟩=some (.int .u8 b[j].toNat)
 c1:W.cell? ⟨n+1,0,none⟩=some x1
 c2:W.cell? ⟨n+1,1,none⟩=some x2
 c3:W.cell? ⟨n+1,2,none⟩=some x3
 c4:W.cell? ⟨n+1,3,none⟩=some x4
 cy:W.cell? ⟨n+1+1,0,none⟩=some y
 f1:W.frozen? ⟨n+1,0,none⟩=false
 f2:W.frozen? ⟨n+1,1,none⟩=false
 f3:W.frozen? ⟨n+1,2,none⟩=false
 f4:W.frozen? ⟨n+1,3,none⟩=false
 fy:W.frozen? ⟨n+1+1,0,none⟩=false
 sz:n+3≤W.heap.size
section
variable {n:Nat} {b:Bs} {x1 x2 x3 x4 y:Value} {W W':World}
theorem DS.go (h:DS n b x1 x2 x3 x4 y W) (hb:Below W.heap.size W W'):DS n b x1 x2 x3 x4 y W':=by
 obtain ⟨h0,h1,h2,h3,h4,h5,f1,f2,f3,f4,f5,hs⟩:=h
 have lt:∀ {k j},k<n+3→W'.cell? ⟨k,j,none⟩=W.cell? ⟨k,j,none⟩:=fun {k j} hk=>hb.cell (p:=⟨k,j,none⟩) (by show k<_;omega)
 have lf:∀ {k j},k<n+3→W'.frozen? ⟨k,j,none⟩=W.frozen? ⟨k,j,none⟩:=fun {k j} hk=>hb.frozen (p:=⟨k,j,none⟩) (by show k<_;omega)
 exact ⟨fun j hj=>(lt (by omega)).trans (h0 j hj),(lt (by omega)).trans h1,(lt (by omega)).trans h2,(lt (by omega)).trans h3,(lt (by omega)).trans h4,(lt (by omega)).trans h5,(lf (by omega)).trans f1,(lf (by omega)).trans f2,(lf (by omega)).trans f3,(lf (by omega)).trans f4,(lf (by omega)).trans f5,ybz hs hb.size⟩
theorem far {a c:Addr} {v:Value} (h:a.block≠c.block):(W.setCell a v).cell? c=W.cell? c:=World.cell?_setCell_far W a c v h
theorem nar {a c:Addr} {v:Value} (h:a≠c):(W.setCell a v).cell? c=W.cell? c:=World.cell?_setCell_other W a c v h
theorem DS.s1 (h:DS n b x1 x2 x3 x4 y W) (v:Value):DS n b v x2 x3 x4 y (W.setCell ⟨n+1,0,none⟩ v):=by
 obtain ⟨h0,h1,h2,h3,h4,h5,f1,f2,f3,f4,f5,hs⟩:=h
 refine ⟨fun j hj=>(far (by simp)).trans (h0 j hj),World.cell?_setCell_same _ _ _ h1,(nar (by simp)).trans h2,(nar (by simp)).trans h3,(nar (by simp)).trans h4,(far (by simp)).trans h5,?_,?_,?_,?_,?_,by simpa [World.setCell] using hs⟩<;>rw [World.frozen?_setCell]<;>assumption
theorem DS.s2 (h:DS n b x1 x2 x3 x4 y W) (v:Value):DS n b x1 v x3 x4 y (W.setCell ⟨n+1,1,none⟩ v):=by
 obtain ⟨h0,h1,h2,h3,h4,h5,f1,f2,f3,f4,f5,hs⟩:=h
 refine ⟨fun j hj=>(far (by simp)).trans (h0 j hj),(nar (by simp)).trans h1,World.cell?_setCell_same _ _ _ h2,(nar (by simp)).trans h3,(nar (by simp)).trans h4,(far (by simp)).trans h5,?_,?_,?_,?_,?_,by simpa [World.setCell] using hs⟩<;>rw [World.frozen?_setCell]<;>assumption
theorem DS.s3 (h:DS n b x1 x2 x3 x4 y W) (v:Value):DS n b x1 x2 v x4 y (W.setCell ⟨n+1,2,none⟩ v):=by
 obtain ⟨h0,h1,h2,h3,h4,h5,f1,f2,f3,f4,f5,hs⟩:=h
 refine ⟨fun j hj=>(far (by simp)).trans (h0 j hj),(nar (by simp)).trans h1,(nar (by simp)).trans h2,World.cell?_setCell_same _ _ _ h3,(nar (by simp)).trans h4,(far (by simp)).trans h5,?_,?_,?_,?_,?_,by simpa [World.setCell] using hs⟩<;>rw [World.frozen?_setCell]<;>assumption
theorem DS.s4 (h:DS n b x1 x2 x3 x4 y W) (v:Value):DS n b x1 x2 x3 v y (W.setCell ⟨n+1,3,none⟩ v):=by
 obtain ⟨h0,h1,h2,h3,h4,h5,f1,f2,f3,f4,f5,hs⟩:=h
 refine ⟨fun j hj=>(far (by simp)).trans (h0 j hj),(nar (by simp)).trans h1,(nar (by simp)).trans h2,(nar (by simp)).trans h3,World.cell?_setCell_same _ _ _ h4,(far (by simp)).trans h5,?_,?_,?_,?_,?_,by simpa [World.setCell] using hs⟩<;>rw [World.frozen?_setCell]<;>assumption
theorem aaI (j:Nat) (h:j<b.length):(usV b).toArray[j]?=some (.int .u8 b[j].toNat):=by
 rw [List.getElem?_toArray,yaM,yak h];rfl
theorem DS.zero (w:World):DS w.heap.size b (.int .i64 0) (.int .i64 0) (.string ⟨#[]⟩) (.string ⟨#[]⟩) (.bool false) (((w.alloc (.cells (usV b).toArray 89)).alloc (.cells #[.int .i64 0,.int .i64 0,.string ⟨#[]⟩,.string ⟨#[]⟩] 93)).alloc (.cells #[.bool false] 4)):=by
 have s1:∀ (W:World) (o:Obj),(W.alloc o).heap.size=W.heap.size+1:=fun W o=>World.size_alloc W o
 have s2:∀ (W:World) (o o':Obj),((W.alloc o).alloc o').heap.size=W.heap.size+1+1:=fun W o o'=>by rw [s1,s1]
 refine ⟨fun j hj=>?_,?_,?_,?_,?_,?_,?_,?_,?_,?_,?_,?_⟩
 ·rw [World.cell?_alloc_past _ _ _ (by rw [s2];omega),World.cell?_alloc_past _ _ _ (by rw [s1];omega),World.cell?_alloc_at _ _ _ _ rfl]
  exact aaI j hj
 ·rw [World.cell?_alloc_past _ _ _ (by rw [s2];omega),World.cell?_alloc_at _ _ _ _ (s1 _ _).symm];rfl
 ·rw [World.cell?_alloc_past _ _ _ (by rw [s2];omega),World.cell?_alloc_at _ _ _ _ (s1 _ _).symm];rfl
 ·rw [World.cell?_alloc_past _ _ _ (by rw [s2];omega),World.cell?_alloc_at _ _ _ _ (s1 _ _).symm];rfl
 ·rw [World.cell?_alloc_past _ _ _ (by rw [s2];omega),World.cell?_alloc_at _ _ _ _ (s1 _ _).symm];rfl
 ·rw [World.cell?_alloc_at _ _ _ _ (s2 _ _ _).symm];rfl
 ·rw [World.frozen?_alloc_past _ _ _ (by rw [s2];omega),World.frozen?_alloc_at _ _ _ _ (s1 _ _).symm]
 ·rw [World.frozen?_alloc_past _ _ _ (by rw [s2];omega),World.frozen?_alloc_at _ _ _ _ (s1 _ _).symm]
 ·rw [World.frozen?_alloc_past _ _ _ (by rw [s2];omega),World.frozen?_alloc_at _ _ _ _ (s1 _ _).symm]
 ·rw [World.frozen?_alloc_past _ _ _ (by rw [s2];omega),World.frozen?_alloc_at _ _ _ _ (s1 _ _).symm]
 ·rw [World.frozen?_alloc_at _ _ _ _ (s2 _ _ _).symm]
 ·rw [s1,s2];omega
theorem Sl (w:World) (o1 o2 o3:Obj):Below w.heap.size w (((w.alloc o1).alloc o2).alloc o3) :=
 have s1:∀ (W:World) (o:Obj),(W.alloc o).heap.size=W.heap.size+1:=fun W o=>World.size_alloc W o
 (((Below.refl _ w).alloc (yad _) _).alloc (by rw [s1];omega) _).alloc (by rw [s1,s1];omega) _
end
theorem Lk {n:Nat} {w W:World} (h:Below n w W) (k j:Nat) (v:Value) (hk:n≤k):Below n w (W.setCell ⟨k,j,none⟩ v):=h.setCell (by exact hk) v
theorem amF {ρ:Nat→Loc} {X:Nat→Prop} {w W2:World} {n:Nat} {b:Bs} {x1 x2 x3 x4 y:Value} (hr:Rep ρ X w []) (hb:Below w.heap.size w W2) (hd:DS n b x1 x2 x3 x4 y W2) (off len cap:Nat) (h:off+len≤b.length) (hc:len≤cap∧cap≤maxLen) :
  Calls Tryz.prog 27 #[.slice (some ⟨n,off,none⟩) len cap] W2 fun e W3=>e=.returned (.int .i64 (dE ((b.drop off).take len)))∧Below W2.heap.size W2 W3:=by
 have hl:((b.drop off).take len).length=len:=by rw [yau,yaA];omega
 have hs:∀ j (h:j<((b.drop off).take len).length),W2.cell? ⟨n,off+j,none⟩=some (.int .u8 ((b.drop off).take len)[j].toNat):=fun j hj=>by
  rw [hl] at hj
  rw [hd.by' (off+j) (by omega)]
  simp
 have hv:=Vr (X:=X) hr hb (cap:=cap) hs (by have:=hd.sz;omega) (by rw [hl];exact hc)
 rw [hl] at hv
 refine (lift (alI _) hr hb (vals:=[_]) ⟨hv,trivial⟩).mono ?_
 rintro e w2 ⟨val,ρ',rfl,h1,h2⟩
 have h3:val=.int .i64 (dE ((b.drop off).take len)):=h1
 exact ⟨by rw [h3],h2⟩
theorem Sd (W:World):Calls Tryz.prog 64 #[.bool true] W fun e W'=>e=.returned (.tuple #[])∧W'=W:=by
 go_enter Tryz.func64,Tryz.ntmps64
 go_wp2
 simp [bodyPost,results,Tryz.results64]
theorem Nm (W:World):Calls Tryz.prog 64 #[.bool false] W fun e W'=>e=.panicked [{ v:=.iface 139 (.agg #[]),recovered:=false }]∧W'=W:=by
 go_enter Tryz.func64,Tryz.ntmps64
 go_wp2
 simp [bodyPost]
theorem ajX {n:Nat} {b:Bs} {x1 x2 x3 x4 y:Value} {W:World} (hd:DS n b x1 x2 x3 x4 y W) (tmps:Array Value) (h6:tmps.getD 6 undef=.pointer (some ⟨n+1,0,none⟩)) (h7:tmps.getD 7 undef=.pointer (some ⟨n+1+1,0,none⟩)) :
  (results Tryz.f30 tmps).run Tryz.prog W=.ok (.tuple #[.agg #[x1,x2,x3,x4],y]) W:=by
 have c1:=hd.c1
 have c2:=hd.c2
 have c3:=hd.c3
 have c4:=hd.c4
 have cy:=hd.cy
 have e:Tryz.f30.results=#[.cell 6 93,.cell 7 4]:=by rfl
 unfold results
 rw [e]
 simp only [ybT,ybU,ybV,h6,h7]
 go_simp
theorem anH {w W:World} {b:Bs} {x1 x2 x3 x4 y:Value} (hd:DS w.heap.size b x1 x2 x3 x4 y W) (hb:Below w.heap.size w W) (tmps:Array Value) (h6:tmps.getD 6 undef=.pointer (some ⟨w.heap.size+1,0,none⟩)) (h7:tmps.getD 7 undef=.pointer (some ⟨w.heap.size+1+1,0,none⟩)) :
  Leaves Tryz.prog Tryz.f30 tmps (fun e w'=>e=.returned (.tuple #[slV none,.bool false])∧Below w.heap.size w w') [{ target:=.fn (.func 63) #[.pointer (some ⟨w.heap.size+1,0,none⟩),.pointer (some ⟨w.heap.size+1+1,0,none⟩)],args:=#[] }] (.panicking [{ v:=.iface 139 (.agg #[]),recovered:=false }]) W:=by
 obtain ⟨h0,h1,h2,h3,h4,h5,f1,f2,f3,f4,f5,hs⟩:=hd
 refine leaves_cons (f:=63) (args:=#[.pointer (some ⟨w.heap.size+1,0,none⟩),.pointer (some ⟨w.heap.size+1+1,0,none⟩)]) (by simp) (by simp [go_sem]) ?_
 refine (Lc (w.heap.size+1) (w.heap.size+1+1) w.heap.size x1 x2 x3 x4 y [] W (by omega) (by omega) (by omega) (by omega) h1 h2 h3 h4 h5 f1 f2 f3 f4 f5).mono ?_
 rintro e u' w' ⟨rfl,rfl,⟨k1,k2,k3,k4,k5⟩,hb'⟩
 refine ⟨_,?_,rfl,hb.trans hb'⟩
 have e:Tryz.f30.results=#[.cell 6 93,.cell 7 4]:=by rfl
 unfold results
 rw [e]
 simp only [ybT,ybU,ybV,h6,h7]
 go_simp
 rfl
theorem agT {w W:World} {b:Bs} {x1 x2 x3 x4 y:Value} (hd:DS w.heap.size b x1 x2 x3 x4 y W) (hb:Below w.heap.size w W) (tmps:Array Value) (h6:tmps.getD 6 undef=.pointer (some ⟨w.heap.size+1,0,none⟩)) (h7:tmps.getD 7 undef=.pointer (some ⟨w.heap.size+1+1,0,none⟩)) :
  Leaves Tryz.prog Tryz.f30 tmps (fun e w'=>e=.returned (.tuple #[.agg #[x1,x2,x3,x4],y])∧Below w.heap.size w w') [{ target:=.fn (.func 63) #[.pointer (some ⟨w.heap.size+1,0,none⟩),.pointer (some ⟨w.heap.size+1+1,0,none⟩)],args:=#[] }] .returning W:=by
 refine leaves_cons (f:=63) (args:=#[.pointer (some ⟨w.heap.size+1,0,none⟩),.pointer (some ⟨w.heap.size+1+1,0,none⟩)]) (by simp) (by simp [go_sem]) ?_
 refine (Pp _ _ W).mono ?_
 rintro e u' w' ⟨rfl,rfl,rfl⟩
 exact ⟨_,ajX hd tmps h6 h7,rfl,hb⟩
theorem adB {x:Int} (h:-9223372036854775808≤x∧x≤9223372036854775807):IntKind.i64.wrap x=x:=by
 simp only [IntKind.wrap,IntKind.bits,IntKind.signed]
 simp
 omega
theorem Da {n:Int} {b:UInt8} (h:0≤n) (h2:n<36028797018963968):gst n b=n*256+b.toNat:=by
 obtain ⟨m,rfl⟩:∃ m:Nat,n=m:=⟨n.toNat,by omega⟩
 have hb:b.toNat<256:=b.toNat_lt
 unfold gst
 rw [adB (x:=(m:Int)*2 ^ 8) (by omega)]
 have e1:(yab 64 ((m:Int)*2 ^ 8))=yaF 64 (m*256):=by
  rw [show ((m:Int)*2 ^ 8)=((m*256:Nat):Int) by omega];rfl
 have e2:yab 64 (b.toNat:Int)=yaF 64 b.toNat:=rfl
 rw [e1,e2,BitVec.toNat_or,ybc,ybc,Nat.mod_eq_of_lt (by omega),Nat.mod_eq_of_lt (by omega)]
 have e3:m*256 ||| b.toNat=m*256+b.toNat:=by
  have:=Nat.shiftLeft_add_eq_or_of_lt (a:=m) (b:=b.toNat) (i:=8) (by omega)
  rw [Nat.shiftLeft_eq] at this
  exact this.symm
 rw [e3,adB (by omega)]
 omega
theorem Xt {b:Bs} (h:b.length≤2):0≤dE b:=by
 match b,h with
 | [],_=>exact Int.le_refl _
 | [x],_ =>
  show 0≤gst 0 x
  rw [Da (by omega) (by omega)]
  omega
 | [x,y],_ =>
  show 0≤gst (gst 0 x) y
  have:=x.toNat_lt
  rw [Da (n:=0) (by omega) (by omega),Da (by omega) (by omega)]
  omega
 | _::_::_::_,h=>simp at h
end Go.Fx.K
namespace Go.Fx.K
open Go Go.Fx Go.Proofs Go.RowKit
set_option maxRecDepth 1000000
theorem Yi {a b:UInt8} {K:Bool→Prop}:eqC (.int .u8) (some (u8 a)) (some (u8 b)) K=K (a==b):=by
 have e:eqK (.int .u8 a.toNat) (.int .u8 b.toNat)=(a==b):=by
  show ((a.toNat:Int)==(b.toNat:Int))=(a==b)
  by_cases h:a=b
  ·subst h;simp
  ·have h2:a.toNat≠b.toNat:=fun h3=>h (UInt8.toNat_inj.1 h3)
   have h3:(a==b)=false:=by simpa using h
   rw [h3];simp;omega
 show ((_∧_)∧K (eqK _ _))=_
 rw [e]
 exact propext ⟨fun h=>h.2,fun h=>⟨⟨rfl,rfl⟩,h⟩⟩
theorem Fu {l1 l2:Bs} {xs ys:List V} (hx:∀ i (h:i<l1.length),xs[i]?=some (u8 l1[i])) (hy:∀ i (h:i<l2.length),ys[i]?=some (u8 l2[i])):∀ {m a:Nat} {K:Bool→Prop},a+m≤l1.length→a+m≤l2.length →
  dU xs ys ((yae a m).map fun i=>(i,.int .u8)) K=K ((l1.drop a).take m==(l2.drop a).take m)
 | 0,a,K,_,_=>by simp [dU]
 | m+1,a,K,h1,h2=>by
  rw [yba,yal,dU,hx a (by omega),hy a (by omega),Yi,Fu hx hy (by omega) (by omega),ybq (show a<l1.length by omega),ybq (show a<l2.length by omega),ybB,ybB]
  rfl
theorem adE {l:Bs} {i:Nat} (h:i<l.length):(us l)[i]?=some (u8 l[i]):=by
 rw [aeT h];unfold bn;rw [yao,yak h];rfl
theorem amO {N:Nat} {a b:Bs} (ha:a.length=N) (hb:b.length=N) {K:Bool→Prop}:dU (us a) (us b) ((yae 0 N).map fun i=>(i,.int .u8)) K=K (a==b):=by
 rw [Fu (fun i h=>adE h) (fun i h=>adE h) (by omega) (by omega)]
 simp only [ybp]
 rw [yaf (by omega),yaf (by omega)]
theorem amN {N:Nat} {t:TypeId} (h1:uC Tryz.prog t=true) (h2:bW Tryz.prog 4 t 0=some ((yae 0 N).map fun i=>(i,.int .u8))) {a b:Bs} (ha:a.length=N) (hb:b.length=N) (w:World):Sem.run Tryz.prog (Op.equalIn 10000 t (.agg (usV a).toArray) (.agg (usV b).toArray)) w=.ok (a==b) w:=by
 have e1:bL (fun _=>default) (fun _=>False) w (us a) (usV a).toArray.toList:=Oo
 have e2:bL (fun _=>default) (fun _=>False) w (us b) (usV b).toArray.toList:=Oo
 have hK:=amO ha hb (K:=fun t=>t=(a==b))
 obtain ⟨t,ht,hrun⟩:=Fp (P:=Tryz.prog) e1 e2 (d:=4) (D:=10000) (by omega) (t:=t) (ks:=(yae 0 N).map fun i=>(i,.int .u8)) (K:=fun t=>t=(a==b)) h1 h2 (hK.mpr rfl)
 rw [hrun w,ht]
theorem ahE {a b:Bs} (ha:a.length=16) (hb:b.length=16) (w:World):Sem.run Tryz.prog (Op.equalIn 10000 45 (.agg (usV a).toArray) (.agg (usV b).toArray)) w=.ok (a==b) w :=
 amN (by kernel_rfl) (by kernel_rfl) ha hb w
theorem amP {a b:Bs} (ha:a.length=512) (hb:b.length=512) (w:World):Sem.run Tryz.prog (Op.equalIn 10000 89 (.agg (usV a).toArray) (.agg (usV b).toArray)) w=.ok (a==b) w :=
 amN (by kernel_rfl) (by kernel_rfl) ha hb w
theorem DS.range {n:Nat} {b:Bs} {x1 x2 x3 x4 y:Value} {W:World} (hd:DS n b x1 x2 x3 x4 y W) (m:Nat):W.rangeAt n 0 (usV (b.take m)):=by
 intro j v hj
 rw [yaK]
 unfold usV at hj
 rw [yaM] at hj
 obtain ⟨c,hc,rfl⟩:=Option.map_eq_some_iff.1 hj
 obtain ⟨h,he⟩:=List.getElem?_eq_some_iff.1 hc
 have hl:j<b.length:=by rw [yau] at h;omega
 rw [hd.by' j hl,←he]
 simp
theorem aoQ {ρ:Nat→Loc} {X:Nat→Prop} {w W2:World} (hr:Rep ρ X w []) (hb:Below w.heap.size w W2) (seg k g q:Int) (c:Bs) (h:In64 [seg,k,g,q]) (hc:c.length≤1000000) :
  Calls Tryz.prog 65 #[.int .i64 seg,.int .i64 k,.int .i64 g,.int .i64 q,.string (sb c)] W2 fun e W3=>e=.returned (.agg (usV (Cf seg k g q c)).toArray)∧Below W2.heap.size W2 W3:=by
 refine (lift (akZ seg k g q c h hc) hr hb (vals:=[_,_,_,_,_]) ⟨rfl,rfl,rfl,rfl,rfl,trivial⟩).mono ?_
 rintro e w2 ⟨val,ρ',rfl,h1,h2⟩
 obtain ⟨a,rfl,ha⟩:=h1
 have:=oV ha
 rw [←this]
 exact ⟨rfl,h2⟩
theorem arC {ρ:Nat→Loc} {X:Nat→Prop} {w W2:World} (hr:Rep ρ X w []) (hb:Below w.heap.size w W2) (seg k:Int) (s:dV) (h:In64 [seg,k]) (hs:s.Ok) :
  Calls Tryz.prog 35 #[.int .i64 seg,.int .i64 k,slV (some s)] W2 fun e W3=>e=.returned (.agg (usV (eY seg k s)).toArray)∧Below W2.heap.size W2 W3:=by
 refine (lift (afZ seg k s h hs) hr hb (vals:=[_,_,_]) ⟨rfl,rfl,⟨_,rfl,(by unfold dV.enc;exact ⟨rfl,rfl,rfl,rfl,trivial⟩)⟩,trivial⟩).mono ?_
 rintro e w2 ⟨val,ρ',rfl,h1,h2⟩
 obtain ⟨a,rfl,ha⟩:=h1
 have:=oV ha
 rw [←this]
 exact ⟨rfl,h2⟩
theorem gbC {ρ:Nat→Loc} {X:Nat→Prop} {w W2:World} (hr:Rep ρ X w []) (hb:Below w.heap.size w W2) (l:Bs) (B cap:Nat) (hl:l.length≤1000000) (hB:B<W2.heap.size) (h:∀ j (h:j<l.length),W2.cell? ⟨B,j,none⟩=some (.int .u8 l[j].toNat)) (hc:l.length≤cap∧cap≤maxLen) :
  Calls Tryz.prog 66 #[.slice (some ⟨B,0,none⟩) l.length cap] W2 fun e W3=>e=.returned (.tuple #[.string (sb (gbO l).1),.int .i64 (gbO l).2.1,.int .i64 (gbO l).2.2])∧Below W2.heap.size W2 W3:=by
 have hv:=Vr (X:=X) hr hb (B:=B) (off:=0) (cap:=cap) (l:=l) (fun j hj=>by rw [yaK];exact h j hj) hB hc
 refine (lift (aqI l hl) hr hb (vals:=[_]) ⟨hv,trivial⟩).mono ?_
 rintro e w2 ⟨val,ρ',rfl,h1,h2⟩
 refine ⟨?_,h2⟩
 obtain ⟨a,rfl,ha⟩:=h1
 obtain ⟨l3⟩:=a
 match l3,ha with
 | [v1,v2,v3],⟨e1,e2,e3,_⟩ =>
  have e1':v1=.string (sb (gbO l).1):=e1
  have e2':v2=.int .i64 (gbO l).2.1:=e2
  have e3':v3=.int .i64 (gbO l).2.2:=e3
  rw [e1',e2',e3']
theorem cvS (W:World) (l:Bs) (hl:l.length≤1000000):∃ (cap:Nat) (ob:Obj),(convert 9 87 (.string (sb l))).run Tryz.prog W=.ok (.slice (some ⟨W.heap.size,0,none⟩) l.length cap) (W.drew.alloc ob)∧(l.length≤cap∧cap≤maxLen)∧∀ j (h:j<l.length),(W.drew.alloc ob).cell? ⟨W.heap.size,j,none⟩=some (.int .u8 l[j].toNat):=by
 have hz:(sb l).size=l.length:=by simp [sb,ByteArray.size]
 have h:=run_bytes_of_string (P:=Tryz.prog) W 9 87 5 (sb l) Tryz.underlying9 Tryz.underlying87 Tryz.underlying5
 rw [hz] at h
 refine ⟨_,_,h,⟨grownCap_ge W l.length 0 5,grownCap_le_maxLen W l.length 0 5 (by unfold maxLen;omega)⟩,fun j hj=>?_⟩
 have e:(W.drew.heap.size)=W.heap.size:=rfl
 rw [←e,World.cell?_alloc_mark]
 unfold bytesRow
 rw [Array.getElem?_append_left (by simpa [sb] using hj)]
 simp [sb,hj]
theorem DS.s5 {n:Nat} {b:Bs} {x1 x2 x3 x4 y:Value} {W:World} (h:DS n b x1 x2 x3 x4 y W) (v:Value):DS n b x1 x2 x3 x4 v (W.setCell ⟨n+1+1,0,none⟩ v):=by
 obtain ⟨h0,h1,h2,h3,h4,h5,f1,f2,f3,f4,f5,hs⟩:=h
 refine ⟨fun j hj=>(far (by simp;omega)).trans (h0 j hj),(far (by simp)).trans h1,(far (by simp)).trans h2,(far (by simp)).trans h3,(far (by simp)).trans h4,World.cell?_setCell_same _ _ _ h5,?_,?_,?_,?_,?_,by simpa [World.setCell] using hs⟩<;>rw [World.frozen?_setCell]<;>assumption
theorem amI {l:Bs} (h:(gbO l).2.2=0):0≤(gbO l).2.1∧(gbO l).2.1≤l.length:=by
 unfold gbO at h ⊢
 split at h
 ·rename_i h1
  exact absurd h h1
 ·rename_i h1
  rw [if_neg h1]
  have:=adQ (l:=l) (by simpa using h1)
  simp only
  omega
theorem amH {l:Bs}:(gbO l).1.length≤l.length:=by
 unfold gbO
 split
 ·simp
 ·rw [yau,yaA];omega
theorem afE {l:Bs} (a:Nat):(sb l).extract a (sb l).size=sb (l.drop a):=by rw [cN,bP,yby]
theorem acF {b:Bs} (h:Kw b) (hb:b.length=512):(Ge b).Ok:=by
 have hc:(pX b).length≤512:=by unfold pX;rw [yau,yaA];omega
 have:=amH (l:=pX b)
 obtain ⟨⟨h1,h2⟩,⟨h3,h4⟩,h5⟩:=h
 refine ⟨?_,?_,?_,?_⟩
 ·show _≤Ax b∧Ax b≤_;omega
 ·show _≤Gf b∧Gf b≤_;omega
 ·show (gbO (pX b)).1.length≤_;omega
 ·show ((pX b).drop _).length≤_;rw [yaA];omega
end Go.Fx.K
namespace Go.Fx.K
open Go Go.Fx Go.Proofs Go.RowKit
set_option maxHeartbeats 16000000
set_option maxRecDepth 1000000
theorem Gm {w W:World} {b:Bs} {x1 x2 x3 x4 y:Value} {seg k:Int} (hd:DS w.heap.size b x1 x2 x3 x4 y W) (hb:Below w.heap.size w W) (h:lV seg k b=none) (tmps:Array Value) (h6:tmps.getD 6 undef=.pointer (some ⟨w.heap.size+1,0,none⟩)) (h7:tmps.getD 7 undef=.pointer (some ⟨w.heap.size+1+1,0,none⟩)) :
  Leaves Tryz.prog Tryz.f30 tmps (fun e w'=>e=.returned (.tuple #[slV (lV seg k b),.bool (lV seg k b).isSome])∧Below w.heap.size w w') [{ target:=.fn (.func 63) #[.pointer (some ⟨w.heap.size+1,0,none⟩),.pointer (some ⟨w.heap.size+1+1,0,none⟩)],args:=#[] }] (.panicking [{ v:=.iface 139 (.agg #[]),recovered:=false }]) W:=by
 rw [h]
 exact anH hd hb tmps h6 h7
theorem slC (B m:Nat) (h:m≤478) (W:World):(Instr.sliceAt 89 (.pointer (some ⟨B,0,none⟩)) (some (.int .i64 34)) (some (.int .i64 (34+(m:Int)))) none).run Tryz.prog W=.ok (.slice (some ⟨B,34,none⟩) m 478) W:=by
 have hA:Tryz.prog.arrayLen 89=512:=by kernel_rfl
 rw [run_sliceAt_array_lh W 89 ⟨B,0,none⟩ Tryz.underlying89 .i64 .i64 34 (34+(m:Int)) (by omega) (by omega) (by rw [hA];omega),hA]
 go_simp
 omega
theorem cvC {n:Nat} {b:Bs} {x1 x2 x3 x4 y:Value} {W:World} (hd:DS n b x1 x2 x3 x4 y W) (m:Nat) (h:34+m≤b.length):(convert 87 9 (.slice (some ⟨n,34,none⟩) m 478)).run Tryz.prog W=.ok (.string (sb ((b.drop 34).take m))) W:=by
 have hl:((b.drop 34).take m).length=m:=by rw [yau,yaA];omega
 have:=run_convert_bytes_back W 87 9 _ ⟨n,34,none⟩ 478 ((b.drop 34).take m) Tryz.underlying87 (by kernel_rfl) Tryz.underlying9 (fun j hj=>by
  rw [hl] at hj
  have:=hd.by' (34+j) (by omega)
  have e:(Addr.add ⟨n,34,none⟩ j)=⟨n,34+j,none⟩:=by simp [Addr.add]
  rw [e,this]
  simp)
 rw [hl] at this
 exact this
def QD (R:Ending→World→Prop) (Q:Exit→Act→World→Prop):Exit→Act→World→Prop
 | .panic c,a,w=>Leaves Tryz.prog Tryz.f30 a.tmps R a.defers (.panicking c) w
 | .normal,a,w=>Q .normal a w
 | _,_,_=>False
theorem aaU (tmps:Array Value) (t:Nat) (v:Value) (h6:t≠6) (h7:t≠7):results Tryz.f30 (tmps.setIfInBounds t v)=results Tryz.f30 tmps:=by
 have e:Tryz.f30.results=#[.cell 6 93,.cell 7 4]:=by rfl
 have g6:(tmps.setIfInBounds t v).getD 6 undef=tmps.getD 6 undef:=by
  rw [ybC,ybC,ycg h6]
 have g7:(tmps.setIfInBounds t v).getD 7 undef=tmps.getD 7 undef:=by
  rw [ybC,ybC,ycg h7]
 unfold results
 rw [e]
 simp only [ybT,ybU,ybV,g6,g7]
theorem Pb {R:Ending→World→Prop} {tmps:Array Value} {t:Nat} {v:Value} (h6:t≠6) (h7:t≠7):∀ {ds:List Deferred} {u:FrameMode} {w:World},Leaves Tryz.prog Tryz.f30 (tmps.setIfInBounds t v) R ds u w→Leaves Tryz.prog Tryz.f30 tmps R ds u w:=by
 intro ds
 induction ds with
 | nil =>
  intro u w h
  cases u with
  | run=>exact h
  | returning =>
   obtain ⟨v',h1,h2⟩:=h
   exact ⟨v',by rw [←aaU tmps t v h6 h7];exact h1,h2⟩
  | panicking c=>exact h
 | cons d ds ih =>
  intro u w h
  obtain ⟨hu,fv,cap,f,args,ht,hi,hc⟩:=h
  refine ⟨hu,fv,cap,f,args,ht,hi,hc.mono ?_⟩
  intro e u' w' he
  cases e with
  | returned _=>exact ih he
  | panicked _=>exact ih he
  | outgrown=>exact he
theorem fI {R:Ending→World→Prop} {Q:Exit→Act→World→Prop} (t:Nat) (v:Value) (h6:t≠6) (h7:t≠7):∀ c a w,QD R Q (.panic c) (a.put (some t) v) w→QD R Q (.panic c) a w :=
 fun c a w h=>Pb (v:=v) h6 h7 h
theorem adL {R:Ending→World→Prop} {Q:Exit→Act→World→Prop} {c:Code} {a:Act} {w:World} (hQ:∀ c a w,Leaves Tryz.prog Tryz.f30 a.tmps R a.defers (.panicking c) w→Q (.panic c) a w) (h:Code.wp Tryz.prog c (QD R Q) a w):Code.wp Tryz.prog c Q a w :=
 Code.wp_mono (fun e a w he=>by cases e<;>first|exact he|exact hQ _ _ _ he|exact he.elim) h
theorem Ys {w:World} {ρ:Nat→Loc} {X:Nat→Prop} (hr:Rep ρ X w []) (seg k:Int) (b:Bs) (hb:b.length=512) (hsk:In64 [seg,k]) :
  Calls Tryz.prog 30 #[.int .i64 seg,.int .i64 k,.agg (usV b).toArray] w fun e w'=>e=.returned (.tuple #[slV (lV seg k b),.bool (lV seg k b).isSome])∧Below w.heap.size w w':=by
 have hmf:∀ (fn:Go.Fn) (first cap:Array Value) (w:World),(Instr.makeFunc fn first cap).run Tryz.prog w=.ok (.func fn first cap) w:=fun _ _ _ _=>rfl
 go_enter_defers Tryz.func30,Tryz.ntmps30
 go_wp2
 have hd:=DS.zero (b:=b) w
 have hbw:=Sl w (.cells (usV b).toArray 89) (.cells #[.int .i64 0,.int .i64 0,.string ⟨#[]⟩,.string ⟨#[]⟩] 93) (.cells #[.bool false] 4)
 generalize (((w.alloc (.cells (usV b).toArray 89)).alloc (.cells #[.int .i64 0,.int .i64 0,.string ⟨#[]⟩,.string ⟨#[]⟩] 93)).alloc (.cells #[.bool false] 4))=W at *
 have hd0:=hd.go ((Below.refl _ W).drew)
 have hbd:=hbw.drew
 refine wp_region_noPanic ?_
 go_region_with (first|(go_at_call 27;refine (amF hr (by first|exact hbd|assumption) (by first|exact hd0|assumption) _ _ _ (by omega) (by decide)).mono ?_;rintro e W1 ⟨rfl,hb1⟩;have hd1:=DS.go (by first|exact hd0|assumption) hb1;have k1:=hd1.c1;have k2:=hd1.c2;have q1:=hd1.f1;have q2:=hd1.f2;have hbw1:=Below.trans (by first|exact hbd|assumption) (hb1.mono (by first|exact hbd.size|exact Below.size (by assumption)))))
 refine NoPanic.normal ?_
 have hd2:=(hd1.s1 (.int .i64 (dE ((b.drop 16).take 8)))).s2 (.int .i64 (dE ((b.drop 24).take 8)))
 have hbw2:=Lk (Lk hbw1 (w.heap.size+1) 0 (.int .i64 (dE ((b.drop 16).take 8))) (by omega)) (w.heap.size+1) 1 (.int .i64 (dE ((b.drop 24).take 8))) (by omega)
 clear k1 k2 q1 q2
 generalize ((W1.setCell _ _).setCell _ _)=W2 at *
 clear hd hd0 hd1 hbd hbw hbw1 hb1 hmf
 have m1:=hd2.c1
 have m2:=hd2.c2
 show _
 go_wp2_with (first|(go_at_call 27;refine (amF hr hbw2 hd2 _ _ _ (by omega) (by decide)).mono ?_;rintro e W3 ⟨rfl,hb1⟩;have hd3:=DS.go hd2 hb1;have k1:=hd3.c1;have k2:=hd3.c2))
 all_goals (
  have hbw3:=hbw2.trans (hb1.mono hbw2.size)
  have hN0:0≤Kv b:=Xt (by rw [yau];omega))
 rotate_left
 iterate 4
  ·refine (Nm _).mono ?_
   rintro e w' ⟨rfl,rfl⟩
   go_wp2
   refine Gm hd3 hbw3 (if_neg ?_) _ rfl rfl
   unfold Kw Ax Gf
   omega
 by_cases hN:Kv b≤478
 ·rw [decide_eq_true (by exact hN)]
  refine (Sd _).mono ?_
  rintro e w' ⟨rfl,rfl⟩
  have hH:Kw b:=⟨⟨by assumption,by assumption⟩,⟨by assumption,by assumption⟩,hN⟩
  obtain ⟨m,hm⟩:∃ m:Nat,Kv b=m:=⟨(Kv b).toNat,by omega⟩
  have hm4:m≤478:=by omega
  have hsl:=fun W'=>slC w.heap.size m hm4 W'
  have h34:RowKit.wrap64 (34+(m:Int))=34+m:=by unfold RowKit.wrap64;omega
  have hC:pX b=(b.drop 34).take m:=by unfold pX;rw [hm];rfl
  unfold Kv at hm
  rw [hm]
  have hcv:=cvC hd3 m (by omega)
  go_wp2
  refine adL (fun _ _ _ h=>h) ?_
  have hat:∀ W,(Instr.arrayAt 45 (.slice (some ⟨w.heap.size,0,none⟩) 16 512)).run Tryz.prog W=.ok (.pointer (some ⟨w.heap.size,0,none⟩)) W:=fun W=>run_arrayAt W 45 _ 16 _ 16 512 Tryz.underlying45 (by decide)
  have h64:In64 [seg,k,dE ((b.drop 16).take 8),dE ((b.drop 24).take 8)]:=by
   intro x hx
   simp only [ybh,yaR,or_false] at hx
   rcases hx with rfl|rfl|rfl|rfl
   ·exact hsk _ (by simp)
   ·exact hsk _ (by simp)
   ·have:=hH.1;unfold Ax at this;omega
   ·have:=hH.2.1;unfold Gf at this;omega
  have h16:(b.take 16).length=16:=by rw [yau];omega
  obtain ⟨T16,hT⟩:∃ T,usV (b.take 16)=T:=⟨_,rfl⟩
  obtain ⟨D,hD⟩:∃ D,usV (Cf seg k (dE ((b.drop 16).take 8)) (dE ((b.drop 24).take 8)) ((b.drop 34).take m))=D:=⟨_,rfl⟩
  have i116:(Tryz.prog.info? 45).map (·.size)=some T16.length:=by rw [←hT,yat,h16];rfl
  have hrg:∀ {x1 x2 x3 x4 y:Value} (W:World),DS w.heap.size b x1 x2 x3 x4 y W→W.rangeAt w.heap.size 0 T16:=fun W h=>hT▸h.range 16
  have heq:∀ W,Sem.run Tryz.prog (Op.equalIn 10000 45 (.agg D.toArray) (.agg T16.toArray)) W=.ok (Cf seg k (dE ((b.drop 16).take 8)) (dE ((b.drop 24).take 8)) ((b.drop 34).take m)==b.take 16) W:=fun W=>by
   rw [←hD,←hT]
   exact ahE cJ h16 W
  have hsum:∀ W,Below w.heap.size w W→Calls Tryz.prog 65 #[.int .i64 seg,.int .i64 k,.int .i64 (dE ((b.drop 16).take 8)),.int .i64 (dE ((b.drop 24).take 8)),.string (sb ((b.drop 34).take m))] W fun e W3=>e=.returned (.agg D.toArray)∧Below W.heap.size W W3:=fun W hW=>by
   rw [←hD]
   exact aoQ hr hW seg k _ _ _ h64 (by rw [yau,yaA];omega)
  refine wp_region_held_drew (S:=fun W=>W.cell? ⟨w.heap.size+1,0,none⟩=some (.int .i64 (dE ((b.drop 16).take 8)))∧W.cell? ⟨w.heap.size+1,1,none⟩=some (.int .i64 (dE ((b.drop 24).take 8)))∧W.rangeAt w.heap.size 0 T16∧DS w.heap.size b (.int .i64 (dE ((b.drop 16).take 8))) (.int .i64 (dE ((b.drop 24).take 8))) (.string ⟨#[]⟩) (.string ⟨#[]⟩) (.bool false) W∧Below w.heap.size w W) (by kernel_rfl) ?hS (fun hHeld=>?_)
  case hS =>
   have h:=hd3.go ((Below.refl _ w').drew)
   exact ⟨h.c1,h.c2,hrg _ h,h,hbw3.drew⟩
  refine wpAnyH_take (i:=0) (oi:=⟨some 49,.move (.tmp 0),3, "chunk.go:127",#[],none⟩) (v:=?vv1) rfl (by kernel_rfl) (by kernel_rfl) (by kernel_rfl) (fI 49 _ (by decide) (by decide)) (Or.inl ⟨by rfl,?hy1⟩) hHeld ?rest1
  case hy1=>intro w hSw;obtain ⟨s1,s2,s3,s4,s5⟩:=hSw;go_simp;try with_reducible rfl
  try simp only [Act.put,yam,yai,yan]
  refine wpAnyH_take (i:=1) (oi:=⟨some 50,.move (.tmp 1),3, "chunk.go:127",#[],none⟩) (v:=?vv2) rfl (by kernel_rfl) (by kernel_rfl) (by kernel_rfl) (fI 50 _ (by decide) (by decide)) (Or.inl ⟨by rfl,?hy2⟩) hHeld ?rest2
  case hy2=>intro w hSw;obtain ⟨s1,s2,s3,s4,s5⟩:=hSw;go_simp;try with_reducible rfl
  try simp only [Act.put,yam,yai,yan]
  refine wpAnyH_take (i:=2) (oi:=⟨some 51,.fieldAddr 93 (.tmp 6) 0,0, "chunk.go:127",#[],none⟩) (v:=?vv3) rfl (by kernel_rfl) (by kernel_rfl) (by kernel_rfl) (fI 51 _ (by decide) (by decide)) (Or.inl ⟨by rfl,?hy3⟩) hHeld ?rest3
  case hy3=>intro w hSw;obtain ⟨s1,s2,s3,s4,s5⟩:=hSw;go_simp;try with_reducible rfl
  try simp only [Act.put,yam,yai,yan]
  refine wpAnyH_take (i:=4) (oi:=⟨some 53,.fieldAddr 93 (.tmp 6) 1,0, "chunk.go:127",#[],none⟩) (v:=?vv4) rfl (by kernel_rfl) (by kernel_rfl) (by kernel_rfl) (fI 53 _ (by decide) (by decide)) (Or.inl ⟨by rfl,?hy4⟩) hHeld ?rest4
  case hy4=>intro w hSw;obtain ⟨s1,s2,s3,s4,s5⟩:=hSw;go_simp;try with_reducible rfl
  try simp only [Act.put,yam,yai,yan]
  refine wpAnyH_take (i:=6) (oi:=⟨some 55,.move (.tmp 9),9, "chunk.go:127",#[],none⟩) (v:=?vv5) rfl (by kernel_rfl) (by kernel_rfl) (by kernel_rfl) (fI 55 _ (by decide) (by decide)) (Or.inl ⟨by rfl,?hy5⟩) hHeld ?rest5
  case hy5=>intro w hSw;obtain ⟨s1,s2,s3,s4,s5⟩:=hSw;go_simp;try with_reducible rfl
  try simp only [Act.put,yam,yai,yan]
  refine wpAnyH_take (i:=8) (oi:=⟨some 57,.slice 89 (.tmp 5) none (some (.const (.int .i64 16))) none,87, "chunk.go:127",#[],none⟩) (v:=?vv6) rfl (by kernel_rfl) (by kernel_rfl) (by kernel_rfl) (fI 57 _ (by decide) (by decide)) (Or.inl ⟨by rfl,?hy6⟩) hHeld ?rest6
  case hy6=>intro w hSw;obtain ⟨s1,s2,s3,s4,s5⟩:=hSw;go_simp;try with_reducible rfl
  try simp only [Act.put,yam,yai,yan]
  refine wpAnyH_take (i:=9) (oi:=⟨some 58,.sliceToArrayPointer 45 (.tmp 57),0, "chunk.go:127",#[⟨8,.data⟩],none⟩) (v:=?vv7) rfl (by kernel_rfl) (by kernel_rfl) (by kernel_rfl) (fI 58 _ (by decide) (by decide)) (Or.inl ⟨by rfl,?hy7⟩) hHeld ?rest7
  case hy7=>intro w hSw;obtain ⟨s1,s2,s3,s4,s5⟩:=hSw;go_simp;try with_reducible rfl
  try simp only [Act.put,yam,yai,yan]
  refine wpAnyH_take (i:=3) (oi:=⟨some 52,.load 3 (.tmp 51),3, "chunk.go:127",#[⟨2,.data⟩],none⟩) (v:=?vv8) rfl (by kernel_rfl) (by kernel_rfl) (by kernel_rfl) (fI 52 _ (by decide) (by decide)) (Or.inl ⟨by rfl,?hy8⟩) hHeld ?rest8
  case hy8=>intro w hSw;obtain ⟨s1,s2,s3,s4,s5⟩:=hSw;go_simp;try with_reducible rfl
  try simp only [Act.put,yam,yai,yan]
  refine wpAnyH_take (i:=5) (oi:=⟨some 54,.load 3 (.tmp 53),3, "chunk.go:127",#[⟨4,.data⟩],none⟩) (v:=?vv9) rfl (by kernel_rfl) (by kernel_rfl) (by kernel_rfl) (fI 54 _ (by decide) (by decide)) (Or.inl ⟨by rfl,?hy9⟩) hHeld ?rest9
  case hy9=>intro w hSw;obtain ⟨s1,s2,s3,s4,s5⟩:=hSw;go_simp;try with_reducible rfl
  try simp only [Act.put,yam,yai,yan]
  refine' wpAnyH_take (i:=10) (oi:=⟨some 59,.load 45 (.tmp 58),45, "chunk.go:127",#[⟨9,.data⟩],none⟩) (v:=_) rfl (by kernel_rfl) (by kernel_rfl) (by kernel_rfl) (fI 59 _ (by decide) (by decide)) (yieldsIf_load_mid (by rfl) 45 (.tmp 58) rfl w.heap.size 0 rfl T16 _ (fun W h=>h.2.2.1) Tryz.underlying45 (by rfl) i116) hHeld ?rest10
  try simp only [Act.put,yam,yai,yan]
  refine wpAnyH_ready (rs:=[7]) (by kernel_rfl) (by simp) ?_
  refine AllReadyH.cons (o:=⟨some 56,.call { callee:=.value (.func 65),args:=#[.tmp 49,.tmp 50,.tmp 52,.tmp 54,.tmp 55],argTypes:=#[3,3,3,3,9] },45, "chunk.go:127",#[⟨0,.data⟩,⟨1,.data⟩,⟨3,.data⟩,⟨5,.data⟩,⟨6,.data⟩],none⟩) rfl (fun K hK=>?_) AllReadyH.nil
  go_simp
  refine (hsum _ hHeld.2.2.2.2).mono ?_
  rintro e W5 ⟨rfl,hb5⟩
  refine hK.out _ _ ?_ (fun hHeld5=>?_)
  ·have h:=hHeld.2.2.2.1.go hb5
   exact ⟨h.c1,h.c2,hrg _ h,h,hHeld.2.2.2.2.trans (hb5.mono hHeld.2.2.2.2.size)⟩
  clear hK K
  try simp only [Act.put,yam,yai,yan]
  refine wpAnyH_take (i:=11) (oi:=⟨some 60,.binOp .eql 45 (.tmp 56) (.tmp 59) 45,4, "chunk.go:127",#[⟨7,.data⟩,⟨10,.data⟩],none⟩) (v:=?vv11) rfl (by kernel_rfl) (by kernel_rfl) (by kernel_rfl) (fI 60 _ (by decide) (by decide)) (Or.inl ⟨by rfl,?hy11⟩) hHeld5 ?rest11
  case hy11=>intro w hSw;obtain ⟨s1,s2,s3,s4,s5⟩:=hSw;go_simp;try with_reducible rfl
  try simp only [Act.put,yam,yai,yan]
  refine wpAnyH_ready (rs:=[12]) (by kernel_rfl) (by simp) ?_
  refine AllReadyH.cons (o:=⟨some 61,.call { callee:=.value (.func 64),args:=#[.tmp 60],argTypes:=#[4] },0, "chunk.go:127",#[⟨11,.data⟩,⟨7,.chain⟩],none⟩) rfl (fun K hK=>?_) AllReadyH.nil
  go_simp
  have hd5:=hHeld5.2.2.2.1
  have hbw5:=hHeld5.2.2.2.2
  by_cases hS:Cf seg k (dE ((b.drop 16).take 8)) (dE ((b.drop 24).take 8)) ((b.drop 34).take m)=b.take 16
  ·rw [beq_iff_eq.2 hS]
   refine (Sd _).mono ?_
   rintro e w6 ⟨rfl,rfl⟩
   refine hK.out _ _ hHeld5 (fun _=>?_)
   clear hK K
   try simp only [Act.put,yam,yai,yan]
   refine wpAnyH_done (by kernel_rfl) ?_ _
   simp only [QD]
   clear heq hsum hat hsl hcv hHeld5
   have hlC:((b.drop 34).take m).length≤1000000:=by rw [yau,yaA];omega
   generalize (b.drop 34).take m=C at *
   obtain ⟨cap,ob,hcv2,hcap,hcell⟩:=cvS w6 C hlC
   have hbw6:Below w.heap.size w (w6.drew.alloc ob):=hbw5.drew.alloc hbw5.size ob
   have hd6:=hd5.go (((Below.refl _ w6).drew).alloc (yad _) ob)
   have hlt:w6.heap.size<(w6.drew.alloc ob).heap.size:=by rw [World.size_alloc];exact Nat.lt_succ_self _
   have hgb:=gbC hr hbw6 C w6.heap.size cap hlC hlt hcell hcap
   go_wp2_with (first|(go_at_call 66;refine hgb.mono ?_;rintro e W7 ⟨rfl,hb7⟩))
   have hd7:=hd6.go hb7
   have hbw7:=hbw6.trans (hb7.mono hbw6.size)
   by_cases hG:(gbO C).2.2=0
   ·rw [beq_iff_eq.2 hG]
    refine (Sd _).mono ?_
    rintro e w8 ⟨rfl,rfl⟩
    obtain ⟨hx0,hx1⟩:=amI hG
    have hx2:(gbO C).2.1≤((sb C).size:Int):=hx1
    obtain ⟨DT,hDT⟩:∃ t,sb (C.drop (gbO C).2.1.toNat)=t:=⟨_,rfl⟩
    obtain ⟨KT,hKT⟩:∃ t,sb (gbO C).1=t:=⟨_,rfl⟩
    have hss:∀ W,(Instr.slice 9 (.string (sb C)) (some (.int .i64 (gbO C).2.1)) none none).run Tryz.prog W=.ok (.string DT) W:=fun W=>by
     rw [run_slice_string_l W 9 (sb C) Tryz.underlying9 .i64 _ hx0 hx2,afE,hDT]
    rw [hKT]
    generalize sb C=SC at *
    go_wp2_with fail
    have hd8:=hd7.go ((Below.refl _ w8).drew)
    have hbw8:=hbw7.drew
    have n3:=hd7.c3
    have n4:=hd7.c4
    have z3:=hd7.f3
    have z4:=hd7.f4
    refine wp_region_noPanic ?_
    go_region_with fail
    refine NoPanic.normal ?_
    have hd9:=((hd7.s3 (.string KT)).s4 (.string DT)).go ((Below.refl _ _).drew)
    have hbw9:=(Lk (Lk hbw7 (w.heap.size+1) 2 (.string KT) (by omega)) (w.heap.size+1) 3 (.string DT) (by omega)).drew
    generalize ((w8.setCell _ _).setCell _ _).drew=W9 at *
    clear n3 n4 z3 z4 hd8 hbw8 hss hcv2
    go_wp2
    have eS:slV (some (Ge b))=.agg #[.int .i64 (dE ((b.drop 16).take 8)),.int .i64 (dE ((b.drop 24).take 8)),.string KT,.string DT]:=by
     show Value.agg #[.int .i64 (Ax b),.int .i64 (Gf b),.string (sb (gbO (pX b)).1),.string (sb ((pX b).drop (gbO (pX b)).2.1.toNat))]=_
     rw [hC,hKT,hDT]
     rfl
    obtain ⟨TB,hTB⟩:∃ T,usV b=T:=⟨_,rfl⟩
    obtain ⟨E,hE⟩:∃ T,usV (eY seg k (Ge b))=T:=⟨_,rfl⟩
    have i79:(Tryz.prog.info? 89).map (·.size)=some TB.length:=by rw [←hTB,yat,hb];rfl
    have hrb:∀ {x1 x2 x3 x4 y:Value} (W:World),DS w.heap.size b x1 x2 x3 x4 y W→W.rangeAt w.heap.size 0 TB:=fun W h=>by
     have:=h.range b.length
     rw [yby,hTB] at this
     exact this
    have heq9:∀ W,Sem.run Tryz.prog (Op.equalIn 10000 89 (.agg E.toArray) (.agg TB.toArray)) W=.ok (eY seg k (Ge b)==b) W:=fun W=>by
     rw [←hE,←hTB]
     exact amP hO hb W
    have henc:∀ W,Below w.heap.size w W→Calls Tryz.prog 35 #[.int .i64 seg,.int .i64 k,.agg #[.int .i64 (dE ((b.drop 16).take 8)),.int .i64 (dE ((b.drop 24).take 8)),.string KT,.string DT]] W fun e W3=>e=.returned (.agg E.toArray)∧Below W.heap.size W W3:=fun W hW=>by
     rw [←hE,←eS]
     exact arC hr hW seg k (Ge b) hsk (acF hH hb)
    rw [hTB] at *
    refine adL (fun _ _ _ h=>h) ?_
    refine wp_region_held_drew (S:=fun W=>W.cell? ⟨w.heap.size+1,0,none⟩=some (.int .i64 (dE ((b.drop 16).take 8)))∧W.cell? ⟨w.heap.size+1,1,none⟩=some (.int .i64 (dE ((b.drop 24).take 8)))∧W.cell? ⟨w.heap.size+1,2,none⟩=some (.string KT)∧W.cell? ⟨w.heap.size+1,3,none⟩=some (.string DT)∧W.rangeAt w.heap.size 0 TB∧DS w.heap.size b (.int .i64 (dE ((b.drop 16).take 8))) (.int .i64 (dE ((b.drop 24).take 8))) (.string KT) (.string DT) (.bool false) W∧Below w.heap.size w W) (by kernel_rfl) ?hS9 (fun hHeld9=>?_)
    case hS9 =>
     have h:=hd9.go ((Below.refl _ W9).drew)
     exact ⟨h.c1,h.c2,h.c3,h.c4,hrb _ h,h,hbw9.drew⟩
    refine wpAnyH_take (i:=0) (oi:=⟨some 78,.move (.tmp 0),3, "chunk.go:131",#[],none⟩) (v:=?vv12) rfl (by kernel_rfl) (by kernel_rfl) (by kernel_rfl) (fI 78 _ (by decide) (by decide)) (Or.inl ⟨by rfl,?hy12⟩) hHeld9 ?rest12
    case hy12=>intro w hSw;obtain ⟨s1,s2,s3,s4,s5,s6,s7⟩:=hSw;go_simp;try with_reducible rfl
    try simp only [Act.put,yam,yai,yan]
    refine wpAnyH_take (i:=1) (oi:=⟨some 79,.move (.tmp 1),3, "chunk.go:131",#[],none⟩) (v:=?vv13) rfl (by kernel_rfl) (by kernel_rfl) (by kernel_rfl) (fI 79 _ (by decide) (by decide)) (Or.inl ⟨by rfl,?hy13⟩) hHeld9 ?rest13
    case hy13=>intro w hSw;obtain ⟨s1,s2,s3,s4,s5,s6,s7⟩:=hSw;go_simp;try with_reducible rfl
    try simp only [Act.put,yam,yai,yan]
    refine wpAnyH_take (i:=2) (oi:=⟨some 80,.load 93 (.tmp 6),93, "chunk.go:131",#[],none⟩) (v:=?vv14) rfl (by kernel_rfl) (by kernel_rfl) (by kernel_rfl) (fI 80 _ (by decide) (by decide)) (Or.inl ⟨by rfl,?hy14⟩) hHeld9 ?rest14
    case hy14=>intro w hSw;obtain ⟨s1,s2,s3,s4,s5,s6,s7⟩:=hSw;go_simp;try with_reducible rfl
    try simp only [Act.put,yam,yai,yan]
    refine' wpAnyH_take (i:=4) (oi:=⟨some 82,.load 89 (.tmp 5),89, "chunk.go:131",#[],none⟩) (v:=_) rfl (by kernel_rfl) (by kernel_rfl) (by kernel_rfl) (fI 82 _ (by decide) (by decide)) (yieldsIf_load_mid (by rfl) 89 (.tmp 5) rfl w.heap.size 0 rfl TB _ (fun W h=>h.2.2.2.2.1) Tryz.underlying89 (by rfl) i79) hHeld9 ?rest15
    try simp only [Act.put,yam,yai,yan]
    refine wpAnyH_ready (rs:=[3]) (by kernel_rfl) (by simp) ?_
    refine AllReadyH.cons (o:=⟨some 81,.call { callee:=.value (.func 35),args:=#[.tmp 78,.tmp 79,.tmp 80],argTypes:=#[3,3,93] },89, "chunk.go:131",#[⟨0,.data⟩,⟨1,.data⟩,⟨2,.data⟩],none⟩) rfl (fun K hK=>?_) AllReadyH.nil
    go_simp
    refine (henc _ hHeld9.2.2.2.2.2.2).mono ?_
    rintro e W10 ⟨rfl,hb10⟩
    refine hK.out _ _ ?_ (fun hHeldA=>?_)
    ·have h:=hHeld9.2.2.2.2.2.1.go hb10
     exact ⟨h.c1,h.c2,h.c3,h.c4,hrb _ h,h,hHeld9.2.2.2.2.2.2.trans (hb10.mono hHeld9.2.2.2.2.2.2.size)⟩
    clear hK K
    try simp only [Act.put,yam,yai,yan]
    refine wpAnyH_take (i:=5) (oi:=⟨some 83,.binOp .eql 89 (.tmp 81) (.tmp 82) 89,4, "chunk.go:131",#[⟨3,.data⟩,⟨4,.data⟩],none⟩) (v:=?vv16) rfl (by kernel_rfl) (by kernel_rfl) (by kernel_rfl) (fI 83 _ (by decide) (by decide)) (Or.inl ⟨by rfl,?hy16⟩) hHeldA ?rest16
    case hy16=>intro w hSw;obtain ⟨s1,s2,s3,s4,s5,s6,s7⟩:=hSw;go_simp;try with_reducible rfl
    try simp only [Act.put,yam,yai,yan]
    refine wpAnyH_ready (rs:=[6]) (by kernel_rfl) (by simp) ?_
    refine AllReadyH.cons (o:=⟨some 84,.call { callee:=.value (.func 64),args:=#[.tmp 83],argTypes:=#[4] },0, "chunk.go:131",#[⟨5,.data⟩,⟨3,.chain⟩],none⟩) rfl (fun K hK=>?_) AllReadyH.nil
    go_simp
    have hdA:=hHeldA.2.2.2.2.2.1
    have hbwA:=hHeldA.2.2.2.2.2.2
    by_cases hF:eY seg k (Ge b)=b
    ·rw [beq_iff_eq.2 hF]
     refine (Sd _).mono ?_
     rintro e wA ⟨rfl,rfl⟩
     refine hK.out _ _ hHeldA (fun _=>?_)
     clear hK K
     try simp only [Act.put,yam,yai,yan]
     refine wpAnyH_done (by kernel_rfl) ?_ _
     simp only [QD]
     clear heq9 henc hHeldA hHeld9
     have a1:=hdA.c1
     have a2:=hdA.c2
     have a3:=hdA.c3
     have a4:=hdA.c4
     have a5:=hdA.cy
     have p1:=hdA.f1
     have p2:=hdA.f2
     have p3:=hdA.f3
     have p4:=hdA.f4
     have p5:=hdA.fy
     go_wp2
     have hdo:lV seg k b=some (Ge b):=by
      unfold lV
      rw [if_pos hH,if_pos (by rw [hC];exact hS),if_pos (by rw [hC];exact hG),if_pos hF]
     have hdZ:=((((hdA.s1 (.int .i64 (dE ((b.drop 16).take 8)))).s2 (.int .i64 (dE ((b.drop 24).take 8)))).s3 (.string KT)).s4 (.string DT)).s5 (.bool true)
     have hbZ:=Lk (Lk (Lk (Lk (Lk hbwA (w.heap.size+1) 0 (.int .i64 (dE ((b.drop 16).take 8))) (by omega)) (w.heap.size+1) 1 (.int .i64 (dE ((b.drop 24).take 8))) (by omega)) (w.heap.size+1) 2 (.string KT) (by omega)) (w.heap.size+1) 3 (.string DT) (by omega)) (w.heap.size+1+1) 0 (.bool true) (by omega)
     rw [hdo,eS]
     exact agT hdZ hbZ _ rfl rfl
    ·rw [beq_eq_false_iff_ne.2 hF]
     refine (Nm _).mono ?_
     rintro e wA ⟨rfl,rfl⟩
     refine Gm hdA hbwA ?_ _ rfl rfl
     unfold lV
     rw [if_pos hH,if_pos (by rw [hC];exact hS),if_pos (by rw [hC];exact hG),if_neg hF]
   ·rw [beq_eq_false_iff_ne.2 hG]
    refine (Nm _).mono ?_
    rintro e w8 ⟨rfl,rfl⟩
    go_wp2_with fail
    refine Gm hd7 hbw7 ?_ _ rfl rfl
    unfold lV
    rw [if_pos hH,if_pos (by rw [hC];exact hS),if_neg]
    rw [hC]
    exact hG
  ·rw [beq_eq_false_iff_ne.2 hS]
   refine (Nm _).mono ?_
   rintro e w6 ⟨rfl,rfl⟩
   refine Gm hd5 hbw5 ?_ _ rfl rfl
   unfold lV
   rw [if_pos hH,if_neg]
   rw [hC]
   exact hS
 ·rw [decide_eq_false (by exact hN)]
  refine (Nm _).mono ?_
  rintro e w' ⟨rfl,rfl⟩
  go_wp2
  refine Gm hd3 hbw3 (if_neg ?_) _ rfl rfl
  unfold Kw
  omega
end Go.Fx.K
namespace Go.Fx.K
open Go Go.Fx Go.Proofs Go.RowKit
set_option maxRecDepth 1000000
theorem cal {f:FuncId} {fn:Func} (h:Tryz.prog.funcs[f]?=some fn) (h1:(fn.name == "runtime.NumGoroutine")=false) (h2:fn.body.isNone=false):dY Tryz.prog f:=⟨fn,h,h1,h2⟩
def slE (o:Option dV):List V:=match o with
 | some s=>s.enc
 | none=>[.i 0,.i 0,sv [],sv []]
theorem Vu {ρ:Nat→Loc} {X:Nat→Prop} {w:World} (o:Option dV):aX ρ X w (.agg (slE o)) (slV o):=by
 cases o with
 | none=>exact ⟨_,rfl,by unfold slE;exact ⟨rfl,rfl,rfl,rfl,trivial⟩⟩
 | some s=>exact ⟨_,rfl,by unfold slE dV.enc;exact ⟨rfl,rfl,rfl,rfl,trivial⟩⟩
theorem alE (seg k:Int) (b:Bs) (hb:b.length=512) (h:In64 [seg,k]):Ok 30 [.i seg,.i k,.agg (us b)] (Is (.tup [.agg (slE (lV seg k b)),.b (lV seg k b).isSome])):=by
 refine ⟨cal Tryz.func30 (by kernel_rfl) (by kernel_rfl),?_⟩
 intro ρ X w vals hr hv
 match vals,hv with
 | [v1,v2,v3],⟨e1,e2,⟨arr,e0,h2⟩,_⟩ =>
 subst e0
 obtain rfl:v1=.int .i64 seg:=e1
 obtain rfl:v2=.int .i64 k:=e2
 have q1:=oV h2
 obtain ⟨arr⟩:=arr
 have q2:arr=usV b:=q1
 subst q2
 refine Calls.mono (Ys hr seg k b hb h) ?_
 rintro e w' ⟨rfl,hbw⟩
 exact ⟨_,_,[],ρ,rfl,⟨⟨rfl,rfl⟩,yad _⟩,Ij hr hbw,Ea hr hbw,⟨_,rfl,Vu _,rfl,trivial⟩,fun k hk=>absurd hk (Nat.not_lt_zero _)⟩
set_option maxRecDepth 20000
theorem acJ {x:Int}:(byB x).toNat=(x%256).toNat:=by
 have h:(IntKind.u8.wrap x).toNat<256:=by rw [Hl];omega
 unfold byB
 rw [Hl] at h ⊢
 rw [UInt8.toNat_ofNat']
 omega
theorem amL {x:Int}:x.fdiv (2 ^ 8)=x/256:=by
 rw [ybd _ (by decide)];rfl
theorem w4:∀ {n:Nat} {x:Int},0≤x→x<9223372036854775808→x<256 ^ n→dE (wrN n x)=x
 | 0,x,h0,_,h=>by
  have:x=0:=by simp at h;omega
  subst this;rfl
 | n+1,x,h0,h1,h=>by
  have ih:=w4 (n:=n) (x:=x/256) (by omega) (by omega) (by rw [Int.pow_succ] at h;omega)
  have e:dE (wrN (n+1) x)=gst (dE (wrN n (x/256))) (byB x):=by
   have:wrN (n+1) x=wrN n (x/256)++[byB x]:=by rw [←amL];rfl
   rw [this]
   unfold dE
   rw [ybR];rfl
  rw [e,ih,Da (by omega) (by omega),acJ]
  omega
theorem arB:∀ n:Fin 64,giE (giS 0 (UInt8.ofNat (2*n.val)) 0)=(n.val:Int)∧(UInt8.ofNat (2*n.val)).toNat<128:=by decide +kernel
theorem arA:∀ n:Fin 37,giE (giS (giS 0 (UInt8.ofNat ((2*(n.val+64))%128+128)) 0) (UInt8.ofNat ((2*(n.val+64))/128)) 1)=((n.val+64:Nat):Int)∧¬(UInt8.ofNat ((2*(n.val+64))%128+128)).toNat<128∧(UInt8.ofNat ((2*(n.val+64))/128)).toNat<128∧(UInt8.ofNat ((2*(n.val+64))/128)).toNat≠0:=by decide +kernel
theorem agU {n:Nat} (h:n≤100) {r:Bs}:giO (nB (n:Int)++r)=((n:Int),(nB (n:Int)).length,0):=by
 have hz:zz (n:Int)=2*n:=by unfold zz;rw [if_pos (by omega)];omega
 unfold nB
 rw [hz]
 by_cases h1:n<64
 ·obtain ⟨q1,q2⟩:=arB ⟨n,h1⟩
  simp only at q1 q2
  rw [Ls (by omega)]
  show giR (_::r) 0 0=_
  rw [giR,if_neg (by omega),if_pos q2,q1];rfl
 ·obtain ⟨m,rfl⟩:∃ m,n=m+64:=⟨n-64,by omega⟩
  obtain ⟨q1,q2,q3,q4⟩:=arA ⟨m,by omega⟩
  simp only at q1 q2 q3 q4
  rw [Uq (by omega),Ls (by omega)]
  show giR (_::_::r) 0 0=_
  rw [giR,if_neg (by omega),if_neg q2,giR,if_neg (by omega),if_pos q3,q1];rfl
theorem ahA {k d:Bs} (h:k.length≤100):gbO (tB k++d)=(k,((tB k).length:Int),0):=by
 have e:tB k++d=nB (k.length:Int)++(k++d):=by unfold tB;rw [yaq]
 have hg:=agU h (r:=k++d)
 have hl:lnO (tB k++d)=((k.length:Int),((nB (k.length:Int)).length:Int),0):=by
  rw [e]
  unfold lnO
  rw [hg]
  simp only
  rw [if_neg (by simp),if_neg (by omega),if_neg (by simp only [yag];omega)]
 unfold gbO
 rw [hl]
 simp only
 rw [if_neg (by simp),e,yaj,yaj,yaN,ybS]
 unfold tB
 rw [yag,ybF]
theorem dV.c_le {s:dV} (hk:s.key.length≤100) (hd:s.data.length≤360):s.c.length≤470:=by
 have:=oX (t:=s.key) (by omega)
 unfold dV.c
 rw [yag]
 omega
theorem acE {seg k:Int} {s:dV} (hg:0<s.gen∧s.gen≤1152921504606846976) (hq:0<s.seq∧s.seq≤1152921504606846976) (hk:s.key.length≤100) (hd:s.data.length≤360):lV seg k (eY seg k s)=some s:=by
 have hc:=dV.c_le hk hd
 have hD:(Cf seg k s.gen s.seq s.c).length=16:=cJ
 have e16:(eY seg k s).drop 16=wrN 8 s.gen++(wrN 8 s.seq++(wrN 2 s.c.length++(s.c.take 478++yaa (478-s.c.length) 0))):=by
  unfold eY;rw [ybD hD]
 have t16:(eY seg k s).take 16=Cf seg k s.gen s.seq s.c:=by
  unfold eY;rw [ybE hD]
 have e24:(eY seg k s).drop 24=wrN 8 s.seq++(wrN 2 s.c.length++(s.c.take 478++yaa (478-s.c.length) 0)):=by
  rw [show 24=16+8 from rfl,←ybA,e16]
  rw [ybD dG]
 have e32:(eY seg k s).drop 32=wrN 2 s.c.length++(s.c.take 478++yaa (478-s.c.length) 0):=by
  rw [show 32=24+8 from rfl,←ybA,e24]
  rw [ybD dG]
 have e34:(eY seg k s).drop 34=s.c++yaa (478-s.c.length) 0:=by
  rw [show 34=32+2 from rfl,←ybA,e32]
  rw [ybD dG,yaf (by omega)]
 have g:Ax (eY seg k s)=s.gen:=by
  unfold Ax
  rw [e16]
  rw [ybE dG]
  exact w4 (by omega) (by omega) (by omega)
 have q:Gf (eY seg k s)=s.seq:=by
  unfold Gf
  rw [e24]
  rw [ybE dG]
  exact w4 (by omega) (by omega) (by omega)
 have n:Kv (eY seg k s)=s.c.length:=by
  unfold Kv
  rw [e32]
  rw [ybE dG]
  exact w4 (by omega) (by omega) (by omega)
 have c:pX (eY seg k s)=s.c:=by
  unfold pX
  rw [n,e34,yaj,ybS]
 have gb:=ahA (k:=s.key) (d:=s.data) hk
 have hS:Ge (eY seg k s)=s:=by
  unfold Ge
  rw [g,q,c]
  have:s.c=tB s.key++s.data:=rfl
  rw [this,gb]
  simp only [yaj,yaN]
 have hb:(gbO (pX (eY seg k s))).2.2=0:=by
  rw [c]
  show (gbO (tB s.key++s.data)).2.2=0
  rw [gb]
 unfold lV
 rw [if_pos (by unfold Kw;rw [g,q,n];omega),if_pos (by rw [g,q,c,t16]),if_pos hb,hS,if_pos rfl]
theorem As:∀ {n:Nat},dE (yaa n 0)=0
 | 0=>rfl
 | n+1=>by
  rw [ycd]
  have:dE (yaa n 0++[0])=gst (dE (yaa n 0)) 0:=by unfold dE;rw [ybR];rfl
  rw [this,As];rfl
theorem Yr {seg k:Int} {n:Nat}:lV seg k (yaa n 0)=none:=by
 have g:Ax (yaa n 0)=0:=by unfold Ax;rw [List.drop_replicate,List.take_replicate,As]
 unfold lV
 rw [if_neg]
 unfold Kw
 rw [g]
 omega
abbrev By:=BitVec 8
def uZ (b:By):V:=.v (.int .u8 b.toNat)
structure Sec where
 l:List By
 h:l.length=64
 deriving DecidableEq
def Sec.enc (s:Sec):List V:=s.l.map uZ
def zS:Sec:=⟨yaa 64 0,rfl⟩
structure Cl where
 s:Sec
 bad:Bool
 deriving DecidableEq
def Cl.enc (c:Cl):List V:=c.s.enc++[.b c.bad]
def zC:Cl:=⟨zS,false⟩
structure Dk where
 cells:List Cl
 opn:List (List Sec)
 steps:Nat
 after:Int
 dead:Bool
abbrev Dk.n (D:Dk):Nat:=D.cells.length
def Dk.op (D:Dk) (i:Nat):List Sec:=D.opn.getD i []
def tW (l:List Sec):Blk:=if l=[] then .dead else .arr 64 (l.map Sec.enc)
def cD (p:Nat) (D:Dk) (L:List (Nat × Nat)):List (Value × V × Nat):=L.map fun e=>(.int .i64 e.1,.sl (p+3+e.1) 0 (D.op e.1).length,e.2)
def dkV (p:Nat) (D:Dk):Blk:=.var [.sl (p+1) 0 D.n,.mp (p+2),.i D.steps,.i D.after,.b D.dead]
def dkC (D:Dk):Blk:=.arr 65 (D.cells.map Cl.enc)
def dkT (D:Dk):List Blk:=D.opn.map tW
def dk (p:Nat) (D:Dk) (L:List (Nat × Nat)) (c:Nat):List Blk:=dkV p D::dkC D::.map (cD p D L) c::dkT D
structure MOk (D:Dk) (L:List (Nat × Nat)) (c:Nat):Prop where
 len:D.opn.length=D.n
 nod:(L.map (·.1)).Nodup
 key:∀ i,i∈L.map (·.1)↔i<D.n∧D.op i≠[]
 st:(L.map (·.2)).Nodup
 clk:∀ e∈L,e.2<c
theorem xE {D:Dk}:(dkT D).length=D.opn.length:=by simp [dkT]
theorem ahH {p:Nat} {D:Dk} {L:List (Nat × Nat)} {c:Nat} (h:D.opn.length=D.n):(dk p D L c).length=3+D.n:=by simp [dk,xE,h];omega
theorem cB (s:Sec):s.enc.length=64:=by simp [Sec.enc,s.h]
theorem Ay (c:Cl):c.enc.length=65:=by simp [Cl.enc,cB]
theorem Kx (c:Cl):yah 64 c.enc=c.s.enc:=by
 rw [Cl.enc,yaG (by simp [cB]),yaf (by simp [cB])]
theorem Yx (c:Cl):yah 65 c.enc=c.enc:=yaf (by simp [Ay])
theorem fL (s:Sec):yah 64 s.enc=s.enc:=yaf (by simp [cB])
theorem gY (s:Sec):yas 64 s.enc=[]:=yax (by simp [cB])
theorem Ky (c:Cl):yas 65 c.enc=[]:=yax (by simp [Ay])
theorem Pn (c:Cl):c.enc[64]?=some (.b c.bad):=by
 rw [Cl.enc,yay (by simp [cB])]
 simp [cB]
theorem Ly (s:Sec):s.enc.all isD=true:=by
 rw [List.all_eq_true]
 intro x hx
 rw [Sec.enc,yaV] at hx
 obtain ⟨b,_,rfl⟩:=hx
 rfl
theorem amV (c:Cl):c.enc.all isD=true:=by
 rw [Cl.enc,List.all_append,Ly];rfl
theorem Bi (s:Sec):s.enc.all isC=true:=by
 rw [List.all_eq_true]
 intro x hx
 rw [Sec.enc,yaV] at hx
 obtain ⟨b,_,rfl⟩:=hx
 rfl
theorem ahL (c:Cl):c.enc.all isC=true:=by
 rw [Cl.enc,List.all_append,Bi];rfl
theorem Yj {p q:Nat} {D:Dk} {L:List (Nat × Nat)} {c:Nat} {g:Nat→Option Nat} (hg:∀ i,i∈L.map (·.1)→g (p+3+i)=some (q+3+i)):bA g (.map (cD p D L) c)=.map (cD q D L) c:=by
 simp only [bA,cD,yaO]
 congr 1
 refine ybb fun e he=>?_
 simp only [Function.comp,ren,hg e.1 (ybr he)]
theorem acD {D:Dk} {g:Nat→Option Nat}:(dkT D).map (bA g)=dkT D:=by
 simp only [dkT,yaO]
 refine ybb fun l _=>?_
 simp only [Function.comp,tW]
 split<;>rfl
theorem lS {p q:Nat} {D:Dk} {L:List (Nat × Nat)} {c:Nat} {g:Nat→Option Nat} (hM:MOk D L c) (hg:∀ j,j<3+D.n→g (p+j)=some (q+j)):(dk p D L c).map (bA g)=dk q D L c:=by
 have h1:=hg 1 (by omega)
 have h2:=hg 2 (by omega)
 rw [dk,yal,yal,yal,acD,Yj (q:=q) fun i hi=>by
  have:=((hM.key i).1 hi).1
  have:=hg (3+i) (by omega)
  rw [show p+3+i=p+(3+i) by omega,show q+3+i=q+(3+i) by omega];exact this]
 simp only [dkV,dkC,bA,bZ,ren,h1,h2]
 rfl
theorem Nl {D:Dk} {M:List Nat}:(dkT D).map (aK M)=dkT D:=by
 simp only [dkT,yaO]
 refine ybb fun l _=>?_
 simp only [Function.comp,tW]
 split<;>rfl
theorem dQ {a b c:Blk} {T X:List Blk}:(a::b::c::(T++X))[T.length+3]?=X[0]?:=by
 have:(a::b::c::(T++X))[T.length+3]?=(T++X)[T.length+0]?:=rfl
 rw [this,yay (by omega)];congr 1;omega
theorem fH {a b c B:Blk} {T X:List Blk}:(a::b::c::(T++X)).set (T.length+3) B=a::b::c::(T++X.set 0 B):=by
 have:(a::b::c::(T++X)).set (T.length+3) B=a::b::c::((T++X).set (T.length+0) B):=rfl
 rw [this,yaB _ _ (by omega)];congr 5;omega
theorem pD {a b c:Blk} {T X:List Blk}:(a::b::c::(T++X))[T.length+4]?=X[1]?:=by
 have:(a::b::c::(T++X))[T.length+4]?=(T++X)[T.length+1]?:=rfl
 rw [this,yay (by omega)];congr 1;omega
theorem pZ {a b c B:Blk} {T X:List Blk}:(a::b::c::(T++X)).set (T.length+4) B=a::b::c::(T++X.set 1 B):=by
 have:(a::b::c::(T++X)).set (T.length+4) B=a::b::c::((T++X).set (T.length+1) B):=rfl
 rw [this,yaB _ _ (by omega)];congr 5;omega
theorem Kq {a b c:Blk} {T X:List Blk}:(a::b::c::(T++X))[T.length+5]?=X[2]?:=by
 have:(a::b::c::(T++X))[T.length+5]?=(T++X)[T.length+2]?:=rfl
 rw [this,yay (by omega)];congr 1;omega
theorem Of {a b c B:Blk} {T X:List Blk}:(a::b::c::(T++X)).set (T.length+5) B=a::b::c::(T++X.set 2 B):=by
 have:(a::b::c::(T++X)).set (T.length+5) B=a::b::c::((T++X).set (T.length+2) B):=rfl
 rw [this,yaB _ _ (by omega)];congr 5;omega
theorem Kp {a b c:Blk} {T X:List Blk}:(a::b::c::(T++X))[T.length+6]?=X[3]?:=by
 have:(a::b::c::(T++X))[T.length+6]?=(T++X)[T.length+3]?:=rfl
 rw [this,yay (by omega)];congr 1;omega
theorem Vi {a b c B:Blk} {T X:List Blk}:(a::b::c::(T++X)).set (T.length+6) B=a::b::c::(T++X.set 3 B):=by
 have:(a::b::c::(T++X)).set (T.length+6) B=a::b::c::((T++X).set (T.length+3) B):=rfl
 rw [this,yaB _ _ (by omega)];congr 5;omega
theorem Xw {a b c:Blk} {T X:List Blk}:(a::b::c::(T++X))[T.length+7]?=X[4]?:=by
 have:(a::b::c::(T++X))[T.length+7]?=(T++X)[T.length+4]?:=rfl
 rw [this,yay (by omega)];congr 1;omega
theorem Vh {a b c B:Blk} {T X:List Blk}:(a::b::c::(T++X)).set (T.length+7) B=a::b::c::(T++X.set 4 B):=by
 have:(a::b::c::(T++X)).set (T.length+7) B=a::b::c::((T++X).set (T.length+4) B):=rfl
 rw [this,yaB _ _ (by omega)];congr 5;omega
theorem Jg:[Value.int .u8 0,Value.int .u8 0,Value.int .u8 0,Value.int .u8 0,Value.int .u8 0,Value.int .u8 0,Value.int .u8 0,Value.int .u8 0,Value.int .u8 0,Value.int .u8 0,Value.int .u8 0,Value.int .u8 0,Value.int .u8 0,Value.int .u8 0,Value.int .u8 0,Value.int .u8 0,Value.int .u8 0,Value.int .u8 0,Value.int .u8 0,Value.int .u8 0,Value.int .u8 0,Value.int .u8 0,Value.int .u8 0,Value.int .u8 0,Value.int .u8 0,Value.int .u8 0,Value.int .u8 0,Value.int .u8 0,Value.int .u8 0,Value.int .u8 0,Value.int .u8 0,Value.int .u8 0,Value.int .u8 0,Value.int .u8 0,Value.int .u8 0,Value.int .u8 0,Value.int .u8 0,Value.int .u8 0,Value.int .u8 0,Value.int .u8 0,Value.int .u8 0,Value.int .u8 0,Value.int .u8 0,Value.int .u8 0,Value.int .u8 0,Value.int .u8 0,Value.int .u8 0,Value.int .u8 0,Value.int .u8 0,Value.int .u8 0,Value.int .u8 0,Value.int .u8 0,Value.int .u8 0,Value.int .u8 0,Value.int .u8 0,Value.int .u8 0,Value.int .u8 0,Value.int .u8 0,Value.int .u8 0,Value.int .u8 0,Value.int .u8 0,Value.int .u8 0,Value.int .u8 0,Value.int .u8 0,Value.bool false]=yaa 64 (Value.int .u8 0)++[Value.bool false]:=rfl
theorem Iy:yac V.v (yaU 64 (Value.int .u8 0)).toList=zS.enc:=rfl
theorem Qs:yac V.v (yaa 64 (Value.int .u8 0))=zS.enc:=rfl
theorem f8 {s:Sec} {M:List Nat}:bD M s.enc=s.enc:=by
 unfold Sec.enc
 generalize s.l=l
 induction l with
 | nil=>rfl
 | cons x r ih=>simp [bD,kill,uZ,ih]
theorem Cr {s:Sec} {g:Nat→Option Nat}:bZ g s.enc=s.enc:=by
 unfold Sec.enc
 generalize s.l=l
 induction l with
 | nil=>rfl
 | cons x r ih=>simp [bZ,ren,uZ,ih]
theorem Jh:yac V.v (yaa 64 (Value.int .u8 0)++[Value.bool false])=zC.enc:=rfl
theorem Yy {s:Sec} {x:Bool}:s.enc++[V.v (.bool x)]=Cl.enc ⟨s,x⟩:=rfl
theorem ahK {c:Cl}:yas 64 c.enc=[V.v (.bool c.bad)]:=by
 rw [Cl.enc,ybf (by simp [cB]),gY];rfl
theorem Jt {l:List Cl} {k:Nat} {c:Cl}:(yac Cl.enc l).set k c.enc=yac Cl.enc (l.set k c):=by rw [ybu]
theorem ahX:zC.s=zS:=rfl
theorem aeF:zC.bad=false:=rfl
theorem mF {D:Dk} {X Y:List Blk}:dkT D++X++Y=dkT D++(X++Y):=yaq ..
theorem Rs {a b c:Blk} {D:Dk} {X:List Blk} {k:Nat} (hk:k<D.opn.length) (ho:D.op k≠[]):(a::b::c::(dkT D++X))[3+k]?=some (.arr 64 ((D.op k).map Sec.enc)):=by
 have e:D.op k=D.opn[k]:=by rw [Dk.op,yao,yak hk];rfl
 rw [show 3+k=k+3 by omega]
 show (dkT D++X)[k]?=_
 rw [yaI (by rw [xE];exact hk)]
 simp only [dkT,yaM,yak hk,ybO,tW]
 rw [if_neg (by rw [←e];exact ho),e]
theorem Iq {D:Dk} {M:List Nat} {X:List Blk}:yac (aK M) (dkT D++X)=dkT D++X.map (aK M):=by rw [yap,Nl]
theorem aaY {cx:Cx} {e:Env} {h:List Blk} {b:Nat} {kd:TypeDesc} {m k:Operand} {K:V→St→Prop}:aOp cx (.mdel kd m k) ⟨e,h,b⟩ K=Ff kd (ev e k) fun key=>iM h (ev e m) fun b' es c=>b'∉cx.bn∧Ic (dF kd key es 0) es c fun B=>K (.v (.tuple #[])) ⟨e,h.set b' B,b⟩:=rfl
theorem abG {i c:Nat} {y:V} {es:List (Value × V × Nat)} {K:Blk→Prop}:Ic (some (some (i,y))) es c K=K (.map (es.eraseIdx i) c):=rfl
theorem agX {a b c:Blk} {T X:List Blk}:(a::b::c::(T++X))[T.length+8]?=X[5]?:=by
 have:(a::b::c::(T++X))[T.length+8]?=(T++X)[T.length+5]?:=rfl
 rw [this,yay (by omega)];congr 1;omega
theorem afA {a b c B:Blk} {T X:List Blk}:(a::b::c::(T++X)).set (T.length+8) B=a::b::c::(T++X.set 5 B):=by
 have:(a::b::c::(T++X)).set (T.length+8) B=a::b::c::((T++X).set (T.length+5) B):=rfl
 rw [this,yaB _ _ (by omega)];congr 5;omega
theorem n61 {n:Nat}:n+6+1=n+7:=rfl
set_option maxRecDepth 20000
structure MS where
 D:Dk
 L:List (Nat × Nat)
 c:Nat
 ok:MOk D L c
abbrev MS.n (S:MS):Nat:=S.D.cells.length
def MS.bs (S:MS) (p:Nat):List Blk:=dk p S.D S.L S.c
theorem MS.len (S:MS) {p:Nat}:(S.bs p).length=3+S.n:=ahH S.ok.len
theorem MS.T_len (S:MS):(dkT S.D).length=S.n:=by rw [xE,S.ok.len]
def QM (n:Nat) (Q:V→MS→Prop):V→List Blk→Prop:=fun r h=>∃ S':MS,(S'.n=n∧Q r S')∧h=S'.bs 0
abbrev OkD (f:FuncId) (xs:List V) (S:MS) (Q:V→MS→Prop):Prop:=OkN Tryz.prog f xs (S.bs 0) (yae 3 S.n) (QM S.n Q)
theorem eR {p m k:Nat}:pos (yae p m) k=if p≤k∧k<p+m then some (k-p) else none:=by
 induction m generalizing p with
 | zero=>rw [if_neg (by omega)];rfl
 | succ m ih =>
  rw [yba,pos,ih]
  by_cases h:k=p
  ·rw [if_pos h,if_pos (by omega)];simp [h]
  ·rw [if_neg h]
   by_cases h2:p+1≤k∧k<p+1+m
   ·rw [if_pos h2,if_pos (by omega)];simp;omega
   ·rw [if_neg h2,if_neg (by omega)];rfl
theorem iK {X Y B:List Blk}:∀ {A:List Blk},Y.length=X.length→aN (yae A.length X.length) Y (A++(X++B))=A++(Y++B):=by
 induction X generalizing Y with
 | nil =>
  intro A h
  have:Y=[]:=List.length_eq_zero_iff.1 h
  subst this
  simp [aN]
 | cons x X ih =>
  intro A h
  cases Y with
  | nil=>simp at h
  | cons y Y =>
   have:=ih (Y:=Y) (A:=A++[y]) (by simpa using h)
   rw [yaw,yba,aN]
   have e:(A++(x::X++B)).set A.length y=(A++[y])++(X++B):=by
    rw [yaB _ _ (yad _)];simp
   rw [e]
   rw [yag,ych] at this
   rw [this];simp
theorem u7 {p m N j:Nat}:back (yae p m) N j=if j<m then some (p+j) else some (N+(j-m)):=by
 unfold back
 by_cases h:j<m
 ·rw [if_pos h];simp [ybW,h]
 ·rw [if_neg h,ybK (by simp;omega)];simp
theorem Mq {p n:Nat}:(yae 3 n).filterMap ((yae p (3+n))[·]?)=yae (p+3) n:=by
 have h:∀ (m a:Nat),a+m≤3+n→(yae a m).filterMap ((yae p (3+n))[·]?)=yae (p+a) m:=by
  intro m
  induction m with
  | zero=>intro a _;rfl
  | succ m ih =>
   intro a ha
   rw [yba,List.filterMap_cons,ybW (by omega),ih (a+1) (by omega)]
   simp [yba,ybJ]
 exact h n 3 (by omega)
section
variable {cx:Cx} {f:FuncId} {e:Env} {b:Nat} {K:V→St→Prop}
theorem Sh (A B:List Blk) (S:MS) (args xs:List V) (Q:V→MS→Prop) (hC:cx.C f (.ptr 0 0 0::xs) (S.bs 0) (yae 3 S.n) (QM S.n Q))
  (ha:aE (A++(S.bs A.length++B)) (pos (yae A.length (3+S.n))) args∧wkL xs (aL (A++(S.bs A.length++B)) (pos (yae A.length (3+S.n))) args))
  (hbn:∀ k∈cx.bn,k<A.length∨A.length+(3+S.n)≤k) (hfx:∀ k∈cx.fx,k<A.length+3∨A.length+3+S.n≤k)
  (hA:A.map (aK (yae (A.length+3) S.n))=A) (hB:B.map (aK (yae (A.length+3) S.n))=B) (hE:aM (yae (A.length+3) S.n) e=e)
  (h3:∀ (r:V) (S':MS),S'.n=S.n→Q r S'→(∀ g,ren g r=r)∧aD cx.fx (A++(S'.bs A.length++B))∧K r ⟨e,A++(S'.bs A.length++B),b⟩):aR cx f (.ptr A.length 0 0::args) ⟨e,A++(S.bs A.length++B),b⟩ K:=by
 have hl:=S.len (p:=A.length)
 have hsl:3+S.n=(S.bs A.length).length:=hl.symm
 refine ⟨yae A.length (3+S.n),.ptr 0 0 0::xs,yae 3 S.n,QM S.n Q,⟨⟨List.nodup_range',fun k hk=>?_⟩,fun j hj k hk hkf=>?_⟩,?_,?_,?_,?_⟩
 ·rw [yaE] at hk
  refine ⟨by simp only [yag,hl];omega,fun hb=>?_⟩
  have:=hbn k hb
  omega
 ·rw [yaE] at hj
  rw [ybW (by omega)] at hk
  have:=hfx k hkf
  simp only [Option.some.injEq] at hk
  omega
 ·refine ⟨?_,ha.1⟩
  simp only [aG]
 ·refine ⟨?_,ha.2⟩
  simp only [a6,eR]
  rw [if_pos (by omega),ybi]
  exact rfl
 ·have e1:(yae A.length (3+S.n)).map (fun k=>bA (pos (yae A.length (3+S.n))) (blk (A++(S.bs A.length++B)) k))=S.bs 0:=by
   have h1:(S.bs A.length).map (bA (pos (yae A.length (3+S.n))))=S.bs 0:=lS S.ok fun j hj=>by
    have hj2:j<3+S.n:=hj
    rw [eR,if_pos (by omega)];simp
   rw [←h1]
   apply List.ext_getElem
   ·simp [hl]
   ·intro j h2 h3
    simp only [yaC,List.getElem_range',blk]
    congr 1
    have hj:j<(S.bs A.length).length:=by simpa using h3
    rw [yao,yay (by omega),show A.length+1*j-A.length=j by omega,yaI hj,yak hj];rfl
  rw [e1];exact hC
 ·rintro r h' ⟨S',⟨hn,hq⟩,rfl⟩ _
  obtain ⟨q1,q2,q3⟩:=h3 r S' hn hq
  have e2:(S'.bs 0).map (bA (back (yae A.length (3+S.n)) (A++(S.bs A.length++B)).length))=S'.bs A.length:=lS S'.ok fun j hj=>by
   have hj2:j<3+S'.n:=hj
   rw [u7,if_pos (by omega)];simp
  rw [Mq,e2,yap,yap,hA,hB,hE]
  have e3:aN (yae A.length (3+S.n)) (S'.bs A.length) (A++((S.bs A.length).map (aK (yae (A.length+3) S.n))++B))=A++(S'.bs A.length++B):=by
   have:=iK (X:=(S.bs A.length).map (aK (yae (A.length+3) S.n))) (Y:=S'.bs A.length) (B:=B) (A:=A) (by rw [yat,S.len,S'.len,hn])
   rw [yat,hl] at this
   exact this
  rw [e3,q1]
  exact ⟨q2,q3⟩
end
theorem abI {S:MS} {p:Nat} {A B:List Blk} (hp:p=A.length) {i:Nat} (hi:i<S.n) (ho:S.D.op i≠[]):aC (A++(S.bs p++B)) (p+3+i):=by
 subst hp
 have h1:i<S.D.opn.length:=by rw [S.ok.len];exact hi
 have h2:S.D.op i=S.D.opn[i]:=by rw [Dk.op,yao,yak h1];rfl
 have hx:(A++(S.bs A.length++B))[A.length+3+i]?=some (tW S.D.opn[i]):=by
  rw [yay (by omega),yaI (by rw [S.len];omega)]
  rw [show A.length+3+i-A.length=i+3 by omega]
  simp [MS.bs,dk,dkT,h1]
 unfold aC
 rw [hx,tW,if_neg (by rw [←h2];exact ho)]
 trivial
theorem adC {H:List Blk} {D:Dk} {B:List Blk} (hB:wfB H B):wfB H (dkT D++B):=by
 unfold dkT
 generalize D.opn=l
 induction l with
 | nil=>exact hB
 | cons x r ih =>
  show wfB H (tW x::(r.map tW++B))
  unfold tW
  split
  ·exact ih
  ·exact ih
theorem MS.wf (S:MS) (A B:List Blk) {p:Nat} (hp:p=A.length) {C:List Blk} (hC:wfB (A++(S.bs p++B)) C):wfB (A++(S.bs p++B)) (S.bs p++C):=by
 have hl:∀ j,j<3→aC (A++(S.bs p++B)) (p+j):=by
  intro j hj
  subst hp
  unfold aC
  rw [yay (by omega),yaI (by rw [S.len];omega)]
  rw [show A.length+j-A.length=j by omega]
  rcases j with _|_|_|j
  ·trivial
  ·trivial
  ·trivial
  ·omega
 show wfB _ (dkV p S.D::dkC S.D::.map (cD p S.D S.L) S.c::(dkT S.D++C))
 refine ⟨⟨hl 1 (by omega),hl 2 (by omega),trivial,trivial,trivial,trivial⟩,?_,adC hC⟩
 have:∀ l:List (Nat × Nat),(∀ e∈l,e∈S.L)→wfL (A++(S.bs p++B)) ((l.map fun e=>((.int .i64 e.1,.sl (p+3+e.1) 0 (S.D.op e.1).length,e.2):Value × V × Nat)).map (·.2.1)):=by
  intro l
  induction l with
  | nil=>intro _;trivial
  | cons x r ih =>
   intro h
   have h2:=(S.ok.key x.1).1 (ybr (h x yaP))
   exact ⟨abI hp h2.1 h2.2,ih fun e he=>h e (yaQ _ he)⟩
 exact this S.L fun _ h=>h
set_option maxRecDepth 20000
theorem dR:∀ {h X:List Blk},leH (h++X) h
 | [],X=>by cases X<;>trivial
 | b::h,X=>⟨aS b,dR⟩
theorem mI {f:FuncId} {l0 l:LCode} {rs:List eK} {nt:Nat} (hl:rlF Tryz.prog f l0=some (l,rs,nt)) {args:List V} {S:MS} {Q:V→MS→Prop} (hlen:args.length≤nt)
  (h:aw (cxN Tryz.prog [0,1,2]) l (dD [0,1,2] (3+S.n) rs (QM S.n Q)) (fun _ _=>False) (dD [0,1,2] (3+S.n) rs (QM S.n Q)) ⟨aO 0 args,dkV 0 S.D::dkC S.D::.map (cD 0 S.D S.L) S.c::dkT S.D,0⟩):OkD f args S Q:=by
 refine cO pol [0,1,2] hl hlen ⟨trivial,trivial,trivial,trivial⟩ (fun k hk hm=>?_) (by rw [S.len];exact h)
 rw [S.len] at hk
 have:¬(3≤k∧k<3+S.n):=fun h2=>hm (yaE.2 h2)
 have h3:k=0∨k=1∨k=2:=by omega
 rcases h3 with rfl|rfl|rfl<;>simp
theorem resP_mono {h:List Blk} {e:Env} (rs:List eK) (acc:List V) {K K':List V→Prop} (hk:∀ xs,K xs→K' xs) (hh:aY h e rs acc K):aY h e rs acc K':=by
 induction rs generalizing acc with
 | nil=>exact hk _ hh
 | cons r rs ih =>
  cases r with
  | tmp t=>exact ih _ hh
  | cell a n =>
   simp only [aY] at hh ⊢
   have hcs:∀ (n:Option Nat) (f:Nat) (cs:List V) {A B:V→Prop},(∀ x,A x→B x)→bX n f cs A→bX n f cs B:=by
    intro n f cs A B hab hl
    unfold bX at hl ⊢
    split at hl
    ·unfold cW at hl ⊢
     split at hl
     ·exact hab _ hl
     ·exact hl.elim
    ·exact ⟨hl.1,hab _ hl.2⟩
   unfold hJ at hh ⊢
   split at hh
   ·unfold pQ at hh ⊢
    split at hh
    ·exact hcs _ _ _ (fun x=>ih _) hh
    ·obtain ⟨hi,hh⟩:=hh;exact ⟨hi,hcs _ _ _ (fun x=>ih _) hh⟩
    ·obtain ⟨hi,hh⟩:=hh;exact ⟨hi,hcs _ _ _ (fun x=>ih _) hh⟩
    ·exact hh.elim
   ·obtain ⟨hi,hh⟩:=hh;exact ⟨hi,hcs _ _ _ (fun x=>ih _) hh⟩
   ·exact hh.elim
theorem vI (S':MS) {n b:Nat} {e:Env} {h:List Blk} {rs:List eK} {Q:V→MS→Prop} (hh:leH h (S'.bs 0)) (hn:S'.n=n) (hr:aY h e rs [] fun xs=>wfV (S'.bs 0) (a7 xs)∧Q (a7 xs) S'):dD [0,1,2] (3+n) rs (QM n Q) ⟨e,h,b⟩:=by
 rw [cC]
 refine resP_mono _ _ ?_ hr
 rintro xs ⟨h1,h2⟩
 refine ⟨S'.bs 0,⟨hh,⟨trivial,trivial,trivial,trivial⟩,by rw [S'.len,hn];exact yad _,h1,?_⟩,S',⟨hn,h2⟩,rfl⟩
 have:=S'.wf (p:=0) [] [] rfl (C:=[]) trivial
 simpa using this
def Dk.chk (D:Dk) (i:Int):Int:=if D.dead then 130 else if i<0∨(D.n:Int)≤i then 1 else 0
theorem Wl (S:MS) (i:Int):OkD 39 [.ptr 0 0 0,.i i] S (fun r S'=>S'=S∧r=.i (S.D.chk i)):=by
 refine mI lw39 (by simp) ?_
 unfold c39 dkV dkC
 simp -implicitDefEqProofs only [rX,↓rY,aA,↓reduceIte,Nat.reduceEqDiff,reduceCtorEq,cxN,aO]
 simp only [br,decide_eq_true_eq,decide_eq_false_iff_not]
 have fin:∀ (e:Env) (b:Nat) (q:Int),get e 4=.i q→q=S.D.chk i→dD [0,1,2] (3+S.n) [eK.tmp 4] (QM S.n fun r S'=>S'=S∧r=.i (S.D.chk i)) ⟨e,dkV 0 S.D::dkC S.D::.map (cD 0 S.D S.L) S.c::dkT S.D,b⟩:=by
  intro e b q hq he
  refine vI S (aU _) rfl ?_
  simp only [aY,ybn,ybo,yaZ,a7,hq,he]
  exact ⟨trivial,trivial,trivial⟩
 refine ⟨fun h=>fin _ _ 130 rfl (by simp [Dk.chk,h]),fun h=>⟨fun h1=>fin _ _ 1 rfl (by simp [Dk.chk,h,h1]),fun h1 _=>⟨fun h2=>fin _ _ 1 rfl (by simp [Dk.chk,h,h2]),fun h2=>fin _ _ 0 rfl (by simp [Dk.chk,h,h1,h2])⟩⟩⟩
def MS.set (S:MS) (st:Nat) (af:Int) (dd:Bool):MS:=⟨{ S.D with steps:=st,after:=af,dead:=dd },S.L,S.c,⟨S.ok.len,S.ok.nod,S.ok.key,S.ok.st,S.ok.clk⟩⟩
def MS.step (S:MS):MS:=if S.D.after=0 then S.set S.D.steps S.D.after true else S.set (S.D.steps+1) (if 0<S.D.after then S.D.after-1 else S.D.after) S.D.dead
def Dk.stepE (D:Dk):Int:=if D.after=0 then 130 else 0
theorem adP (S:MS) (hs:S.D.steps≤1000000000000000) (ha:-1≤S.D.after∧S.D.after≤9223372036854775807):OkD 109 [.ptr 0 0 0] S (fun r S'=>S'=S.step∧r=.i S.D.stepE):=by
 refine mI lw109 (by simp) ?_
 unfold c109 dkV dkC
 simp -implicitDefEqProofs only [rX,↓rY,aA,cells?,splice,↓reduceIte,Nat.reduceEqDiff,Nat.reduceAdd,reduceCtorEq,isC,Nat.reduceLeDiff,cxN,aO]
 simp only [br,decide_eq_true_eq,decide_eq_false_iff_not,beq_iff_eq,beq_eq_false_iff_ne]
 have fin:∀ (e:Env) (b:Nat) (q:Int) (st:Nat) (af:Int) (dd:Bool),get e 2=.i q→q=S.D.stepE→S.set st af dd=S.step→∀ st':Int,st'=st→dD [0,1,2] (3+S.n) [eK.tmp 2] (QM S.n fun r S'=>S'=S.step∧r=.i S.D.stepE) ⟨e,.var [.sl 1 0 S.D.n,.mp 2,.v (.int .i64 st'),.v (.int .i64 af),.v (.bool dd)]::dkC S.D::.map (cD 0 S.D S.L) S.c::dkT S.D,b⟩:=by
  intro e b q st af dd hq he hs st' hst
  subst hst
  refine vI (S.set st af dd) (aU _) rfl ?_
  simp only [aY,ybn,ybo,yaZ,a7,hq,he]
  exact ⟨trivial,hs,trivial⟩
 refine ⟨fun h=>fin _ _ 130 S.D.steps S.D.after true rfl (by simp [Dk.stepE,h]) (by simp [MS.step,h]) _ rfl,fun h=>⟨fun h1=>⟨by simp only [lo,hi];omega,by simp only [lo,hi];omega,fin _ _ 0 (S.D.steps+1) (S.D.after-1) S.D.dead rfl (by simp [Dk.stepE,h]) (by simp [MS.step,h,h1]) _ (by omega)⟩,fun h1=>⟨by simp only [lo,hi];omega,fin _ _ 0 (S.D.steps+1) S.D.after S.D.dead rfl (by simp [Dk.stepE,h]) (by simp [MS.step,h,h1]) _ (by omega)⟩⟩⟩
theorem ok9 (S:MS):OkD 9 [.ptr 0 0 0] S (fun r S'=>S'=S∧r=.i S.n):=by
 refine mI lw9 (by simp) ?_
 unfold c9 dkV dkC
 simp -implicitDefEqProofs only [rX,↓rY,aA,↓reduceIte,reduceCtorEq,cxN,aO]
 exact fun _=>vI S (aU _) rfl ⟨trivial,rfl,rfl⟩
theorem aqQ (S:MS):OkD 25 [.ptr 0 0 0] S (fun r S'=>S'=S∧r=.b S.D.dead):=by
 refine mI lw25 (by simp) ?_
 unfold c25 dkV dkC
 simp -implicitDefEqProofs only [rX,↓rY,aA,↓reduceIte,reduceCtorEq,cxN,aO]
 exact vI S (aU _) rfl ⟨trivial,rfl,rfl⟩
set_option maxRecDepth 20000
theorem If {h:List Blk}:∀ {l:List Nat},(∀ k∈l,aC h k)→aD l h
 | [],_=>trivial
 | k::r,hl=>⟨hl k yaP,If fun j hj=>hl j (yaQ _ hj)⟩
theorem Az {cx:Cx} {f:FuncId} {e:Env} {b:Nat} {K:V→St→Prop} {B:List Blk} {S:MS} {args xs:List V} {Q:V→MS→Prop} (hC:cx.C f (.ptr 0 0 0::xs) (S.bs 0) (yae 3 S.n) (QM S.n Q))
  (ha:∀ (H:List Blk) (g:Nat→Option Nat),aE H g args∧wkL xs (aL H g args))
  (hbn:∀ k∈cx.bn,3+S.n≤k) (hfx:∀ k∈cx.fx,k<3)
  (hB:B.map (aK (yae 3 S.n))=B) (hE:aM (yae 3 S.n) e=e)
  (h3:∀ (r:V) (S':MS),S'.n=S.n→Q r S'→(∀ g,ren g r=r)∧K r ⟨e,dkV 0 S'.D::dkC S'.D::.map (cD 0 S'.D S'.L) S'.c::(dkT S'.D++B),b⟩):aR cx f (.ptr 0 0 0::args) ⟨e,dkV 0 S.D::dkC S.D::.map (cD 0 S.D S.L) S.c::(dkT S.D++B),b⟩ K:=by
 refine Sh [] B S args xs Q hC (ha _ _) (fun k hk=>.inr ?_) (fun k hk=>.inl ?_) rfl hB hE fun r S' h1 h2=>?_
 ·have:=hbn k hk;simpa using this
 ·have:=hfx k hk;simpa using this
 ·obtain ⟨g1,g2⟩:=h3 r S' h1 h2
  refine ⟨g1,If fun k hk=>?_,g2⟩
  have:=hfx k hk
  rcases k with _|_|_|k
  ·trivial
  ·trivial
  ·trivial
  ·omega
theorem Dh {cx:Cx} {f:FuncId} {e:Env} {b:Nat} {K:V→St→Prop} {S:MS} {args xs:List V} {Q:V→MS→Prop} (hC:cx.C f (.ptr 0 0 0::xs) (S.bs 0) (yae 3 S.n) (QM S.n Q))
  (ha:∀ (H:List Blk) (g:Nat→Option Nat),aE H g args∧wkL xs (aL H g args))
  (hbn:∀ k∈cx.bn,3+S.n≤k) (hfx:∀ k∈cx.fx,k<3) (hE:aM (yae 3 S.n) e=e)
  (h3:∀ (r:V) (S':MS),S'.n=S.n→Q r S'→(∀ g,ren g r=r)∧K r ⟨e,dkV 0 S'.D::dkC S'.D::.map (cD 0 S'.D S'.L) S'.c::dkT S'.D,b⟩):aR cx f (.ptr 0 0 0::args) ⟨e,dkV 0 S.D::dkC S.D::.map (cD 0 S.D S.L) S.c::dkT S.D,b⟩ K:=by
 have:=Az (B:=[]) (b:=b) (K:=K) hC ha hbn hfx rfl hE fun r S' h1 h2=>by
  have:=h3 r S' h1 h2
  rwa [yar]
 rwa [yar] at this
theorem vV {p:Nat} {D:Dk} {k:Nat}:∀ {L:List (Nat × Nat)} {j:Nat},(k∉L.map (·.1)→dF (.int .i64) (.int .i64 k) (cD p D L) j=some none)∧(k∈L.map (·.1)→∃ m,j≤m∧m<j+L.length∧(L[m-j]?).map (·.1)=some k∧dF (.int .i64) (.int .i64 k) (cD p D L) j=some (some (m,.sl (p+3+k) 0 (D.op k).length)))
 | [],j=>⟨fun _=>rfl,fun h=>by simp at h⟩
 | e::L,j=>by
  have ih:=vV (p:=p) (D:=D) (k:=k) (L:=L) (j:=j+1)
  have es:Instr.sameNow (.int .i64) (.int .i64 k) (.int .i64 e.1)=some ((k:Int)==(e.1:Int)):=rfl
  by_cases h:k=e.1
  ·refine ⟨fun h2=>absurd (by rw [h];exact yaP) h2,fun _=>⟨j,yad _,by simp,by simp [h],?_⟩⟩
   simp only [cD,yal,dF,es]
   rw [show ((k:Int)==(e.1:Int))=true by simp [h]]
   simp only [h]
  ·have hne:((k:Int)==(e.1:Int))=false:=by simp;omega
   have e2:dF (.int .i64) (.int .i64 k) (cD p D (e::L)) j=dF (.int .i64) (.int .i64 k) (cD p D L) (j+1):=by
    simp only [cD,yal,dF,es,hne]
   rw [e2]
   constructor
   ·intro h2
    exact ih.1 fun h3=>h2 (yaQ _ h3)
   ·intro h2
    have h3:k∈L.map (·.1):=by
     rcases ybh.1 h2 with h3|h3
     ·exact absurd h3 h
     ·exact h3
    obtain ⟨m,h4,h5,h6,h7⟩:=ih.2 h3
    refine ⟨m,by omega,by simp only [yaw];omega,?_,h7⟩
    rw [show m-j=m-(j+1)+1 by omega,List.getElem?_cons_succ];exact h6
def opV (p:Nat) (D:Dk) (k:Nat):V:=if D.op k=[] then .nil else .sl (p+3+k) 0 (D.op k).length
theorem Rd (S:MS) {p k:Nat} (hk:k<S.n) {K:V→Prop}:eF (dF (.int .i64) (.int .i64 k) (cD p S.D S.L) 0) (.slice none 0 0) false K=K (opV p S.D k):=by
 have h:=vV (p:=p) (D:=S.D) (k:=k) (L:=S.L) (j:=0)
 by_cases ho:S.D.op k=[]
 ·rw [h.1 fun hm=>((S.ok.key k).1 hm).2 ho,opV,if_pos ho];rfl
 ·obtain ⟨m,_,_,_,h2⟩:=h.2 ((S.ok.key k).2 ⟨hk,ho⟩)
  rw [h2,opV,if_neg ho];rfl
theorem afC {H:List Blk} {s:Sec}:wfL H s.enc:=by
 unfold Sec.enc
 generalize s.l=l
 induction l with
 | nil=>trivial
 | cons x r ih=>exact ⟨trivial,ih⟩
def Dk.rd (D:Dk) (i:Int):Sec × Int :=
 if D.chk i≠0 then (zS,D.chk i) else
 match (D.op i.toNat).getLast? with
 | some s=>(s,0)
 | none=>if (D.cells.getD i.toNat zC).bad then (zS,131) else ((D.cells.getD i.toNat zC).s,0)
theorem agA (S:MS) (i:Int):OkD 26 [.ptr 0 0 0,.i i] S (fun r S'=>S'=S∧r=.tup [.agg (S.D.rd i).1.enc,.i (S.D.rd i).2]):=by
 refine mI lw26 (by simp) ?_
 unfold c26 dkV dkC
 simp -implicitDefEqProofs only [rX,↓rY,aA,cells?,↓reduceIte,Nat.reduceEqDiff,reduceCtorEq,aF,cxN,Iy,dQ,fH,aO]
 refine Az (B:=[.var zS.enc]) (S:=S) (Wl S i) (fun _ _=>⟨⟨trivial,trivial⟩,rfl,trivial⟩) (by simp) (by simp) (by simp [aK,f8]) (by simp [aM,kill,yaE,S.T_len];omega) ?_
 rintro r S' hn ⟨rfl,rfl⟩
 refine ⟨fun g=>rfl,?_⟩
 simp -implicitDefEqProofs only [rX,↓rY,zW,aA,cells?,splice,↓reduceIte,Nat.reduceEqDiff,dB,reduceCtorEq,bJ,Nat.reduceLeDiff,↓qbY,↓qcb,↓qcl,yaC,Qs,cB,Bi,Ay,Kx,Pn,dQ,fH,dkV,dkC,gY]
 simp only [br,decide_eq_true_eq,decide_eq_false_iff_not,bne_iff_ne,bne_eq_false_iff_eq]
 have hc:S'.D.chk i=0→0≤i∧i<S'.n∧S'.D.dead=false:=by
  intro h
  unfold Dk.chk at h
  split at h
  ·cases h
  ·rename_i hd
   split at h
   ·cases h
   ·refine ⟨by omega,by show i<(S'.D.n:Int);omega,by simpa using hd⟩
 have fin:∀ (e:Env) (b:Nat) (q:Int) (s:Sec),get e 4=.ptr ((dkT S'.D).length+3) 0 0→get e 5=.i q→S'.D.rd i=(s,q)→dD [0,1,2] (3+S'.n) [eK.cell 4 (some 64),eK.tmp 5] (QM S'.n fun r S₁=>S₁=S'∧r=V.tup [V.agg (S'.D.rd i).fst.enc,V.i (S'.D.rd i).snd]) ⟨e,dkV 0 S'.D::dkC S'.D::.map (cD 0 S'.D S'.L) S'.c::(dkT S'.D++[.var s.enc]),b⟩:=by
  intro e b q s h4 h5 hr
  refine vI S' (dR (h:=S'.bs 0) (X:=[.var s.enc])) rfl ?_
  simp -implicitDefEqProofs only [rX,↓rY,aY,a7,wfV,wfL,cB,fL,dQ,dkV,dkC,h4,h5,hr]
  simp [wfV,wfL,afC]
 refine ⟨fun h=>fin _ _ _ _ rfl rfl (by rw [Dk.rd,if_pos h]),fun h=>?_⟩
 obtain ⟨h1,h2,h3⟩:=hc h
 obtain ⟨k,rfl⟩:∃ k:Nat,i=k:=⟨i.toNat,by omega⟩
 have hk:k<S'.n:=by omega
 have hkc:S'.D.cells.getD k zC=S'.D.cells[k]'hk:=by rw [yao,yak hk];rfl
 rw [Rd S' hk,opV]
 by_cases ho:S'.D.op k=[]
 ·rw [if_pos ho]
  have hr:S'.D.rd k=if (S'.D.cells[k]'hk).bad then (zS,131) else ((S'.D.cells[k]'hk).s,0):=by
   rw [Dk.rd,if_neg (by rw [h];simp),yaj,ho,hkc];rfl
  simp -implicitDefEqProofs only [rX,↓qaO,↓qaT,yaj]
  exact ⟨fun h=>absurd h (by omega),fun _=>⟨⟨by omega,by exact h2⟩,hk,fun hb=>fin _ _ _ _ rfl rfl (by rw [hr,if_pos hb]),fun hb=>⟨⟨by omega,by exact h2⟩,hk,fin _ _ _ _ rfl rfl (by rw [hr,hb];rfl)⟩⟩⟩
 ·rw [if_neg ho]
  have hl:0<(S'.D.op k).length:=ycc.2 ho
  simp -implicitDefEqProofs only [rX,↓rY,Nat.reduceEqDiff,dB,yaj]
  rw [Rs (by rw [S'.ok.len];exact hk) ho]
  simp -implicitDefEqProofs only [rX,↓rY,yaC,cB,fL,Bi,gY]
  have hr:S'.D.rd k=((S'.D.op k)[(S'.D.op k).length-1],0):=by
   rw [Dk.rd,if_neg (by rw [h];simp),yaj,List.getLast?_eq_getElem?,yak (by omega)]
  have e1:∀ hx,(S'.D.op k)[((S'.D.op k).length-1:Int).toNat]'hx=(S'.D.op k)[(S'.D.op k).length-1]:=fun hx=>by congr 1;omega
  exact fun hm=>⟨fun _ _=>⟨by simp only [lo,hi];unfold maxLen at hm;omega,⟨by omega,by omega⟩,by omega,fin _ _ _ _ rfl rfl (by rw [hr,e1])⟩,fun h=>absurd h (by omega)⟩
set_option maxRecDepth 20000
theorem Nj {xs ys:List V} {k2:List (Nat × TypeDesc)}:∀ {k1:List (Nat × TypeDesc)} {K:Bool→Prop},dU xs ys (k1++k2) K=dU xs ys k1 fun t=>dU xs ys k2 fun u=>K (t&&u)
 | [],K=>by simp [dU]
 | f::r,K=>by
  simp only [ybm,dU]
  congr 1
  funext t
  rw [Nj]
  simp only [Bool.and_assoc]
theorem ahC {a b:By} {K:Bool→Prop}:eqC (.int .u8) (some (uZ a)) (some (uZ b)) K=K (a==b):=by
 have e:eqK (.int .u8 a.toNat) (.int .u8 b.toNat)=(a==b):=by
  show ((a.toNat:Int)==(b.toNat:Int))=(a==b)
  by_cases h:a=b
  ·subst h;simp
  ·have h2:a.toNat≠b.toNat:=fun h3=>h (ybH h3)
   have h3:(a==b)=false:=by simpa using h
   rw [h3];simp;omega
 show ((_∧_)∧K (eqK _ _))=_
 rw [e]
 exact propext ⟨fun h=>h.2,fun h=>⟨⟨rfl,rfl⟩,h⟩⟩
theorem Rw {l1 l2:List By} {xs ys:List V} (hx:∀ i (h:i<l1.length),xs[i]?=some (uZ l1[i])) (hy:∀ i (h:i<l2.length),ys[i]?=some (uZ l2[i])):∀ {m a:Nat} {K:Bool→Prop},a+m≤l1.length→a+m≤l2.length →
  dU xs ys ((yae a m).map fun i=>(i,.int .u8)) K=K ((l1.drop a).take m==(l2.drop a).take m)
 | 0,a,K,_,_=>by simp [dU]
 | m+1,a,K,h1,h2=>by
  rw [yba,yal,dU,hx a (by omega),hy a (by omega),ahC,Rw hx hy (by omega) (by omega),ybq (show a<l1.length by omega),ybq (show a<l2.length by omega),ybB,ybB]
  rfl
theorem Ju {s:Sec} {r:List V} {i:Nat} (h:i<s.l.length):(s.enc++r)[i]?=some (uZ s.l[i]):=by
 rw [yaI (by rw [cB];rw [s.h] at h;exact h)]
 simp [Sec.enc,h]
theorem Vk {s t:Sec} {r q:List V} {K:Bool→Prop}:dU (s.enc++r) (t.enc++q) ((yae 0 64).map fun i=>(i,.int .u8)) K=K (decide (s=t)):=by
 rw [Rw (fun i h=>Ju h) (fun i h=>Ju h) (by rw [s.h];omega) (by rw [t.h];omega)]
 congr 1
 simp only [ybp]
 rw [yaf (by rw [s.h];omega),yaf (by rw [t.h];omega)]
 by_cases h:s=t
 ·subst h;simp
 ·have:s.l≠t.l:=fun h2=>h (by cases s;cases t;cases h2;rfl)
  rw [decide_eq_false h];simpa using this
theorem abV {s t:Sec} {K:Bool→Prop}:(cW (mP (.agg s.enc)) fun xs=>cW (mP (.agg t.enc)) fun ys=>dU xs ys ((yae 0 64).map fun i=>(i,.int .u8)) K)=K (decide (s=t)):=by
 have:=Vk (s:=s) (t:=t) (r:=[]) (q:=[]) (K:=K)
 simp only [yar] at this
 exact this
theorem ahD {c d:Cl} {K:Bool→Prop}:(cW (mP (.agg c.enc)) fun xs=>cW (mP (.agg d.enc)) fun ys=>dU xs ys ((yae 0 64).map (fun i=>(i,.int .u8))++[(64,.bool)]) K)=K (decide (c=d)):=by
 show dU c.enc d.enc _ K=_
 rw [Nj,Cl.enc,Cl.enc,Vk]
 have e1:(c.s.enc++[V.b c.bad])[64]?=some (.b c.bad):=Pn c
 have e2:(d.s.enc++[V.b d.bad])[64]?=some (.b d.bad):=Pn d
 simp only [dU,e1,e2]
 show ((_∧_)∧K (_&&((c.bad==d.bad)&&true)))=_
 have e3:(decide (c.s=d.s)&&((c.bad==d.bad)&&true))=decide (c=d):=by
  by_cases h:c=d
  ·subst h;simp
  ·rw [decide_eq_false h]
   by_cases h1:c.s=d.s
   ·by_cases h2:c.bad=d.bad
    ·exact absurd (by cases c;cases d;cases h1;cases h2;rfl) h
    ·simp [h2]
   ·simp [h1]
 rw [e3]
 exact propext ⟨fun h=>h.2,fun h=>⟨⟨rfl,rfl⟩,h⟩⟩
set_option maxRecDepth 20000
theorem Yz {D:Dk} {i:Int} (h:D.chk i=0):0≤i∧i<(D.cells.length:Int)∧D.dead=false:=by
 unfold Dk.chk at h
 split at h
 ·cases h
 ·rename_i hd
  split at h
  ·cases h
  ·rename_i h3
   have h4:¬i<0∧¬(D.cells.length:Int)≤i:=not_or.1 h3
   exact ⟨by omega,by omega,by simpa using hd⟩
theorem aaL {S:MS} {k:Nat}:S.step.D.op k=S.D.op k:=by unfold MS.step;split<;>rfl
theorem adH {a b c B:Blk} {T X:List Blk} {k:Nat} (hk:k<T.length):(a::b::c::(T++X)).set (3+k) B=a::b::c::(T.set k B++X):=by
 rw [show 3+k=k+3 by omega]
 show a::b::c::(T++X).set k B=_
 rw [List.set_append_left _ _ hk]
def Dk.stepD (D:Dk):Dk:=if D.after=0 then { D with dead:=true } else { D with steps:=D.steps+1,after:=if 0<D.after then D.after-1 else D.after }
theorem Jr {S:MS}:S.step.D=S.D.stepD:=by
 unfold MS.step Dk.stepD
 split<;>rfl
def Dk.addD (D:Dk) (k:Nat) (s:Sec):Dk:={ D with opn:=D.opn.set k (D.op k++[s]) }
theorem rP {D:Dk} {k j:Nat} {s:Sec} (hk:k<D.opn.length):(D.addD k s).op j=if j=k then D.op k++[s] else D.op j:=by
 show ((D.opn.set k _).getD j [])=_
 rw [yao,List.getElem?_set]
 by_cases h:j=k
 ·subst h;rw [if_pos rfl,if_pos rfl,if_pos hk];rfl
 ·rw [if_neg (fun e=>h e.symm),if_neg h,←yao];rfl
theorem aeE {D:Dk} {k:Nat} {s:Sec}:dkT (D.addD k s)=(dkT D).set k (.arr 64 ((D.op k).map Sec.enc++[s.enc])):=by
 show (D.opn.set k _).map tW=_
 rw [ybu]
 congr 1
 rw [tW,if_neg (by simp)];simp
theorem Ib {kd:TypeDesc} {key:Value} {f:V→V}:∀ {es:List (Value × V × Nat)} {j:Nat},dF kd key (es.map fun e=>(e.1,f e.2.1,e.2.2)) j=(dF kd key es j).map (·.map fun p=>(p.1,f p.2))
 | [],j=>rfl
 | e::es,j=>by
  simp only [yal,dF]
  cases Instr.sameNow kd key e.1 with
  | none=>rfl
  | some b=>cases b with
   | true=>rfl
   | false=>exact Ib
theorem Yk {D:Dk} {L:List (Nat × Nat)} {k m:Nat} {s:Sec} (hk:k<D.opn.length) (hn:(L.map (·.1)).Nodup) (hm:(L[m]?).map (·.1)=some k) :
  ((cD 0 D L).map fun e=>(e.1,kill [3+k] e.2.1,e.2.2)).modify m (fun e=>(.int .i64 k,.sl (3+k) 0 ((D.op k).length+1),e.2.2))=cD 0 (D.addD k s) L:=by
 have hml:m<L.length:=by
  rcases Nat.lt_or_ge m L.length with h|h
  ·exact h
  ·rw [ybK h] at hm;cases hm
 have hmk:L[m].1=k:=by
  rw [yak hml] at hm
  exact Option.some.inj hm
 apply List.ext_getElem
 ·simp [cD]
 ·intro j h1 h2
  have hj:j<L.length:=by simpa [cD] using h2
  rw [List.getElem_modify]
  by_cases hjm:m=j
  ·subst hjm
   rw [if_pos rfl]
   simp only [cD,yaC,hmk,rP hk,if_pos,yag,ych]
  ·rw [if_neg hjm]
   have hne:L[j].1≠k:=fun h=>hjm (by
    have:=(List.getElem_inj (xs:=L.map (·.1)) (i:=m) (j:=j) (h₀:=by simpa using hml) (h₁:=by simpa using hj) hn).1 (by simp [h,hmk])
    exact this)
   simp only [cD,yaC,rP hk,if_neg hne,kill,yaK]
   rw [if_neg (by simp;omega)]
theorem Yl {D:Dk} {L:List (Nat × Nat)} {k:Nat} {s:Sec} (hk:k<D.opn.length) (hm:k∉L.map (·.1)):cD 0 (D.addD k s) L=cD 0 D L:=by
 unfold cD
 refine ybb fun e he=>?_
 have hne:e.1≠k:=fun h=>hm (by rw [←h];exact ybr he)
 rw [rP hk,if_neg hne]
theorem MOk.old {D:Dk} {L:List (Nat × Nat)} {c k:Nat} {s:Sec} (h:MOk D L c) (hk:k<D.n) (ho:D.op k≠[]):MOk (D.addD k s) L c:=by
 have hk2:k<D.opn.length:=by rw [h.len];exact hk
 refine ⟨by show (D.opn.set k _).length=_;rw [ybM];exact h.len,h.nod,fun i=>?_,h.st,h.clk⟩
 rw [h.key i,rP hk2]
 show i<D.n∧_↔i<D.n∧_
 by_cases e:i=k
 ·subst e;rw [if_pos rfl];simp [ho]
 ·rw [if_neg e]
theorem MOk.new {D:Dk} {L:List (Nat × Nat)} {c k:Nat} {s:Sec} (h:MOk D L c) (hk:k<D.n) (ho:D.op k=[]):MOk (D.addD k s) (L++[(k,c)]) (c+1):=by
 have hk2:k<D.opn.length:=by rw [h.len];exact hk
 have hnm:k∉L.map (·.1):=fun hm=>((h.key k).1 hm).2 ho
 refine ⟨by show (D.opn.set k _).length=_;rw [ybM];exact h.len,?_,fun i=>?_,?_,fun e he=>?_⟩
 ·rw [yap,List.nodup_append]
  refine ⟨h.nod,by simp,fun a ha b hb=>?_⟩
  simp at hb;subst hb
  exact fun e=>hnm (e▸ha)
 ·rw [yap,ybv,h.key i,rP hk2]
  show _↔i<D.n∧_
  by_cases e:i=k
  ·subst e;rw [if_pos rfl];simp [hk]
  ·rw [if_neg e];simp [e]
 ·rw [yap,List.nodup_append]
  refine ⟨h.st,by simp,fun a ha b hb=>?_⟩
  simp at hb;subst hb
  obtain ⟨e,he,rfl⟩:=yaV.1 ha
  have:=h.clk e he
  omega
 ·rcases ybv.1 he with he|he
  ·have:=h.clk e he;omega
  ·simp at he;subst he;show c<c+1;omega
def Dk.wrE (D:Dk) (i:Int):Int:=if D.chk i≠0 then D.chk i else D.stepE
def Dk.wrD (D:Dk) (i:Int) (s:Sec):Dk:=if D.chk i≠0 then D else if D.stepE≠0 then D.stepD else D.stepD.addD i.toNat s
def vN (S:MS) (k:Nat) (s:Sec):List Blk:=dkV 0 S.D::dkC S.D::.map (cD 0 S.D S.L++[(.int .i64 k,.sl ((dkT S.D).length+5) 0 1,S.c)]) (S.c+1)::(dkT S.D++[.dead,.dead,.arr 64 [s.enc]])
theorem ahS {S:MS} {A B:List Blk} {k:Nat} (hk:k<S.n) (ho:S.D.op k≠[]) {a b c:Blk} {X:List Blk}:aC (a::b::c::(dkT S.D++X)) (0+3+k):=by
 unfold aC
 rw [show 0+3+k=3+k by omega,Rs (by rw [S.ok.len];exact hk) ho]
 trivial
theorem Rx {H:List Blk} {p:Nat} {D:Dk}:∀ {L:List (Nat × Nat)} {q:List (Value × V × Nat)},(∀ e∈L,aC H (p+3+e.1))→wfL H (q.map (·.2.1))→wfL H ((cD p D L++q).map (·.2.1))
 | [],q,_,hq=>hq
 | e::L,q,h,hq=>⟨h e yaP,Rx (fun x hx=>h x (yaQ _ hx)) hq⟩
theorem Wa {S:MS} {k:Nat} {s:Sec}:(vN S k s).length=3+S.n+3:=by
 have:S.D.n=S.n:=rfl
 simp [vN,xE,S.ok.len];omega
theorem aaW {S:MS} {k:Nat} {s:Sec}:wfB (vN S k s) (vN S k s):=by
 have h5:aC (vN S k s) ((dkT S.D).length+5):=by
  unfold aC vN
  rw [Kq];trivial
 refine ⟨⟨trivial,trivial,trivial,trivial,trivial,trivial⟩,Rx (fun e he=>?_) ⟨h5,trivial⟩,adC trivial⟩
 have h2:=(S.ok.key e.1).1 (ybr he)
 exact ahS (A:=[]) (B:=[]) h2.1 h2.2
theorem Rg {a b c:Blk}:∀ {T:List Blk},leH (T++[a,b,c]) (T++[.dead,.dead,c])
 | []=>⟨trivial,trivial,aS c,trivial⟩
 | x::T=>⟨aS x,Rg⟩
def Qv (S:MS) (i:Int) (s:Sec):V→List Blk→Prop:=fun r h=>QM S.n (fun r S'=>S'.D=S.D.wrD i s∧r=.i (S.D.wrE i)) r h∨(r=.i (S.D.wrE i)∧∃ (S1:MS) (k:Nat),k<S1.n∧S1.n=S.n∧S1.D.op k=[]∧S1.D.addD k s=S.D.wrD i s∧h=vN S1 k s)
theorem akW (S:MS) (i:Int) (s:Sec) (hs:S.D.steps≤1000000000000000) (ha:-1≤S.D.after∧S.D.after≤9223372036854775807) (hb:∀ k,(S.D.op k).length≤100000):OkN Tryz.prog 73 [.ptr 0 0 0,.i i,.agg s.enc] (S.bs 0) (yae 3 S.n) (Qv S i s):=by
 refine cO pol [0,1,2] lw73 (by simp) ⟨trivial,trivial,trivial,trivial⟩ (fun k hk hm=>?_) ?_
 ·rw [S.len] at hk
  have:¬(3≤k∧k<3+S.n):=fun h2=>hm (yaE.2 h2)
  have h3:k=0∨k=1∨k=2:=by omega
  rcases h3 with rfl|rfl|rfl<;>simp
 rw [S.len]
 show aw _ _ _ _ _ ⟨_,dkV 0 S.D::dkC S.D::.map (cD 0 S.D S.L) S.c::dkT S.D,0⟩
 unfold c73
 simp -implicitDefEqProofs only [rX,↓rY,aA,cells?,↓reduceIte,Nat.reduceEqDiff,Nat.reduceAdd,reduceCtorEq,aF,cxN,dQ,fH,dkV,dkC,aO]
 refine Az (B:=[.var s.enc]) (S:=S) (Wl S i) (fun _ _=>⟨⟨trivial,trivial⟩,rfl,trivial⟩) (by simp) (by simp) (by simp [aK,f8]) (by simp [aM,kill,yaE,S.T_len,f8];omega) ?_
 rintro r S' _ ⟨hS,rfl⟩
 subst S'
 refine ⟨fun g=>rfl,?_⟩
 simp -implicitDefEqProofs only [rX,↓rY,rdK,zW,aA,cells?,↓reduceIte,Nat.reduceEqDiff,reduceCtorEq,aF,bR,Nat.reduceLT,↓qbY,↓qcb,↓qcl,Qs,cB,fL,Ly,dQ,pD,pZ,dkV,dkC,mF]
 simp only [br,decide_eq_true_eq,decide_eq_false_iff_not,bne_iff_ne,bne_eq_false_iff_eq,beq_iff_eq,beq_eq_false_iff_ne]
 have finQ:∀ (S1:MS) (e:Env) (h:List Blk) (b:Nat) (q:Int),leH h (S1.bs 0)→get e 6=.i q→q=S.D.wrE i→S1.n=S.n→S1.D=S.D.wrD i s→dD [0,1,2] (3+S.n) [eK.tmp 6] (Qv S i s) ⟨e,h,b⟩:=by
  intro S1 e h b q hh h6 hq hn hD
  have:=vI (b:=b) (e:=e) (rs:=[eK.tmp 6]) (Q:=fun r S'=>S'.D=S.D.wrD i s∧r=.i (S.D.wrE i)) S1 hh hn (by
   simp only [aY,ybn,ybo,yaZ,a7,h6,hq]
   exact ⟨trivial,hD,trivial⟩)
  rw [cC] at this ⊢
  exact resP_mono _ _ (fun xs ⟨p,h1,h2⟩=>⟨p,h1,.inl h2⟩) this
 refine ⟨fun h=>?_,fun h=>?_⟩
 ·refine Az (B:=[.var s.enc]) (S:=S) (adP S hs ha) (fun _ _=>⟨trivial,trivial⟩) (by simp) (by simp) (by simp [aK,f8]) (by simp [aM,kill,yaE,S.T_len,f8];omega) ?_
  rintro r S1 hn1 ⟨hS1,rfl⟩
  have hT:(dkT S.D).length=(dkT S1.D).length:=by rw [S.T_len,S1.T_len,hn1]
  rw [hT]
  refine ⟨fun g=>rfl,?_⟩
  simp -implicitDefEqProofs only [rX,↓rY,rdK,zW,aA,cells?,↓reduceIte,Nat.reduceEqDiff,reduceCtorEq,aF,bR,Nat.reduceLT,↓qbY,↓qcb,↓qcl,Qs,cB,fL,Ly,dQ,pD,pZ,dkV,dkC,mF]
  simp only [br,decide_eq_true_eq,decide_eq_false_iff_not,bne_iff_ne,bne_eq_false_iff_eq,beq_iff_eq,beq_eq_false_iff_ne]
  refine ⟨fun h2=>?_,fun h2=>?_⟩
  ·obtain ⟨c1,c2,c3⟩:=Yz h
   obtain ⟨k,rfl⟩:∃ k:Nat,i=k:=⟨i.toNat,by omega⟩
   have hk:k<S1.n:=by rw [hn1];show k<S.D.cells.length;omega
   simp only [Rd S1 hk]
   have hT1:=S1.T_len
   have hw:S.D.wrD k s=S1.D.addD k s:=by
    rw [Dk.wrD,if_neg (by rw [h];simp),if_neg (by rw [h2];simp),yaj,hS1,Jr]
   have he:S.D.wrE k=S.D.stepE:=by rw [Dk.wrE,if_neg (by rw [h];simp)]
   have hmf:=vV (p:=0) (D:=S1.D) (k:=k) (L:=S1.L) (j:=0)
   by_cases ho:S1.D.op k=[]
   ·simp only [opV,if_pos ho]
    simp -implicitDefEqProofs only [rX,↓rY,zR,↓reduceIte,Nat.reduceEqDiff,Nat.reduceAdd,aF,↓qbq,↓qbt,↓qbY,↓qcl,Kq,Of]
    have finR:∀ (e:Env) (b:Nat),get e 6=.i S.D.stepE→dD [0,1,2] (3+S.n) [eK.tmp 6] (Qv S k s) ⟨e,dkV 0 S1.D::dkC S1.D::.map (cD 0 S1.D S1.L++[(.int .i64 k,.sl ((dkT S1.D).length+5) 0 1,S1.c)]) (S1.c+1)::(dkT S1.D++[Blk.var s.enc,Blk.arr 64 [s.enc],Blk.arr 64 [s.enc]]),b⟩:=by
     intro e b h6
     rw [cC]
     simp only [aY,ybn,ybo,yaZ,a7,h6]
     refine ⟨vN S1 k s,⟨?_,⟨trivial,trivial,trivial,trivial⟩,by rw [Wa,hn1];omega,trivial,aaW⟩,.inr ⟨by rw [he],S1,k,hk,hn1,ho,hw.symm,rfl⟩⟩
     refine ⟨aS _,aS _,aS _,?_⟩
     exact Rg
    rw [hmf.1 fun hm=>((S1.ok.key k).1 hm).2 ho]
    exact ⟨⟨by decide,finR _ _ rfl⟩,by decide,finR _ _ rfl⟩
   ·simp only [opV,if_neg ho]
    simp -implicitDefEqProofs only [rX,↓rY]
    obtain ⟨m,_,hm1,hm2,hm3⟩:=hmf.2 ((S1.ok.key k).2 ⟨hk,ho⟩)
    rw [Rs (by rw [S1.ok.len];exact hk) ho]
    have q3:((dkT S1.D).length+3=3+k)=False:=by rw [hT1];exact eq_false (by omega)
    have q4:((dkT S1.D).length+4=3+k)=False:=by rw [hT1];exact eq_false (by omega)
    have q3':(3+k=(dkT S1.D).length+3)=False:=by rw [hT1];exact eq_false (by omega)
    have q0:(0=3+k)=False:=eq_false (by omega)
    have q1:(1=3+k)=False:=eq_false (by omega)
    have q2:(2=3+k)=False:=eq_false (by omega)
    simp -implicitDefEqProofs only [rX,↓rY,zR,↓reduceIte,Nat.reduceEqDiff,aM,aK,kill,bD,St.kill,↓qbY,↓qcl,f8,Iq,q0,q1,q2,q3,q4,q3']
    have hkT:k<(dkT S1.D).length:=by rw [hT1];exact hk
    have ht:yah (S1.D.op k).length (yac Sec.enc (S1.D.op k))=yac Sec.enc (S1.D.op k):=yaf (by simp)
    have hmm:dF (.int .i64) (.int .i64 k) (yac (fun e=>(e.fst,kill [3+k] e.snd.fst,e.snd.snd)) (cD 0 S1.D S1.L)) 0=some (some (m,kill [3+k] (.sl (0+3+k) 0 (S1.D.op k).length))):=by
     rw [Ib (f:=kill [3+k]),hm3];rfl
    have hadd:=aeE (D:=S1.D) (k:=k) (s:=s)
    have hold:=Yk (D:=S1.D) (L:=S1.L) (k:=k) (m:=m) (s:=s) (by rw [S1.ok.len];exact hk) S1.ok.nod hm2
    simp -implicitDefEqProofs only [rX,↓rY,↓reduceIte,Nat.reduceAdd,kill,St.kill,↓qch,adH hkT,ht,hmm,←hadd,hold]
    have hbk:=hb k
    rw [←aaL,←hS1] at hbk
    have finO:∀ (e:Env) (b:Nat) (X:List Blk),get e 6=.i S.D.stepE→dD [0,1,2] (3+S.n) [eK.tmp 6] (Qv S k s) ⟨e,dkV 0 S1.D::dkC S1.D::.map (cD 0 (S1.D.addD k s) S1.L) S1.c::(dkT (S1.D.addD k s)++X),b⟩:=by
     intro e b X h6
     exact finQ ⟨S1.D.addD k s,S1.L,S1.c,S1.ok.old hk ho⟩ e _ b _ (dR (h:=(⟨S1.D.addD k s,S1.L,S1.c,S1.ok.old hk ho⟩:MS).bs 0) (X:=X)) h6 he.symm hn1 hw.symm
    exact ⟨⟨by omega,by omega,finO _ _ _ rfl⟩,by omega,by omega,finO _ _ _ rfl⟩
  ·refine finQ S1 _ _ _ _ (dR (h:=S1.bs 0) (X:=[.var s.enc])) rfl ?_ hn1 ?_
   ·rw [Dk.wrE,if_neg (by rw [h];simp)]
   ·rw [Dk.wrD,if_neg (by rw [h];simp),if_pos h2,hS1,Jr]
 ·refine ⟨fun h2=>absurd h2 h,fun _=>finQ S _ _ _ _ (dR (h:=S.bs 0) (X:=[.var s.enc])) rfl ?_ rfl ?_⟩
  ·rw [Dk.wrE,if_pos h]
  ·rw [Dk.wrD,if_pos h]
theorem Ww {D:Dk} {L:List (Nat × Nat)} {i j:Nat} {q:List (Value × V × Nat)} (h:∀ e∈L,0+3+e.1≠j):(cD 0 D L++q).map (fun e=>(e.1,mvV i j e.2.1,e.2.2))=cD 0 D L++q.map fun e=>(e.1,mvV i j e.2.1,e.2.2):=by
 rw [yap]
 congr 1
 unfold cD
 rw [yaO]
 refine ybb fun e he=>?_
 simp only [Function.comp,mvV,if_neg (h e he)]
theorem alV {D:Dk} {i j:Nat}:(dkT D).map (mvB i j)=dkT D:=by
 simp only [dkT,yaO]
 refine ybb fun l _=>?_
 simp only [Function.comp,tW]
 split<;>rfl
theorem agV {a b c:Blk} {D:Dk} {X:List Blk} {k:Nat} (hk:k<D.opn.length) (ho:D.op k=[]):(a::b::c::(dkT D++X))[3+k]?=some .dead:=by
 have e:D.op k=D.opn[k]:=by rw [Dk.op,yao,yak hk];rfl
 rw [show 3+k=k+3 by omega]
 show (dkT D++X)[k]?=_
 rw [yaI (by rw [xE];exact hk)]
 simp only [dkT,yaM,yak hk,ybO,tW]
 rw [if_pos (by rw [←e];exact ho)]
theorem aaV {S:MS} {k:Nat} {s:Sec} (hk:k<S.n) (ho:S.D.op k=[]) {r:V} (hr:∀ i j,mvV i j r=r) (hw:∀ h,wfV h r):leG [0,1,2] ⟨[(0,r)],vN S k s,0⟩ ⟨[(0,r)],(⟨S.D.addD k s,S.L++[(k,S.c)],S.c+1,S.ok.new hk ho⟩:MS).bs 0,0⟩:=by
 have hT:=S.T_len
 have hko:k<S.D.opn.length:=by rw [S.ok.len];exact hk
 refine ⟨_,.mv (3+k) ((dkT S.D).length+5) (.arr 64 [s.enc]) (by rw [hT];omega) (agV hko ho) ?_ (by simp) (.refl _),?_⟩
 ·show (vN S k s)[(dkT S.D).length+5]?=_
  unfold vN
  rw [Kq];rfl
 ·have e1:(vN S k s).map (mvB (3+k) ((dkT S.D).length+5))=dkV 0 S.D::dkC S.D::.map (cD 0 S.D S.L++[(.int .i64 k,.sl (3+k) 0 1,S.c)]) (S.c+1)::(dkT S.D++[.dead,.dead,.arr 64 [s.enc]]):=by
   have h1:∀ e∈S.L,0+3+e.1≠(dkT S.D).length+5:=fun e he=>by
    have:=((S.ok.key e.1).1 (ybr he)).1
    rw [hT];show _≠S.D.n+5;omega
   have n1:(1=(dkT S.D).length+5)=False:=eq_false (by omega)
   have n2:(2=(dkT S.D).length+5)=False:=eq_false (by omega)
   unfold vN
   rw [yal,yal,yal,yap,alV]
   simp only [mvB,Ww h1,dkV,dkC,mvL,mvV,n1,n2,if_false,if_true,yal,yaS]
  show leS [0,1,2] ⟨[(0,mvV _ _ r)],((((vN S k s).map (mvB (3+k) ((dkT S.D).length+5))).set (3+k) (.arr 64 [s.enc])).set ((dkT S.D).length+5) .dead),0⟩ _
  rw [e1,adH (by rw [hT];exact hk),hr]
  have e2:cD 0 (S.D.addD k s) (S.L++[(k,S.c)])=cD 0 S.D S.L++[(.int .i64 k,.sl (3+k) 0 1,S.c)]:=by
   have h2:k∉S.L.map (·.1):=fun hm=>((S.ok.key k).1 hm).2 ho
   have h3:cD 0 (S.D.addD k s) (S.L++[(k,S.c)])=cD 0 (S.D.addD k s) S.L++cD 0 (S.D.addD k s) [(k,S.c)]:=by simp [cD]
   rw [h3,Yl hko h2]
   simp [cD,rP hko,ho]
  have e3:dkT (S.D.addD k s)=(dkT S.D).set k (.arr 64 [s.enc]):=by rw [aeE,ho];rfl
  refine ⟨⟨by simp [get],trivial⟩,?_,⟨trivial,trivial,trivial,trivial⟩,⟨hw _,trivial⟩,?_⟩
  ·have e4:(⟨S.D.addD k s,S.L++[(k,S.c)],S.c+1,S.ok.new hk ho⟩:MS).bs 0=dkV 0 S.D::dkC S.D::.map (cD 0 S.D S.L++[(.int .i64 k,.sl (3+k) 0 1,S.c)]) (S.c+1)::(dkT S.D).set k (.arr 64 [s.enc]):=by
    show dkV 0 S.D::dkC S.D::.map (cD 0 (S.D.addD k s) (S.L++[(k,S.c)])) (S.c+1)::dkT (S.D.addD k s)=_
    rw [e2,e3]
   rw [e4]
   have hl:(dkT S.D).length=((dkT S.D).set k (Blk.arr 64 [s.enc])).length:=by simp
   rw [hl]
   show leH (List.set _ _ _) _
   rw [Of]
   exact dR (h:=dkV 0 S.D::dkC S.D::.map (cD 0 S.D S.L++[(.int .i64 k,.sl (3+k) 0 1,S.c)]) (S.c+1)::(dkT S.D).set k (.arr 64 [s.enc]))
  ·have:=(⟨S.D.addD k s,S.L++[(k,S.c)],S.c+1,S.ok.new hk ho⟩:MS).wf (p:=0) [] [] rfl (C:=[]) trivial
   simpa using this
theorem akX (S:MS) (i:Int) (s:Sec) (hs:S.D.steps≤1000000000000000) (ha:-1≤S.D.after∧S.D.after≤9223372036854775807) (hb:∀ k,(S.D.op k).length≤100000):OkD 73 [.ptr 0 0 0,.i i,.agg s.enc] S (fun r S'=>S'.D=S.D.wrD i s∧r=.i (S.D.wrE i)):=by
 have h:=akW S i s hs ha hb
 refine ⟨h.1,Jf [0,1,2] (fun k hk hm=>?_) (fun k hk=>?_) h.2 ?_⟩
 ·rw [S.len] at hk
  have:¬(3≤k∧k<3+S.n):=fun h2=>hm (yaE.2 h2)
  have h3:k=0∨k=1∨k=2:=by omega
  rcases h3 with rfl|rfl|rfl<;>simp
 ·rw [S.len,yaE]
  simp at hk;omega
 rintro r hs (⟨S',⟨hn,hq⟩,rfl⟩|⟨hr,S1,k,hk,hn,ho,hw,rfl⟩)
 ·refine ⟨⟨trivial,trivial,trivial,trivial⟩,r,_,⟨S',⟨hn,hq⟩,rfl⟩,by rw [S.len,S'.len,hn];exact yad _,_,.refl _,?_⟩
  rw [hq.2]
  refine ⟨⟨by simp [get],trivial⟩,aU _,⟨trivial,trivial,trivial,trivial⟩,⟨trivial,trivial⟩,?_⟩
  have:=S'.wf (p:=0) [] [] rfl (C:=[]) trivial
  simpa using this
 ·refine ⟨⟨trivial,trivial,trivial,trivial⟩,r,_,⟨⟨S1.D.addD k s,S1.L++[(k,S1.c)],S1.c+1,S1.ok.new hk ho⟩,⟨hn,hw,hr⟩,rfl⟩,?_,?_⟩
  ·rw [S.len,MS.len];show 3+S.n≤3+S1.n;omega
  ·rw [hr]
   exact aaV hk ho (fun _ _=>rfl) (fun _=>trivial)
end Go.Fx.K
