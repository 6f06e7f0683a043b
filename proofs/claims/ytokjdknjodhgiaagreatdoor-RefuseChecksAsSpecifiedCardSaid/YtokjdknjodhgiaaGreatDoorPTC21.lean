import Derived.Test.YtokjdknjodhgiaaGreatDoorFxRX
import Derived.Test.YtokjdknjodhgiaaGreatDoorELow
import Derived.Sort.Walk0
import Derived.Lib.AppendZerosOnto
import Derived.Lib.SliceRun
import Derived.Lib.Walk
set_option linter.unusedVariables false
set_option linter.unusedSimpArgs false
set_option linter.unusedSectionVars false
open Int renaming toNat_natCast → yaa, natCast_zero → yaq, reduceToNat → yaK, reduceLE → yaM, reduceLT → yaP, natCast_nonneg → yaR, fdiv_eq_ediv_of_nonneg → ybd, fdiv → ybm, tmod → yby, natCast_ediv → ybH, toNat_of_nonneg → ycd
open Nat renaming le_refl → yab, mul_one → yai, zero_le → yam, zero_add → yay, add_zero → yaU, min_eq_left → ybl, sub_self → ybt, shiftRight_eq_div_pow → ybG, le_trans → ybP
open List renaming take_of_length_le → yac, map → yad, take → yae, length_append → yaf, getElem_map → yag, getD_eq_getElem?_getD → yah, length_map → yaj, map_append → yak, getElem?_eq_getElem → yal, replicate → yao, append_nil → yap, range → yar, length_cons → yas, map_cons → yau, getElem?_cons_zero → yav, getElem_mem → yax, drop_of_length_le → yaz, map_nil → yaA, set_cons_zero → yaB, length_nil → yaC, length_take → yaE, all_cons → yaF, not_mem_nil → yaG, drop → yaH, cons_append → yaI, append_assoc → yaJ, all_nil → yaL, take_zero → yaN, drop_zero → yaO, take_append_of_le_length → yaS, nil_append → yaT, drop_nil → yaV, map_take → yaX, mem_cons_self → yaY, mem_cons_of_mem → yaZ, mem_map → yba, mem_cons → ybb, length_replicate → ybc, take_nil → ybf, getElem_of_mem → ybg, take_succ_eq_append_getElem → ybh, ext_getElem → ybi, map_drop → ybn, getElem?_map → ybo, drop_append_of_le_length → ybp, length_drop → ybq, map_map → ybr, set_append_right → ybs, replicate_succ → ybu, reverse_cons → ybw, reverse_nil → ybx, range_succ → ybz, length_range → ybA, flatten_append → ybB, mem_range → ybC, range_zero → ybD, map_set → ybI, drop_left → ybK, mem_append → ybL, getElem_take → ybM, take_append_getElem → ybN, length → ybQ, mem_of_getElem? → ybV, set_eq_take_append_cons_drop → ybY, getElem?_append_right → ybZ, take_length_add_append → yca, getElem?_append_left → ycb, take_append_drop → ycc
open BitVec renaming ofInt → yan, ofNat → yaW, ofNat_toNat → ybj, setWidth_eq → ybk, toNat_ofNat → ybE, toNat_ushiftRight → ybF, toNat_ofInt → ybO, ofInt_natCast → ybW, eq_of_toNat_eq → ybX
open Option renaming getD_some → yat, map_some → ybv, map_none → ybT, getD_none → ybU
open Bool renaming and_true → yaw, and_self → yaD, false_eq_true → yaQ, and_eq_true → ybe, not_true → ybR, not_false → ybS
open Array renaming replicate → ybJ
namespace Go.Fx.E
open Go Go.Fx
abbrev W:=BitVec 32
abbrev w (x:W):V:=.v (.int .u32 (x.toNat:Int))
abbrev u8 (b:UInt8):V:=.v (.int .u8 (b.toNat:Int))
abbrev n64 (n:Nat):V:=.v (.int .u64 (n:Int))
theorem ofI (x:W):yan 32 (x.toNat:Int)=x:=by
 rw [ybW,ybj,ybk]
theorem wrapN (n:Nat):IntKind.u32.wrap (n:Int)=((yaW 32 n).toNat:Int):=by
 rw [ybE]
 simp [IntKind.wrap,IntKind.bits,IntKind.signed]
theorem Pw (x:W):IntKind.u32.wrap (x.toNat:Int)=(x.toNat:Int):=by
 rw [wrapN,ybj,ybk]
section
variable {x y:W} {K:V→Prop}
theorem pH:cN .add false .u32 (x.toNat:Int) (y.toNat:Int) K=K (w (x+y)):=by
 show K (.v (.int .u32 (IntKind.u32.wrap (x.toNat+y.toNat))))=_
 rw [←Int.natCast_add,wrapN,BitVec.ofNat_add,ybj,ybj,ybk,ybk]
theorem fV:cN .xor false .u32 (x.toNat:Int) (y.toNat:Int) K=K (w (x ^^^ y)):=by
 show K (.v (.int .u32 (IntKind.u32.wrap ((yan 32 (x.toNat:Int) ^^^ yan 32 (y.toNat:Int)).toNat:Int))))=_
 rw [ofI,ofI,Pw]
theorem Fo:cN .and false .u32 (x.toNat:Int) (y.toNat:Int) K=K (w (x &&& y)):=by
 show K (.v (.int .u32 (IntKind.u32.wrap ((yan 32 (x.toNat:Int) &&& yan 32 (y.toNat:Int)).toNat:Int))))=_
 rw [ofI,ofI,Pw]
theorem Np:cN .or false .u32 (x.toNat:Int) (y.toNat:Int) K=K (w (x ||| y)):=by
 show K (.v (.int .u32 (IntKind.u32.wrap ((yan 32 (x.toNat:Int) ||| yan 32 (y.toNat:Int)).toNat:Int))))=_
 rw [ofI,ofI,Pw]
theorem Xv:x ^^^ (4294967295#32) = ~~~x:=by
 rw [show (4294967295#32)=BitVec.allOnes 32 from rfl,BitVec.xor_allOnes]
theorem Xe:cN .xor false .u32 (x.toNat:Int) 4294967295 K=K (w (~~~x)):=by
 have h:((4294967295:Int))=((4294967295#32).toNat:Int):=rfl
 rw [h,fV,Xv]
theorem abZ:cN .xor false .u32 (if IntKind.signed .u32 then -1 else IntKind.max .u32) (x.toNat:Int) K=K (w (~~~x)):=by
 have h:(if IntKind.signed .u32 then -1 else IntKind.max .u32:Int)=((4294967295#32).toNat:Int):=rfl
 rw [h,fV,BitVec.xor_comm,Xv]
theorem Fm {n:Nat} (hn:n≤32):bW .shl .u32 (x.toNat:Int) (n:Int) K=K (w (x <<< n)):=by
 have h:bW .shl .u32 (x.toNat:Int) (n:Int) K=(0≤(n:Int)∧K (.v (.int .u32 (IntKind.u32.wrap (x.toNat*2 ^ (min (n:Int).toNat 32)))))):=rfl
 rw [h,yaa,ybl hn]
 have e:((x.toNat:Int)*2 ^ n)=((x.toNat*2 ^ n:Nat):Int):=by simp
 rw [e,wrapN]
 have e2:yaW 32 (x.toNat*2 ^ n)=x <<< n:=by
  apply ybX
  rw [ybE,BitVec.toNat_shiftLeft,Nat.shiftLeft_eq]
 rw [e2]
 exact propext ⟨fun h=>h.2,fun h=>⟨yaR n,h⟩⟩
theorem pG {n:Nat} (hn:n≤32):bW .shr .u32 (x.toNat:Int) (n:Int) K=K (w (x >>> n)):=by
 have h:bW .shr .u32 (x.toNat:Int) (n:Int) K=(0≤(n:Int)∧K (.v (.int .u32 (ybm (x.toNat:Int) (2 ^ (min (n:Int).toNat 32)))))):=rfl
 rw [h,yaa,ybl hn]
 have e:ybm (x.toNat:Int) (2 ^ n)=((x >>> n).toNat:Int):=by
  have h2:(2:Int) ^ n=((2 ^ n:Nat):Int):=by simp
  rw [ybF,ybG,h2,ybd _ (yaR _),ybH]
 rw [e]
 exact propext ⟨fun h=>h.2,fun h=>⟨yaR n,h⟩⟩
end
def rr (x:W) (n:Nat):W:=(x >>> n) ||| (x <<< (32-n))
theorem adH:∀ n:Fin 32,n.val≠0→IntKind.u64.wrap (-(n.val:Int))=18446744073709551616-n.val:=by decide
theorem adG:∀ n:Fin 32,n.val≠0→(IntKind.u64.wrap ((yan 64 (18446744073709551616-(n.val:Int)) &&& yan 64 31).toNat:Int))=((32-n.val:Nat):Int):=by decide
structure S8 where
 a:W
 b:W
 c:W
 d:W
 e:W
 f:W
 g:W
 h:W
def S8.l (s:S8):List W:=[s.a,s.b,s.c,s.d,s.e,s.f,s.g,s.h]
def S8.enc (s:S8):List V:=[w s.a,w s.b,w s.c,w s.d,w s.e,w s.f,w s.g,w s.h]
def S8.add (s t:S8):S8:=⟨s.a+t.a,s.b+t.b,s.c+t.c,s.d+t.d,s.e+t.e,s.f+t.f,s.g+t.g,s.h+t.h⟩
def t1 (s:S8) (k x:W):W:=s.h+(rr s.e 6 ^^^ rr s.e 11 ^^^ rr s.e 25)+((s.e &&& s.f) ^^^ (~~~s.e &&& s.g))+k+x
def t2 (s:S8):W:=(rr s.a 2 ^^^ rr s.a 13 ^^^ rr s.a 22)+((s.a &&& s.b) ^^^ (s.a &&& s.c) ^^^ (s.b &&& s.c))
def S8.rnd (s:S8) (k x:W):S8:=⟨t1 s k x+t2 s,s.a,s.b,s.c,s.d+t1 s k x,s.e,s.f,s.g⟩
def kW (i:Nat):W:=yaW 32 (Kj.getD i 0)
def lL (ws:Nat→W) (s:S8):Nat→S8
 | 0=>s
 | i+1=>(lL ws s i).rnd (kW i) (ws i)
def B32 (b:UInt8):W:=b.toBitVec.setWidth 32
theorem Zm (b:UInt8):(B32 b).toNat=b.toNat:=by
 unfold B32
 rw [BitVec.toNat_setWidth]
 have:b.toBitVec.toNat=b.toNat:=rfl
 rw [this]
 have:=b.toNat_lt
 omega
theorem Uh {x:W} {b:UInt8} {K:V→Prop}:cN .or false .u32 (x.toNat:Int) (b.toNat:Int) K=K (w (x ||| B32 b)):=by
 rw [show (b.toNat:Int)=((B32 b).toNat:Int) by rw [Zm],Np]
theorem Fl {b:UInt8} {n:Nat} {K:V→Prop} (hn:n≤32):bW .shl .u32 (b.toNat:Int) (n:Int) K=K (w (B32 b <<< n)):=by
 rw [show (b.toNat:Int)=((B32 b).toNat:Int) by rw [Zm],Fm hn]
def word (b0 b1 b2 b3:UInt8):W:=(B32 b0 <<< 24) ||| (B32 b1 <<< 16) ||| (B32 b2 <<< 8) ||| B32 b3
theorem Vj (b0 b1 b2 b3:UInt8):(((((0#32 <<< 8 ||| B32 b0) <<< 8) ||| B32 b1) <<< 8 ||| B32 b2) <<< 8 ||| B32 b3)=word b0 b1 b2 b3:=by
 unfold word
 have h:(0#32 <<< 8 ||| B32 b0)=B32 b0:=by simp
 rw [h]
 simp only [BitVec.shiftLeft_or_distrib,←BitVec.shiftLeft_add]
def wn (l:List W) (i:Nat):W:=l.getD i 0
def next (ws:List W):W :=
 let i:=ws.length
 let x:=wn ws (i-15)
 let y:=wn ws (i-2)
 wn ws (i-16)+(rr x 7 ^^^ rr x 18 ^^^ (x >>> 3))+wn ws (i-7)+(rr y 17 ^^^ rr y 19 ^^^ (y >>> 10))
def bn (bs:List UInt8) (i:Nat):UInt8:=bs.getD i 0
def tZ (bs:List UInt8) (i:Nat):W:=word (bn bs (4*i)) (bn bs (4*i+1)) (bn bs (4*i+2)) (bn bs (4*i+3))
def wds (bs:List UInt8):Nat→List W
 | 0=>[]
 | i+1=>wds bs i++[if i<16 then tZ bs i else next (wds bs i)]
theorem fF (bs:List UInt8):∀ i,(wds bs i).length=i
 | 0=>rfl
 | i+1=>by simp [wds,fF bs i]
def eF (bs:List UInt8) (i:Nat):List W:=wds bs i++yao (64-i) 0
def comp (s:S8) (bs:List UInt8):S8:=s.add (lL (fun i=>wn (wds bs 64) i) s 64)
def iv:S8:=⟨1779033703,3144134277,1013904242,2773480762,1359893119,2600822924,528734635,1541459225⟩
def ws (l:List W):List V:=l.map w
theorem oQ {l:List W}:(ws l).length=l.length:=by simp [ws]
theorem Vh {l:List W}:(ws l).all isC=true:=by simp [ws,isC,isD]
theorem dE {l:List W} {q:List Blk}:wfL q (ws l):=by
 unfold ws
 induction l with
 | nil=>trivial
 | cons x r ih=>exact ⟨trivial,ih⟩
theorem Vf {l:List W} {n:Nat}:(ws l).take n=ws (l.take n):=by simp [ws,yaX]
theorem Vg {l:List W} {n:Nat}:(ws l).drop n=ws (l.drop n):=by simp [ws,ybn]
theorem Pu {l:List W} {f:Nat→Option Nat}:cO f (ws l)=ws l:=by
 unfold ws
 induction l with
 | nil=>rfl
 | cons x r ih=>exact congrArg (w x::·) ih
theorem Zy {l:List W} {i:Nat} {x:W} (hi:i<l.length):(ws l).take i++w x::(ws l).drop (i+1)=ws (l.set i x):=by
 unfold ws
 rw [ybI,ybY,if_pos (by simpa using hi)]
theorem Dp {l:List W} {i:Nat} {x:W} (hi:i<l.length):(ws l).take i++[w x]++(ws l).drop (i+1)=ws (l.set i x):=by
 rw [←Zy hi]
 simp
theorem pA {l:List W} {i:Nat} (hi:i<l.length):(ws l)[i]?=some (w (wn l i)):=by
 unfold ws wn
 rw [ybo,yal hi,yah,yal hi]
 rfl
def z64:List W:=yao 64 0
theorem lM:z64.length=64:=rfl
theorem w0:yad V.v (ybJ 64 (Value.int IntKind.u32 0)).toList=ws z64:=rfl
theorem Vi {l:List W} (h:l.length=64):(ws l).take 64=ws l:=by rw [Vf,yac (by omega)]
theorem Lk {l:List W} (h:l.length=64):(ws l).drop 64=[]:=by rw [Vg,yaz (by omega)];rfl
attribute [irreducible] ws z64
def by1 (b:UInt8):List V:=[u8 b]
theorem Zj {b:UInt8}:(by1 b)[0]?=some (u8 b):=rfl
end Go.Fx.E
namespace Go.Fx.E
open Go Go.Fx
abbrev Bs:=List UInt8
def blocks (s:S8) (m:Bs):Nat→S8
 | 0=>s
 | k+1=>comp (blocks s m k) ((m.drop (64*k)).take 64)
theorem sB {s:S8} {m c:Bs}:∀ {k:Nat},64*k≤m.length→blocks s (m++c) k=blocks s m k
 | 0,_=>rfl
 | k+1,h=>by
  rw [blocks,blocks,sB (by omega),ybp (by omega),yaS (by simp;omega)]
structure Stm where
 st:S8
 blk:Bs
 n:Nat
structure Rp (S:Stm) (m:Bs):Prop where
 n:S.n=m.length
 len:S.blk.length=64
 st:S.st=blocks iv m (m.length/64)
 blk:S.blk.take (m.length%64)=m.drop (64*(m.length/64))
def mN (blk c:Bs) (j:Nat):Bs:=blk.take j++c++blk.drop (j+c.length)
theorem Gx {blk c:Bs} {j:Nat} (h:j+c.length≤blk.length):(mN blk c j).length=blk.length:=by
 unfold mN;simp;omega
theorem Rp.step {S:Stm} {m c:Bs} (h:Rp S m) (hc:S.n%64+c.length≤64) :
  Rp ⟨if S.n%64+c.length=64 then comp S.st (mN S.blk c (S.n%64)) else S.st,mN S.blk c (S.n%64),S.n+c.length⟩ (m++c):=by
 have hn:=h.n
 have hl:=h.len
 have hb:=h.blk
 have hdl:(m.drop (64*(m.length/64))).length=m.length%64:=by rw [ybq];omega
 rw [hn] at hc ⊢
 have hpl:(mN S.blk c (m.length%64)).length=64:=by rw [Gx (by omega),hl]
 have htk:(mN S.blk c (m.length%64)).take (m.length%64+c.length)=m.drop (64*(m.length/64))++c:=by
  unfold mN
  rw [hb,yaS (by rw [yaf,hdl];exact yab _),yac (by rw [yaf,hdl];exact yab _)]
 by_cases h64:m.length%64+c.length=64
 ·have e1:(m++c).length/64=m.length/64+1:=by rw [yaf];omega
  have e2:(m++c).length%64=0:=by rw [yaf];omega
  refine ⟨by simp,hpl,?_,?_⟩
  ·simp only [if_pos h64]
   rw [e1,blocks,sB (by omega),h.st]
   congr 1
   rw [ybp (by omega),←htk,h64,List.take_take,Nat.min_self,yac (by omega)]
  ·rw [e2,e1]
   simp only [yaN]
   rw [yaz (by rw [yaf];omega)]
 ·have e1:(m++c).length/64=m.length/64:=by rw [yaf];omega
  have e2:(m++c).length%64=m.length%64+c.length:=by rw [yaf];omega
  refine ⟨by simp,hpl,?_,?_⟩
  ·simp only [if_neg h64]
   rw [e1,sB (by omega),h.st]
  ·rw [e1,e2]
   show (mN S.blk c (m.length%64)).take _=_
   rw [htk,ybp (by omega)]
def len8 (n:Nat):Bs:=(yar 8).map fun i=>UInt8.ofNat (8*n/2 ^ (56-8*i))
def zeros (n:Nat):Nat:=(119-n%64)%64
def pad (n:Nat):Bs:=128::(yao (zeros n) 0++len8 n)
theorem xT (n:Nat):(n+1+zeros n)%64=56:=by unfold zeros;omega
def acU (m:Bs):S8:=blocks iv (m++pad m.length) ((m++pad m.length).length/64)
def rP (s:S8) (i:Nat):UInt8:=UInt8.ofNat ((wn s.l (i/4)).toNat/2 ^ (24-8*(i%4)))
def sha (m:Bs):Bs:=(yar 32).map (rP (acU m))
def sC (st:S8) (blk:Bs) (n:Nat):List V:=st.enc++(blk.map u8++[n64 n])
section
variable {s:S8} {b:Bs} {n:Nat}
theorem eT (h:b.length=64):(sC s b n).length=73:=by simp [sC,S8.enc,h]
theorem uA (h:b.length=64):(b.map u8).length=64:=by simpa using h
theorem Vv (h:b.length=64):(sC s b n)[72]?=some (n64 n):=by
 unfold sC
 rw [ybZ (by simp [S8.enc]),ybZ (by simp [S8.enc,h])]
 simp [S8.enc,h]
theorem acX:(sC s b n).take 8=s.enc:=by
 unfold sC
 rw [yaS (by simp [S8.enc]),yac (by simp [S8.enc])]
theorem aaH {m:Nat} (h:b.length=64):(sC s b n).take 72++[n64 m]++(sC s b n).drop 73=sC s b m:=by
 rw [yaz (by rw [eT h];exact yab _),yap]
 unfold sC
 rw [show (72:Nat)=s.enc.length+64 from rfl,yca,yaS (by rw [uA h];exact yab _),yac (by rw [uA h];exact yab _),yaJ]
theorem aaG {t:S8}:t.enc++(sC s b n).drop 8=sC t b n:=by
 unfold sC
 rw [show (8:Nat)=s.enc.length from rfl,ybK]
theorem Vw {c:Bs} {j:Nat} (h:b.length=64) (hj:j+c.length≤64):(sC s b n).take (8+j)++c.map u8++(sC s b n).drop (8+j+c.length)=sC s (mN b c j) n:=by
 unfold sC mN
 have e8:(8:Nat)=s.enc.length:=rfl
 rw [show 8+j=s.enc.length+j from rfl,yca,Nat.add_assoc,List.drop_length_add_append]
 rw [yaS (by simp;omega),ybp (by simp;omega)]
 simp [yaX,ybn,yaJ]
theorem Vu (h:b.length=64):(((sC s b n).drop 8).take 64).map (fun c=>[c])=b.map by1:=by
 unfold sC
 rw [show (8:Nat)=s.enc.length from rfl,ybK,yaS (by rw [uA h];exact yab _),yac (by rw [uA h];exact yab _),ybr]
 rfl
theorem Qr (h:b.length=64):(((sC s b n).drop 8).take 64).all isD=true:=by
 unfold sC
 rw [show (8:Nat)=s.enc.length from rfl,ybK,yaS (by rw [uA h];exact yab _),yac (by rw [uA h];exact yab _)]
 simp [isD]
theorem Vx:(sC s b n).all isC=true:=by simp [sC,S8.enc,isC,isD]
theorem lF {q:List Blk}:wfL q (sC s b n):=by
 have:∀ l:List V,l.all isD=true→wfL q l:=by
  intro l
  induction l with
  | nil=>intro _;trivial
  | cons x r ih =>
   intro h
   simp only [yaF,ybe] at h
   refine ⟨?_,ih h.2⟩
   cases x<;>simp [isD] at h<;>trivial
 exact this _ (by simp [sC,S8.enc,isD])
theorem lS (h:b.length=64):(sC s b n).take 73=sC s b n:=yac (by rw [eT h];exact yab _)
theorem yJ (h:b.length=64):(sC s b n).drop 73=[]:=yaz (by rw [eT h];exact yab _)
theorem xE {f:Nat→Option Nat}:cO f (sC s b n)=sC s b n:=by
 have:∀ l:List V,l.all isD=true→(∀ x∈l,∃ u,x=.v u)→cO f l=l:=by
  intro l
  induction l with
  | nil=>intro _ _;rfl
  | cons x r ih =>
   intro h hx
   obtain ⟨u,rfl⟩:=hx x yaY
   simp only [yaF,ybe] at h
   show V.v u::cO f r=_
   rw [ih h.2 fun y hy=>hx y (yaZ _ hy)]
 refine this _ (by simp [sC,S8.enc,isD]) ?_
 intro x hx
 simp only [sC,S8.enc,ybL,yba,ybb,yaG,or_false] at hx
 rcases hx with (rfl|rfl|rfl|rfl|rfl|rfl|rfl|rfl)|⟨u,_,rfl⟩|rfl<;>exact ⟨_,rfl⟩
end
attribute [irreducible] sC
open Go Go.Fx Go.Proofs
abbrev Ok (f:FuncId) (xs:List V) (R:V→List Blk→Prop):Prop:=OkN Tryz.prog f xs [] [] R
theorem ok_of {f:FuncId} {l0 l:LCode} {rs:List hJ} {nt:Nat} (hl:rlF Tryz.prog f l0=some (l,rs,nt)) {args:List V} {R:V→List Blk→Prop} (hlen:args.length≤nt)
  (h:aw (cxN Tryz.prog []) l (eU [] 0 rs R) (fun _ _=>False) (eU [] 0 rs R) ⟨aN 0 args,[],0⟩):Ok f args R :=
 eV pol [] hl hlen trivial (fun k hk=>by simp at hk) h
theorem amL {a c:Int} {K:V→Prop} {x:Bool}:cN .and x .u64 a c K=K (.v (.int .u64 (IntKind.u64.wrap ((yan 64 a &&& yan 64 c).toNat:Int)))):=rfl
theorem aiG:Ea 0 64=some nT:=by kernel_rfl
theorem aiF:Ea 1 64=some nT:=by kernel_rfl
def sb (l:Bs):ByteArray:=⟨l.toArray⟩
abbrev sv (l:Bs):V:=.v (.string (sb l))
theorem fG {l:Bs}:(sb l).size=l.length:=rfl
theorem Mc {l:Bs}:(sb l).toList=l:=(ByteArray.toList_eq _).trans rfl
theorem acW {b:ByteArray}:∃ l,b=sb l:=⟨b.data.toList,by cases b;simp [sb]⟩
theorem afW:Value.string ⟨#[]⟩=.string (sb []):=rfl
theorem Jj {l:Bs} {a b:Nat}:(sb l).extract a b=sb ((l.take b).drop a):=by
 apply ByteArray.ext
 show ((sb l).extract a b).data=_
 rw [ByteArray.data_extract]
 apply Array.ext'
 simp [sb,Array.toList_extract,List.extract,List.drop_take]
theorem aM {P:Program} {fx:List Nat}:(cxN P fx).bn=[]:=rfl
theorem aG {P:Program} {fx:List Nat}:(cxN P fx).fx=fx:=rfl
theorem Yy {h:List Blk}:aE [] h=True:=rfl
theorem tQ {cx:Cx} {f:FuncId} {args:List V} {e:Env} {h:List Blk} {b:Nat} {K:V→St→Prop} {G:Type} (Q:G→Prop) (xs:List V) (x:G→V) (hC:cx.C f xs [] [] (IsQ Q x (fun _=>[])))
  (h1:aF h (fun _=>none) args∧wkL xs (aU h (fun _=>none) args)) (hx:∀ g,ren (fun j=>some (h.length+j)) (x g)=x g) (keep:aE cx.fx h) (h3:∀ g,Q g→K (x g) ⟨e,h,b⟩):l6 cx f args ⟨e,h,b⟩ K:=by
 refine r9 xs _ h1 hC ?_
 rintro r h' ⟨g,hg,rfl,rfl⟩
 simp only [yaA,yap]
 exact ⟨keep,by rw [hx];exact h3 g hg⟩
theorem bN {fx:List Nat} {f:(St→Prop)→St→Prop} {s:St} {G:Type} (pat:G→St) (I:G→Prop) (μ:G→Nat) (g:G) (h0:I g) (h1:leS fx s (pat g))
  (h:∀ g,I g→∀ N:St→Prop,(∀ s' g',I g'→μ g'<μ g→leS fx s' (pat g')→N s')→f N (pat g)):Ai fx f s :=
 bA pat I μ g h0 h1 fun g hg=>h g hg _ fun s' g' a b c=>⟨g',⟨a,b⟩,c⟩
theorem adF:∀ n:Fin 32,n.val≠0→IntKind.u64.wrap (32-((32-n.val:Nat):Int))=(n.val:Int):=by decide
theorem Ad (x:W) (n:Nat) (h:1≤n∧n≤31):Ok 156 [w x,.i (-(n:Int))] (Is (w (rr x n))):=by
 have ra:=adH ⟨n,by omega⟩ (by simp;omega)
 have rb:=adG ⟨n,by omega⟩ (by simp;omega)
 have rc:=adF ⟨n,by omega⟩ (by simp;omega)
 simp only at ra rb rc
 refine ok_of lw156 (by simp) ?_
 unfold c156
 have s1:∀ {K:V→Prop},bW .shl .u32 (x.toNat:Int) ((32-n:Nat):Int) K=K (w (x <<< (32-n))):=Fm (by omega)
 have s2:∀ {K:V→Prop},bW .shr .u32 (x.toNat:Int) (n:Int) K=K (w (x >>> n)):=pG (by omega)
 simp -implicitDefEqProofs only [rX,↓rY,aA,↓reduceIte,Nat.reduceEqDiff,reduceCtorEq,aQ,aT,wfV,aN,↓amL,ra,rb,rc,↓s1,↓s2,↓Np]
 unfold rr
 rw [BitVec.or_comm]
theorem pY (x:W) (n:Nat) (h:1≤n∧n≤31):Ok 152 [w x,.i n] (Is (w (rr x n))):=by
 refine ok_of lw152 (by simp) ?_
 unfold c152
 have s1:∀ {K:V→Prop},bW .shl .u32 (x.toNat:Int) ((32-n:Nat):Int) K=K (w (x <<< (32-n))):=Fm (by omega)
 have s2:∀ {K:V→Prop},bW .shr .u32 (x.toNat:Int) (n:Int) K=K (w (x >>> n)):=pG (by omega)
 have e:(32-(n:Int))=((32-n:Nat):Int):=by omega
 simp -implicitDefEqProofs only [rX,↓rY,aA,↓reduceIte,Nat.reduceEqDiff,reduceCtorEq,aQ,aT,wfV,aN,e,↓s1,↓s2,↓Np]
 exact ⟨by simp only [lo,Fx.hi];omega,rfl⟩
theorem El {a:Nat} (h:a≤31):IntKind.i64.wrap (-(a:Int))=-(a:Int):=by
 have:=(show ∀ n:Fin 32,IntKind.i64.wrap (-(n.val:Int))=-(n.val:Int) by decide) ⟨a,by omega⟩
 simpa using this
theorem Yk (x:W) (a b c:Nat) (ha:1≤a∧a≤31) (hb:1≤b∧b≤31) (hc:1≤c∧c≤31):Ok 149 [w x,.i a,.i b,.i c] (Is (w (rr x a ^^^ rr x b ^^^ rr x c))):=by
 refine ok_of lw149 (by simp) ?_
 unfold c149
 simp -implicitDefEqProofs only [rX,aA,↓reduceIte,Nat.reduceEqDiff,Nat.reduceAdd,reduceCtorEq,aN,El ha.2,El hb.2,El hc.2]
 refine aD (Ad x a ha) (by simp [aF,aK,aU,bG,wkL,wk,wkR]) rfl trivial ?_
 simp -implicitDefEqProofs only [rX,↓reduceIte,Nat.reduceEqDiff,reduceCtorEq,El hb.2,El hc.2]
 refine aD (Ad x b hb) (by simp [aF,aK,aU,bG,wkL,wk,wkR]) rfl trivial ?_
 simp -implicitDefEqProofs only [rX,↓reduceIte,Nat.reduceEqDiff,reduceCtorEq,El hb.2,El hc.2,↓fV]
 refine aD (Ad x c hc) (by simp [aF,aK,aU,bG,wkL,wk,wkR]) rfl trivial ?_
 simp -implicitDefEqProofs only [rX,↓reduceIte,Nat.reduceEqDiff,aQ,aT,wfV,El hb.2,El hc.2,↓fV]
set_option maxRecDepth 20000
theorem oR (bs:List UInt8) {i:Nat} (hi:i≤64):(eF bs i).length=64:=by
 unfold eF
 rw [yaf,fF,ybc]
 omega
theorem Qe (bs:List UInt8):eF bs 0=z64:=by unfold eF z64;rfl
theorem Lv (bs:List UInt8):eF bs 64=wds bs 64:=by simp [eF]
theorem yC (bs:List UInt8) {i:Nat} (hi:i<64) (x:W) (hx:x=if i<16 then tZ bs i else next (wds bs i)):(eF bs i).set i x=eF bs (i+1):=by
 unfold eF
 rw [ybs _ _ (by rw [fF];exact yab _),fF,ybt,show 64-i=(64-(i+1))+1 by omega,ybu,yaB]
 subst hx
 simp [wds]
theorem iE (bs:List UInt8) {i j:Nat} (hi:i≤64) (hj:j<i):wn (eF bs i) j=wn (wds bs i) j:=by
 unfold eF wn
 rw [yah,yah,ycb (by rw [fF];exact hj)]
def part (bs:List UInt8) (i:Nat):Nat→W
 | 0=>0
 | j+1=>part bs i j <<< 8 ||| B32 (bn bs (4*i+j))
theorem aaN (bs:List UInt8) (i:Nat):part bs i 4=tZ bs i:=by
 unfold tZ
 rw [←Vj]
 rfl
def nH (bs:List UInt8) (i j:Nat):List W:=(eF bs i).set i (part bs i j)
theorem aaD (bs:List UInt8) {i:Nat} (hi:i<64):nH bs i 0=eF bs i:=by
 unfold nH eF
 rw [ybs _ _ (by rw [fF];exact yab _),fF,ybt,show 64-i=(64-(i+1))+1 by omega,ybu,yaB]
 rfl
theorem Qg (bs:List UInt8) {i j:Nat} (hi:i≤64):(nH bs i j).length=64:=by
 unfold nH
 rw [List.length_set,oR bs hi]
theorem Qh (bs:List UInt8) {i j:Nat} (hi:i<64):wn (nH bs i j) i=part bs i j:=by
 unfold nH wn
 rw [yah,List.getElem?_set_self (by rw [oR bs (by omega)];exact hi)]
 rfl
theorem Qf (bs:List UInt8) {i j:Nat} (x:W) (hx:x=part bs i (j+1)):(nH bs i j).set i x=nH bs i (j+1):=by
 unfold nH
 rw [List.set_set,hx]
abbrev byV (bs:List UInt8):V:=.bro 1 (bs.map by1)
set_option maxHeartbeats 1000000 in
theorem aeQ (bs:List UInt8) (hb:bs.length=64):Ok 148 [byV bs] (Is (.agg (ws (wds bs 64)))):=by
 refine ok_of lw148 (by simp) ?_
 unfold c148
 simp -implicitDefEqProofs only [rX,↓rY,aA,cells?,Nat.reduceAdd,aC,aG,aN,w0]
 have lW:(wds bs 64).length=64:=fF bs 64
 refine bN (fun i:Nat=>(⟨[(11,.i i),(3,.ptr 1 0 0),(2,.ptr 0 0 0),(0,byV bs)],[.var (ws z64),.var (ws (eF bs i))],2⟩:St)) (fun i=>i≤64) (fun i=>64-i) 0 (yam _) ?_ ?_
 ·rw [Qe]
  exact ⟨by simp -implicitDefEqProofs only [rX,↓reduceIte,Nat.reduceEqDiff,reduceCtorEq,leE];rfl,aV _,trivial,by simp -implicitDefEqProofs only [rX,aB,wfE,wfV],⟨dE,dE,trivial⟩⟩
 intro i hi N hN
 simp only [c148l0]
 simp -implicitDefEqProofs only [rX,↓rY,aA,cells?,splice,↓reduceIte,Nat.reduceEqDiff,Nat.reduceAdd,reduceCtorEq,dR,aQ,aT,wfV,aM,aG,yai]
 cases h1:decide ((i:Int)<64) with
 | false =>
  have h1':=of_decide_eq_false h1
  have:i=64:=by omega
  subst this
  simp -implicitDefEqProofs only [rX,↓rY,Lv,oQ,Vi lW,lW,lM,Lk lM,Vh,dE]
 | true =>
  have h1':=of_decide_eq_true h1
  have hi64:i<64:=by omega
  have lT:(eF bs i).length=64:=oR bs hi
  have fin:∀ (x:W) (e:Env),x=(if i<16 then tZ bs i else next (wds bs i))→get e 3=.ptr 1 0 0→get e 2=.ptr 0 0 0→get e 0=byV bs →
    N (⟨(11,.i ((i:Int)+1))::e,[.var (ws z64),.var (ws ((eF bs i).set i x))],2⟩:St):=by
   intro x e hx e3 e2 e0
   refine hN _ (i+1) (by omega) (by omega) ?_
   rw [yC bs hi64 x hx]
   exact ⟨by simp -implicitDefEqProofs only [rX,↓reduceIte,Nat.reduceEqDiff,reduceCtorEq,leE,e3,e2,e0];simp,aV _,trivial,by simp -implicitDefEqProofs only [rX,aB,wfE,wfV],⟨dE,dE,trivial⟩⟩
  have sp:∀ x:W,yae i (ws (eF bs i))++[w x]++yaH (i+1) (ws (eF bs i))=ws ((eF bs i).set i x):=fun x=>Dp (by omega)
  simp -implicitDefEqProofs only [↓rY]
  cases h2:decide ((i:Int)<16) with
  | true =>
   have h2':=of_decide_eq_true h2
   have h4:yae ((4*(i:Int)+4).toNat-(4*(i:Int)).toNat) (yaH (4*(i:Int)).toNat (yad by1 bs))=((bs.drop (4*i)).take 4).map by1:=by
    rw [show (4*(i:Int)+4).toNat-(4*(i:Int)).toNat=4 by omega,show (4*(i:Int)).toNat=4*i by omega,yaX,ybn]
   have l4:((bs.drop (4*i)).take 4).length=4:=by simp;omega
   have a1:(lo IntKind.i64≤4*(i:Int)∧4*(i:Int)≤Fx.hi IntKind.i64):=by simp only [lo,Fx.hi];omega
   have a2:(lo IntKind.i64≤4*(i:Int)+4∧4*(i:Int)+4≤Fx.hi IntKind.i64):=by simp only [lo,Fx.hi];omega
   have a3:((0≤4*(i:Int)∧4*(i:Int)≤4*(i:Int)+4)∧4*(i:Int)+4≤(bs.length:Int)∧(bs.length:Int)≤(bs.length:Int)):=by omega
   simp -implicitDefEqProofs only [rX,↓rY,h4,l4,eq_true a1,eq_true a2,eq_true a3]
   intro _
   refine bN (fun j:Nat=>(⟨[(24,.i j),(23,.i 4),(22,.bro 1 (((bs.drop (4*i)).take 4).map by1)),(4,.i i),(11,.i i),(3,.ptr 1 0 0),(2,.ptr 0 0 0),(0,byV bs)],[.var (ws z64),.var (ws (nH bs i j))],2⟩:St)) (fun j=>j≤4) (fun j=>4-j) 0 (yam _) ?_ ?_
   ·rw [aaD bs hi64]
    exact ⟨by simp -implicitDefEqProofs only [rX,↓reduceIte,Nat.reduceEqDiff,reduceCtorEq,leE];exact ⟨rfl,rfl⟩,aV _,trivial,by simp -implicitDefEqProofs only [rX,aB,wfE,wfV],⟨dE,dE,trivial⟩⟩
   intro j hj M hM
   have lP:(nH bs i j).length=64:=Qg bs hi
   simp only [c148l1]
   simp -implicitDefEqProofs only [rX,↓rY,aA,cells?,splice,↓reduceIte,Nat.reduceEqDiff,Nat.reduceAdd,yag,yaa,aM,Zj,yai]
   cases h3:decide ((j:Int)<4) with
   | false =>
    have h3':=of_decide_eq_false h3
    have:j=4:=by omega
    subst this
    have hq:nH bs i 4=(eF bs i).set i (tZ bs i):=by unfold nH;rw [aaN]
    simp -implicitDefEqProofs only [↓rY,hq]
    exact ⟨by simp only [lo,Fx.hi];omega,fin _ _ (by rw [if_pos (by omega)]) rfl rfl rfl⟩
   | true =>
    have h3':=of_decide_eq_true h3
    have hj4:j<4:=by omega
    have hg:((bs.drop (4*i)).take 4)[j]'(by omega)=bn bs (4*i+j):=by
     unfold bn
     rw [ybM,List.getElem_drop,yah,yal (by omega)]
     rfl
    have s8:∀ {x:W} {K:V→Prop},bW .shl .u32 (x.toNat:Int) 8 K=K (w (x <<< 8)):=fun {x K}=>Fm (n:=8) (by omega)
    have gi:(ws (nH bs i j))[i]?=some (w (part bs i j)):=by rw [pA (by omega),Qh bs hi64]
    have spP:∀ x:W,yae i (ws (nH bs i j))++[w x]++yaH (i+1) (ws (nH bs i j))=ws ((nH bs i j).set i x):=fun x=>Dp (by omega)
    simp -implicitDefEqProofs only [rX,↓rY,isC,Nat.reduceLeDiff,gi,↓s8,l4,hg,↓Uh,spP,oQ,lP]
    refine ⟨by omega,⟨by omega,by omega,?_,by omega,by omega,by simp only [lo,Fx.hi];omega,?_⟩⟩
    ·have:=(bn bs (4*i+j)).toNat_lt
     simp only [lo,Fx.hi];omega
    refine hM _ (j+1) (by omega) (by omega) ?_
    rw [show (nH bs i j).set i (part bs i j <<< 8 ||| B32 (bn bs (4*i+j)))=nH bs i (j+1) from Qf bs _ rfl]
    exact ⟨by simp -implicitDefEqProofs only [rX,↓reduceIte,Nat.reduceEqDiff,reduceCtorEq,leE];simp,aV _,trivial,by simp -implicitDefEqProofs only [rX,aB,wfE,wfV],⟨dE,dE,trivial⟩⟩
  | false =>
   have h2':=of_decide_eq_false h2
   have g15:(ws (eF bs i))[((i:Int)-15).toNat]?=some (w (wn (wds bs i) (i-15))):=by
    rw [show ((i:Int)-15).toNat=i-15 by omega,pA (by omega),iE bs hi (by omega)]
   have g2:(ws (eF bs i))[((i:Int)-2).toNat]?=some (w (wn (wds bs i) (i-2))):=by
    rw [show ((i:Int)-2).toNat=i-2 by omega,pA (by omega),iE bs hi (by omega)]
   have g16:(ws (eF bs i))[((i:Int)-16).toNat]?=some (w (wn (wds bs i) (i-16))):=by
    rw [show ((i:Int)-16).toNat=i-16 by omega,pA (by omega),iE bs hi (by omega)]
   have g7:(ws (eF bs i))[((i:Int)-7).toNat]?=some (w (wn (wds bs i) (i-7))):=by
    rw [show ((i:Int)-7).toNat=i-7 by omega,pA (by omega),iE bs hi (by omega)]
   have s3:∀ {x:W} {K:V→Prop},bW .shr .u32 (x.toNat:Int) 3 K=K (w (x >>> 3)):=fun {x K}=>pG (n:=3) (by omega)
   have s10:∀ {x:W} {K:V→Prop},bW .shr .u32 (x.toNat:Int) 10 K=K (w (x >>> 10)):=fun {x K}=>pG (n:=10) (by omega)
   simp -implicitDefEqProofs only [↓rY,g15,g2]
   refine ⟨by simp only [lo,Fx.hi];omega,by omega,by simp only [lo,Fx.hi];omega,by omega,?_⟩
   refine aD (Ad (wn (wds bs i) (i-15)) 7 (by omega)) (by simp [aF,aK,aU,bG,wkL,wk,wkR]) rfl trivial ?_
   simp -implicitDefEqProofs only [rX,aA,↓reduceIte,Nat.reduceEqDiff]
   refine aD (Ad (wn (wds bs i) (i-15)) 18 (by omega)) (by simp [aF,aK,aU,bG,wkL,wk,wkR]) rfl trivial ?_
   simp -implicitDefEqProofs only [qY,zc,zi,zj,zm,zv,zJ,kM,kQ,kS,kT,kX,aA,yaC,yas,↓reduceIte,Nat.reduceEqDiff,kZ,yap,yay,Nat.reduceAdd,yau,yaA,true_and,qar,↓fV,↓s3]
   refine aD (Ad (wn (wds bs i) (i-2)) 17 (by omega)) (by simp [aF,aK,aU,bG,wkL,wk,wkR]) rfl trivial ?_
   simp -implicitDefEqProofs only [rX,aA,↓reduceIte,Nat.reduceEqDiff]
   refine aD (Ad (wn (wds bs i) (i-2)) 19 (by omega)) (by simp [aF,aK,aU,bG,wkL,wk,wkR]) rfl trivial ?_
   simp -implicitDefEqProofs only [qY,qZ,zi,zj,zm,zq,zr,zv,zJ,zX,kQ,kR,kS,kT,kX,aA,cells?,yaC,yas,yaB,splice,kY,yah,yav,↓reduceIte,Nat.reduceEqDiff,yat,kZ,yap,yay,Nat.reduceAdd,yaF,yaL,isC,yaw,yaD,true_and,and_true,and_self,yaG,not_false_eq_true,Nat.reduceLeDiff,lg0,wl,qar,↓qas,↓qau,↓qaw,↓qaA,↓qaC,↓qaD,↓qaH,↓qcn,↓qcp,yaa,aM,yai,↓pH,↓fV,↓s10,g16,g7,yai,sp,oQ,lT]
   refine ⟨by simp only [lo,Fx.hi];omega,by omega,by simp only [lo,Fx.hi];omega,by omega,by omega,by omega,by simp only [lo,Fx.hi];omega,?_⟩
   exact fin _ _ (by rw [if_neg (by omega)];unfold next;rw [fF]) rfl rfl rfl
set_option maxRecDepth 20000
theorem Fp {bs:List UInt8} {i:Nat} (h:i<bs.length):bs[i]=bn bs i:=by
 unfold bn
 rw [yah,yal h]
 rfl
theorem b8 {b:UInt8}:lo .u32≤(b.toNat:Int)∧(b.toNat:Int)≤Fx.hi .u32:=by
 have:=b.toNat_lt
 simp only [lo,Fx.hi];omega
set_option maxHeartbeats 1000000 in
theorem aeN (bs:List UInt8) (hb:bs.length=64):Ok 151 [byV bs] (Is (.agg (ws (wds bs 64)))):=by
 refine ok_of lw151 (by simp) ?_
 unfold c151
 simp -implicitDefEqProofs only [rX,↓rY,aA,cells?,Nat.reduceAdd,aC,aG,aN,w0]
 have lW:(wds bs 64).length=64:=fF bs 64
 refine bN (fun i:Nat=>(⟨[(4,.i i),(3,.ptr 1 0 0),(2,.ptr 0 0 0),(0,byV bs)],[.var (ws z64),.var (ws (eF bs i))],2⟩:St)) (fun i=>i≤16) (fun i=>16-i) 0 (yam _) ?_ ?_
 ·rw [Qe]
  exact ⟨by simp -implicitDefEqProofs only [rX,↓reduceIte,Nat.reduceEqDiff,reduceCtorEq,leE];rfl,aV _,trivial,by simp -implicitDefEqProofs only [rX,aB,wfE,wfV],⟨dE,dE,trivial⟩⟩
 intro i hi N hN
 have lT:(eF bs i).length=64:=oR bs (by omega)
 have sp:∀ x:W,yae i (ws (eF bs i))++[w x]++yaH (i+1) (ws (eF bs i))=ws ((eF bs i).set i x):=fun x=>Dp (by omega)
 simp only [c151l0]
 simp -implicitDefEqProofs only [rX,↓rY,aA,cells?,splice,↓reduceIte,Nat.reduceEqDiff,Nat.reduceAdd,reduceCtorEq,yag,yaa,aM,aG,Zj,yai]
 cases h1:decide ((i:Int)<16) with
 | true =>
  have h1':=of_decide_eq_true h1
  have s24:∀ {b:UInt8} {K:V→Prop},bW .shl .u32 (b.toNat:Int) 24 K=K (w (B32 b <<< 24)):=fun {b K}=>Fl (n:=24) (by omega)
  have s16:∀ {b:UInt8} {K:V→Prop},bW .shl .u32 (b.toNat:Int) 16 K=K (w (B32 b <<< 16)):=fun {b K}=>Fl (n:=16) (by omega)
  have s8:∀ {b:UInt8} {K:V→Prop},bW .shl .u32 (b.toNat:Int) 8 K=K (w (B32 b <<< 8)):=fun {b K}=>Fl (n:=8) (by omega)
  have g0:(lo IntKind.i64≤4*(i:Int)∧4*(i:Int)≤Fx.hi IntKind.i64):=by simp only [lo,Fx.hi];omega
  have g1:(lo IntKind.i64≤4*(i:Int)+1∧4*(i:Int)+1≤Fx.hi IntKind.i64):=by simp only [lo,Fx.hi];omega
  have g2:(lo IntKind.i64≤4*(i:Int)+2∧4*(i:Int)+2≤Fx.hi IntKind.i64):=by simp only [lo,Fx.hi];omega
  have g3:(lo IntKind.i64≤4*(i:Int)+3∧4*(i:Int)+3≤Fx.hi IntKind.i64):=by simp only [lo,Fx.hi];omega
  have j0:(0≤4*(i:Int)∧4*(i:Int)<(bs.length:Int)):=by omega
  have j1:(0≤4*(i:Int)+1∧4*(i:Int)+1<(bs.length:Int)):=by omega
  have j2:(0≤4*(i:Int)+2∧4*(i:Int)+2<(bs.length:Int)):=by omega
  have j3:(0≤4*(i:Int)+3∧4*(i:Int)+3<(bs.length:Int)):=by omega
  have t0:(4*(i:Int)).toNat=4*i:=by omega
  have t1:(4*(i:Int)+1).toNat=4*i+1:=by omega
  have t2:(4*(i:Int)+2).toNat=4*i+2:=by omega
  have t3:(4*(i:Int)+3).toNat=4*i+3:=by omega
  have k0:4*i<bs.length:=by omega
  have k1:4*i+1<bs.length:=by omega
  have k2:4*i+2<bs.length:=by omega
  have k3:4*i+3<bs.length:=by omega
  have b0:=Fp k0
  have b1:=Fp k1
  have b2:=Fp k2
  have b3:=Fp k3
  simp -implicitDefEqProofs only [rX,↓rY,isC,Nat.reduceLeDiff,eq_true g0,eq_true g1,eq_true g2,eq_true g3,eq_true j0,eq_true j1,eq_true j2,eq_true j3,t0,t1,t2,t3,eq_true k0,eq_true k1,eq_true k2,eq_true k3,b0,b1,b2,b3,exists_prop,↓s24,↓s16,↓s8,↓Np,↓Uh,eq_true b8,sp,oQ,lT]
  refine ⟨by omega,by omega,by simp only [lo,Fx.hi];omega,?_⟩
  refine hN _ (i+1) (by omega) (by omega) ?_
  rw [show (eF bs i).set i (B32 (bn bs (4*i)) <<< 24 ||| B32 (bn bs (4*i+1)) <<< 16 ||| B32 (bn bs (4*i+2)) <<< 8 ||| B32 (bn bs (4*i+3)))=eF bs (i+1) from yC bs (by omega) _ (by rw [if_pos (by omega)];rfl)]
  exact ⟨by simp -implicitDefEqProofs only [rX,↓reduceIte,Nat.reduceEqDiff,reduceCtorEq,leE];simp,aV _,trivial,by simp -implicitDefEqProofs only [rX,aB,wfE,wfV],⟨dE,dE,trivial⟩⟩
 | false =>
  have h1':=of_decide_eq_false h1
  have:i=16:=by omega
  subst this
  simp -implicitDefEqProofs only [↓rY]
  clear hN N sp lT h1 h1' hi
  refine bN (fun i:Nat=>(⟨[(5,.i i),(3,.ptr 1 0 0),(2,.ptr 0 0 0),(0,byV bs)],[.var (ws z64),.var (ws (eF bs i))],2⟩:St)) (fun i=>16≤i∧i≤64) (fun i=>64-i) 16 (by omega) ?_ ?_
  ·exact ⟨by simp -implicitDefEqProofs only [rX,↓reduceIte,Nat.reduceEqDiff,reduceCtorEq,leE];rfl,aV _,trivial,by simp -implicitDefEqProofs only [rX,aB,wfE,wfV],⟨dE,dE,trivial⟩⟩
  rintro i ⟨hi0,hi⟩ N hN
  have lT:(eF bs i).length=64:=oR bs (by omega)
  simp only [c151l1]
  simp -implicitDefEqProofs only [rX,↓rY,rdK,aA,cells?,splice,↓reduceIte,Nat.reduceEqDiff,Nat.reduceAdd,aQ,aT,wfV,aM,aG,yai]
  cases h1:decide ((i:Int)<64) with
  | false =>
   have h1':=of_decide_eq_false h1
   have:i=64:=by omega
   subst this
   simp -implicitDefEqProofs only [rX,↓rY,Lv,oQ,Vi lW,lW,lM,Lk lM,Vh,dE]
  | true =>
   have h1':=of_decide_eq_true h1
   have sp:∀ x:W,yae i (ws (eF bs i))++[w x]++yaH (i+1) (ws (eF bs i))=ws ((eF bs i).set i x):=fun x=>Dp (by omega)
   have g15:(ws (eF bs i))[((i:Int)-15).toNat]?=some (w (wn (wds bs i) (i-15))):=by
    rw [show ((i:Int)-15).toNat=i-15 by omega,pA (by omega),iE bs hi (by omega)]
   have g2:(ws (eF bs i))[((i:Int)-2).toNat]?=some (w (wn (wds bs i) (i-2))):=by
    rw [show ((i:Int)-2).toNat=i-2 by omega,pA (by omega),iE bs hi (by omega)]
   have g16:(ws (eF bs i))[((i:Int)-16).toNat]?=some (w (wn (wds bs i) (i-16))):=by
    rw [show ((i:Int)-16).toNat=i-16 by omega,pA (by omega),iE bs hi (by omega)]
   have g7:(ws (eF bs i))[((i:Int)-7).toNat]?=some (w (wn (wds bs i) (i-7))):=by
    rw [show ((i:Int)-7).toNat=i-7 by omega,pA (by omega),iE bs hi (by omega)]
   have s3:∀ {x:W} {K:V→Prop},bW .shr .u32 (x.toNat:Int) 3 K=K (w (x >>> 3)):=fun {x K}=>pG (n:=3) (by omega)
   have s10:∀ {x:W} {K:V→Prop},bW .shr .u32 (x.toNat:Int) 10 K=K (w (x >>> 10)):=fun {x K}=>pG (n:=10) (by omega)
   have a15:(lo IntKind.i64≤(i:Int)-15∧(i:Int)-15≤Fx.hi IntKind.i64):=by simp only [lo,Fx.hi];omega
   have c15:(0≤(i:Int)-15∧(i:Int)-15<((64:Nat):Int)):=by omega
   have a2:(lo IntKind.i64≤(i:Int)-2∧(i:Int)-2≤Fx.hi IntKind.i64):=by simp only [lo,Fx.hi];omega
   have c2:(0≤(i:Int)-2∧(i:Int)-2<((64:Nat):Int)):=by omega
   have a16:(lo IntKind.i64≤(i:Int)-16∧(i:Int)-16≤Fx.hi IntKind.i64):=by simp only [lo,Fx.hi];omega
   have c16:(0≤(i:Int)-16∧(i:Int)-16<((64:Nat):Int)):=by omega
   have a7:(lo IntKind.i64≤(i:Int)-7∧(i:Int)-7≤Fx.hi IntKind.i64):=by simp only [lo,Fx.hi];omega
   have c7:(0≤(i:Int)-7∧(i:Int)-7<((64:Nat):Int)):=by omega
   simp -implicitDefEqProofs only [rX,↓rY,g15,↓s3,eq_true a15,eq_true a2,eq_true a16,eq_true a7,eq_true c15,eq_true c2,eq_true c16,eq_true c7]
   refine aD (pY (wn (wds bs i) (i-15)) 7 (by omega)) (by simp [aF,aK,aU,bG,wkL,wk,wkR]) rfl trivial ?_
   simp -implicitDefEqProofs only [rX,aA,↓reduceIte,Nat.reduceEqDiff,aG]
   refine aD (pY (wn (wds bs i) (i-15)) 18 (by omega)) (by simp [aF,aK,aU,bG,wkL,wk,wkR]) rfl trivial ?_
   simp -implicitDefEqProofs only [rX,↓rY,rdK,aA,↓reduceIte,Nat.reduceEqDiff,Nat.reduceAdd,aG,yai,↓fV,g2,↓s10,eq_true a15,eq_true a2,eq_true a16,eq_true a7,eq_true c15,eq_true c2,eq_true c16,eq_true c7]
   refine aD (pY (wn (wds bs i) (i-2)) 17 (by omega)) (by simp [aF,aK,aU,bG,wkL,wk,wkR]) rfl trivial ?_
   simp -implicitDefEqProofs only [rX,aA,↓reduceIte,Nat.reduceEqDiff,aG]
   refine aD (pY (wn (wds bs i) (i-2)) 19 (by omega)) (by simp [aF,aK,aU,bG,wkL,wk,wkR]) rfl trivial ?_
   simp -implicitDefEqProofs only [qa,qe,qR,qT,qY,qZ,zi,zj,zm,zq,zr,zv,zX,kQ,kR,kS,kT,kX,aA,cells?,yaC,yas,yaB,splice,kY,yah,yav,↓reduceIte,Nat.reduceEqDiff,yat,kZ,yap,yay,Nat.reduceAdd,yaF,yaL,isC,yaw,yaD,true_and,and_true,and_self,yaG,not_false_eq_true,Nat.reduceLeDiff,lg0,wl,qar,↓qas,↓qau,↓qaw,↓qaA,↓qaC,↓qaD,↓qaH,↓qcn,↓qcp,yaa,aM,yai,↓fV,↓pH,g16,g7,sp,oQ,lT,eq_true a15,eq_true a2,eq_true a16,eq_true a7,eq_true c15,eq_true c2,eq_true c16,eq_true c7]
   refine ⟨by omega,by omega,by simp only [lo,Fx.hi];omega,?_⟩
   refine hN _ (i+1) (by omega) (by omega) ?_
   rw [yC bs (by omega) _ (by rw [if_neg (by omega)];unfold next;rw [fF])]
   exact ⟨by simp -implicitDefEqProofs only [rX,↓reduceIte,Nat.reduceEqDiff,reduceCtorEq,leE];simp,aV _,trivial,by simp -implicitDefEqProofs only [rX,aB,wfE,wfV],⟨dE,dE,trivial⟩⟩
set_option maxRecDepth 20000
def kA:List V:=nT.map V.v
theorem Sn:yad V.v nT=kA:=rfl
theorem So {i:Nat} (h:i<64):kA[i]?=some (w (kW i)):=by
 have:∀ i:Fin 64,Kj.getD i.val 0<4294967296∧i.val<Kj.length:=by decide +kernel
 obtain ⟨h1,h2⟩:=this ⟨i,h⟩
 simp only at h1 h2
 unfold kA nT kW
 rw [ybr,ybo,yal h2]
 rw [yah,yal h2] at h1 ⊢
 simp only [yat] at h1
 have h3:(yaW 32 Kj[i]).toNat=Kj[i]:=by rw [ybE];omega
 simp only [ybv,Function.comp,yat,w]
 rw [h3]
theorem Xz {q:List Blk}:∀ l:List Value,wfL q (l.map V.v)
 | []=>trivial
 | _::r=>⟨trivial,Xz r⟩
theorem Yz {q:List Blk}:wfL q kA:=Xz nT
attribute [irreducible] kA
def stp (s r:S8) (i:Nat):S8:=⟨if 0<i then s.a+r.a else s.a,if 1<i then s.b+r.b else s.b,if 2<i then s.c+r.c else s.c,if 3<i then s.d+r.d else s.d,if 0<i then s.e+r.e else s.e,if 1<i then s.f+r.f else s.f,if 2<i then s.g+r.g else s.g,if 3<i then s.h+r.h else s.h⟩
theorem acT (s r:S8):stp s r 4=s.add r:=rfl
theorem n0:((0:Nat):Int)=0:=rfl
theorem n1:((1:Nat):Int)=1:=rfl
theorem n2:((2:Nat):Int)=2:=rfl
theorem n3:((3:Nat):Int)=3:=rfl
theorem n8:((8:Nat):Int)=8:=rfl
theorem m64:((64:Nat):Int)=64:=rfl
theorem n4:((4:Nat):Int)=4:=rfl
abbrev z8:List V:=[.v (.int .u32 0),.v (.int .u32 0),.v (.int .u32 0),.v (.int .u32 0),.v (.int .u32 0),.v (.int .u32 0),.v (.int .u32 0),.v (.int .u32 0)]
theorem S8.enc_C (s:S8):s.enc.all isC=true:=rfl
set_option maxHeartbeats 2000000 in
theorem aeW (s:S8) (bs:List UInt8) (hb:bs.length=64):Ok 131 [.agg s.enc,byV bs] (Is (.agg (comp s bs).enc)):=by
 refine ok_of lw131 (by simp) ?_
 unfold c131
 simp -implicitDefEqProofs only [rX,↓rY,aA,cells?,↓reduceIte,Nat.reduceEqDiff,Nat.reduceAdd,reduceCtorEq,aC,aN,S8.enc]
 have lW:(wds bs 64).length=64:=fF bs 64
 refine aD (aeQ bs hb) (by simp [aF,aK,aU,bG,wkL,wk,wkR,wkB]) (by simp [ren,Pu]) trivial ?_
 simp -implicitDefEqProofs only [rX,↓rY,rdK,aA,cells?,splice,↓reduceIte,Nat.reduceEqDiff,Nat.reduceAdd,reduceCtorEq,aC,dR,isC,Nat.reduceLT,Nat.reduceLeDiff,aM,aG,w0,aiG,Sn,oQ,lM,lW,Vi lW,Lk lM,Vh,yaK,n8,yaM,Nat.reduceSub]
 refine ⟨?_,?_⟩
 all_goals
  refine bN (fun i:Nat=>(⟨[(22,.i i),(21,.agg kA),(7,.ptr 4 0 0),(6,.ptr 3 0 0),(5,.ptr 2 0 0),(4,.ptr 1 0 0),(2,.ptr 0 0 0)],[.var [w s.a,w s.b,w s.c,w s.d,w s.e,w s.f,w s.g,w s.h],.var z8,.var (ws (wds bs 64)),.var [w (lL (wn (wds bs 64)) s i).a,w (lL (wn (wds bs 64)) s i).b,w (lL (wn (wds bs 64)) s i).c,w (lL (wn (wds bs 64)) s i).d],.var [w (lL (wn (wds bs 64)) s i).e,w (lL (wn (wds bs 64)) s i).f,w (lL (wn (wds bs 64)) s i).g,w (lL (wn (wds bs 64)) s i).h]],5⟩:St)) (fun i=>i≤64) (fun i=>64-i) 0 (yam _) ?_ ?_
  ·refine ⟨by simp -implicitDefEqProofs only [rX,↓reduceIte,Nat.reduceEqDiff,leE];rfl,aV _,trivial,?_,?_⟩
   ·simp -implicitDefEqProofs only [rX,aB,wfE,wfV,Yz]
   ·simp -implicitDefEqProofs only [rX,wfB,wfV,wfL,dE]
  intro i hi N hN
  obtain ⟨r,hr⟩:∃ r,r=lL (wn (wds bs 64)) s i:=⟨_,rfl⟩
  rw [←hr]
  simp only [c131l0]
  simp -implicitDefEqProofs only [rX,↓rY,rdK,aA,↓reduceIte,Nat.reduceEqDiff,Nat.reduceAdd,yaa,aG,yai]
  cases h1:decide ((i:Int)<64) with
  | false =>
   have h1':=of_decide_eq_false h1
   have:i=64:=by omega
   subst this
   simp -implicitDefEqProofs only [↓rY]
   refine bN (fun i:Nat=>(⟨[(94,.i i),(7,.ptr 4 0 0),(6,.ptr 3 0 0),(4,.ptr 1 0 0),(2,.ptr 0 0 0)],[.var [w (stp s r i).a,w (stp s r i).b,w (stp s r i).c,w (stp s r i).d,w (stp s r i).e,w (stp s r i).f,w (stp s r i).g,w (stp s r i).h],.var z8,.var (ws (wds bs 64)),.var [w r.a,w r.b,w r.c,w r.d],.var [w r.e,w r.f,w r.g,w r.h]],5⟩:St)) (fun i=>i≤4) (fun i=>4-i) 0 (yam _) ?_ ?_
   ·exact ⟨by simp -implicitDefEqProofs only [rX,↓reduceIte,Nat.reduceEqDiff,leE];rfl,aV _,trivial,by simp -implicitDefEqProofs only [rX,aB,wfE,wfV],by simp -implicitDefEqProofs only [rX,wfB,wfV,wfL,dE]⟩
   intro i hi N hN
   have hc:comp s bs=s.add r:=by unfold comp;rw [hr]
   have hcase:i=0∨i=1∨i=2∨i=3∨i=4:=by omega
   rcases hcase with rfl|rfl|rfl|rfl|rfl
   all_goals
    simp only [c131l1]
    simp -implicitDefEqProofs only [qX,qY,qZ,zc,zd,ze,zg,zh,zi,zj,zm,zq,zr,zv,zX,kQ,kR,kS,kT,kX,aA,cells?,yaC,yas,yaB,splice,kY,yah,yav,↓reduceIte,Nat.reduceEqDiff,yat,kZ,wb,↓wc,↓wd,yaT,yaI,yap,yay,Nat.reduceAdd,yaU,wh,aQ,aT,ybw,ybx,wfV,wfL,yaO,yaN,ybf,yaV,yaF,yaL,isC,yaw,yaD,true_and,and_true,and_self,yaG,yaf,not_false_eq_true,Nat.reduceLT,Nat.reduceLeDiff,yab,lg0,wl,wm,wo,lg1,wt,wu,lg2,wx,wy,lg3,wD,wE,lg4,wI,wJ,lg5,wM,wN,lg6,wQ,wR,lg7,wU,wV,qar,↓qas,↓qau,↓qaw,↓qax,↓qaA,↓qaB,↓qaC,↓qaD,↓qaE,↓qaH,↓qcn,↓qcv,aM,yai,yaK,Int.reduceAdd,n0,n1,n2,n3,n4,n8,decide_true,decide_false,yaP,yaM,↓pH]
   ·exact ⟨by decide,by decide,hN _ 1 (by omega) (by omega) ⟨by simp -implicitDefEqProofs only [rX,↓reduceIte,Nat.reduceEqDiff,leE];rfl,aV _,trivial,by simp -implicitDefEqProofs only [rX,aB,wfE,wfV],by simp -implicitDefEqProofs only [rX,wfB,wfV,wfL,dE]⟩⟩
   ·exact ⟨by decide,by decide,hN _ 2 (by omega) (by omega) ⟨by simp -implicitDefEqProofs only [rX,↓reduceIte,Nat.reduceEqDiff,leE];rfl,aV _,trivial,by simp -implicitDefEqProofs only [rX,aB,wfE,wfV],by simp -implicitDefEqProofs only [rX,wfB,wfV,wfL,dE]⟩⟩
   ·exact ⟨by decide,by decide,hN _ 3 (by omega) (by omega) ⟨by simp -implicitDefEqProofs only [rX,↓reduceIte,Nat.reduceEqDiff,leE];rfl,aV _,trivial,by simp -implicitDefEqProofs only [rX,aB,wfE,wfV],by simp -implicitDefEqProofs only [rX,wfB,wfV,wfL,dE]⟩⟩
   ·exact ⟨by decide,by decide,hN _ 4 (by omega) (by omega) ⟨by simp -implicitDefEqProofs only [rX,↓reduceIte,Nat.reduceEqDiff,leE];rfl,aV _,trivial,by simp -implicitDefEqProofs only [rX,aB,wfE,wfV],by simp -implicitDefEqProofs only [rX,wfB,wfV,wfL,dE]⟩⟩
   ·rw [hc,acT]
  | true =>
   have h1':=of_decide_eq_true h1
   have gw:(ws (wds bs 64))[i]?=some (w (wn (wds bs 64) i)):=pA (by omega)
   have ck:(0≤(i:Int)∧(i:Int)<((64:Nat):Int)):=by omega
   simp -implicitDefEqProofs only [yav,kZ,↓wc,yaD,true_and,and_self,Nat.reduceLT,lg0,lg1,lg2,↓qas,eq_true ck,So (show i<64 by omega),yaK,n4,yaP,yaM,↓fV,↓Fo,↓abZ,gw]
   refine aD (Yk r.e 6 11 25 (by omega) (by omega) (by omega)) (by simp [aF,aK,aU,bG,wkL,wk,wkR]) rfl trivial ?_
   simp -implicitDefEqProofs only [qa,qe,qs,qP,rdK,qQ,qR,qS,qT,qV,zc,zm,zq,zv,zX,kM,kQ,kS,kT,kX,aA,yaC,yas,kY,yah,yav,↓reduceIte,Nat.reduceEqDiff,yat,kZ,yap,yay,Nat.reduceAdd,yau,yaA,yaw,yaD,true_and,and_true,and_self,Nat.reduceLT,lg0,lg1,lg2,qar,↓qas,↓qau,↓qaw,↓qaA,↓qaH,aG,yai,eq_true ck,yaK,n4,yaP,yaM,↓pH,↓fV,↓Fo]
   refine aD (Yk r.a 2 13 22 (by omega) (by omega) (by omega)) (by simp [aF,aK,aU,bG,wkL,wk,wkR]) rfl trivial ?_
   simp -implicitDefEqProofs only [qa,qe,qR,qT,qY,zc,zi,zj,zm,zq,zr,zv,zG,zX,kQ,kR,kS,kT,kX,aA,cells?,yaC,yas,yaB,splice,kY,yah,yav,↓reduceIte,Nat.reduceEqDiff,yat,kZ,yaT,yaI,yap,yay,Nat.reduceAdd,yaU,bJ,yau,yaA,yaO,yaN,yaV,yaF,yaL,isC,yaw,yaD,true_and,and_true,and_self,yaG,yaf,not_false_eq_true,Nat.reduceLT,Nat.reduceLeDiff,yab,lg0,wl,wm,wo,lg1,wr,wt,wu,lg2,ww,wx,wy,lg3,wC,wD,qar,↓qas,↓qau,↓qaw,↓qaA,↓qaC,↓qaE,↓qaH,↓qcn,aM,yai,yaK,n4,yaP,yaM,↓pH,splice]
   refine ⟨by simp only [lo,Fx.hi];omega,hN _ (i+1) (by omega) (by omega) ?_⟩
   have e:lL (wn (wds bs 64)) s (i+1)=r.rnd (kW i) (wn (wds bs 64) i):=by rw [hr];rfl
   simp only [e]
   exact ⟨by simp -implicitDefEqProofs only [rX,↓reduceIte,Nat.reduceEqDiff,leE];simp,aV _,trivial,by simp -implicitDefEqProofs only [rX,aB,wfE,wfV,Yz],by simp -implicitDefEqProofs only [rX,wfB,wfV,wfL,dE]⟩
set_option maxRecDepth 20000
def Stm.enc (S:Stm):List V:=sC S.st S.blk S.n
theorem Tu {s:S8} {f:Nat→Option Nat}:cO f s.enc=s.enc:=rfl
theorem Kp {s:S8} {h:List Blk} {g:Nat→Option Nat}:aF h g s.enc:=⟨trivial,trivial,trivial,trivial,trivial,trivial,trivial,trivial,trivial⟩
theorem Xb {s:S8} {h:List Blk} {g:Nat→Option Nat}:wkL s.enc (aU h g s.enc):=⟨rfl,rfl,rfl,rfl,rfl,rfl,rfl,rfl,trivial⟩
theorem enc_len {s:S8}:s.enc.length=8:=rfl
theorem Vs {t:Bs}:eY (sb t)=t.map by1:=rfl
set_option maxHeartbeats 2000000 in
theorem aaP (S:Stm) (m t:Bs) (h:Rp S m) (hm:m.length+t.length≤1152921504606846976):Ok 97 [.agg S.enc,sv t] (IsQ (fun S'=>Rp S' (m++t)) (fun S'=>.agg S'.enc) (fun _=>[])):=by
 refine ok_of lw97 (by simp) ?_
 unfold c97
 simp -implicitDefEqProofs only [rX,↓rY,aA,cells?,↓reduceIte,aC,aG,aN,Stm.enc]
 refine bN (fun g:Stm × Bs × Bs=>(⟨[(1,sv g.2.2),(4,.ptr 1 0 0),(2,.ptr 0 0 0)],[.var (sC g.1.st g.1.blk g.1.n),.var (sC ⟨0,0,0,0,0,0,0,0⟩ (yao 64 0) 0)],2⟩:St)) (fun g=>Rp g.1 (m++g.2.1)∧g.2.1++g.2.2=t) (fun g=>g.2.2.length) (S,[],t) ⟨by simpa using h,rfl⟩ ?_ ?_
 ·refine ⟨by simp -implicitDefEqProofs only [rX,↓reduceIte,Nat.reduceEqDiff,reduceCtorEq,leE],⟨aH _,?_,trivial⟩,trivial,by simp -implicitDefEqProofs only [rX,aB,wfE,wfV],⟨lF,lF,trivial⟩⟩
  show bD _ _
  rw [show sC ⟨0,0,0,0,0,0,0,0⟩ (yao 64 0) 0=yao 8 (w 0)++(yao 64 (u8 0)++[n64 0]) by unfold sC;rfl]
  exact mT _
 rintro ⟨S,c,r⟩ ⟨hR,hcr⟩ N hN
 simp only at hR hcr
 have hl:=hR.len
 have hn:=hR.n
 have hsum:c.length+r.length=t.length:=by rw [←hcr,yaf]
 rw [yaf] at hn
 obtain ⟨j,hj⟩:∃ j,j=S.n%64:=⟨_,rfl⟩
 have hj64:j<64:=by omega
 obtain ⟨cc,hcc⟩:∃ cc,cc=r.take (64-j):=⟨_,rfl⟩
 have hcl:cc.length=min r.length (64-j):=by rw [hcc,yaE];omega
 have e1:IntKind.i64.wrap (yby (S.n:Int) 64)=(j:Int):=by
  rw [show yby (S.n:Int) 64=(j:Int) by rw [hj];simp [Int.tmod_eq_emod]]
  exact dH _ _ ⟨by simp only [lo];omega,by simp only [Fx.hi];omega⟩
 have f1:(yae (64-j) (eY (sb r))).flatten=cc.map u8:=by
  rw [hcc,Vs,←yaX]
  induction r.take (64-j) with
  | nil=>rfl
  | cons x q ih=>rw [yau,List.flatten_cons,ih];rfl
 have f2:min (eY (sb r)).length (64-j)=cc.length:=by rw [Vs,yaj,hcl]
 have e2:IntKind.u64.wrap (cc.length:Int)=(cc.length:Int):=dH _ _ ⟨by simp only [lo];omega,by simp only [Fx.hi];omega⟩
 have e3:IntKind.u64.wrap ((S.n:Int)+(cc.length:Int))=((S.n+cc.length:Nat):Int):=by
  rw [←Int.natCast_add]
  exact dH _ _ ⟨by simp only [lo];omega,by simp only [Fx.hi];omega⟩
 have f3:(sC S.st S.blk S.n).take (8+j)++cc.map u8++(sC S.st S.blk S.n).drop (8+j+cc.length)=sC S.st (mN S.blk cc j) S.n:=Vw hl (by omega)
 have pl:(mN S.blk cc j).length=64:=by rw [Gx (by omega),hl]
 have sx:(sb r).extract cc.length r.length=sb (r.drop cc.length):=by rw [Jj,List.take_length]
 have hst:=hR.step (c:=cc) (by omega)
 simp only [c97l0]
 simp -implicitDefEqProofs only [rX,↓rY,aA,cells?,splice,↓reduceIte,Nat.reduceEqDiff,Nat.reduceAdd,dR,isC,Nat.reduceLeDiff,yaa,aM,fG,Mc,afW,Mc,Vv hl,eT hl,e1,f1,f2,f3,e2,Vv pl,eT pl,e3,aaH pl,sx,yaE,ybq,yaK,m64]
 cases hr:(!r==([]:Bs)) with
 | false =>
  have hr':r=[]:=by simpa using hr
  subst hr'
  rw [yap] at hcr
  subst hcr
  have zl:(yao 64 (0:UInt8)).length=64:=rfl
  simp -implicitDefEqProofs only [rX,↓rY,lS hl,Vx,eT zl,yJ zl,eT hl,Nat.min_self]
  refine dV S hR ?_
  simp -implicitDefEqProofs only [rX,↓rY,↓reduceIte,Nat.reduceEqDiff,aQ,aT,leH,aE,wfB,wfV,lS hl,eT hl,lF]
 | true =>
  have hr':r≠[]:=by simpa using hr
  have hrl:0<r.length:=List.length_pos_iff.2 hr'
  simp -implicitDefEqProofs only [↓rY]
  refine ⟨by omega,by omega,by omega,by omega,by omega,⟨by simp only [lo];omega,by simp only [Fx.hi];omega⟩,?_⟩
  have hrd:cc++r.drop cc.length=r:=by
   by_cases h:64-j≤r.length
   ·rw [show cc.length=64-j by omega,hcc,ycc]
   ·rw [hcc,yac (by omega),yaz (by omega),yap]
  rw [←hj] at hst
  have hI:c++cc++r.drop cc.length=t:=by rw [yaJ,hrd,hcr]
  rw [yaJ] at hst
  cases h6:((j:Int)+(cc.length:Int)==64) with
  | true =>
   have h6':j+cc.length=64:=by have:=eq_of_beq h6;omega
   rw [if_pos h6'] at hst
   simp -implicitDefEqProofs only [↓rY,acX]
   refine ⟨by omega,⟨by omega,by omega,by omega⟩,?_⟩
   refine aD (aeW S.st (mN S.blk cc j) pl) ⟨⟨Kp,trivial,trivial⟩,Xb,?_,trivial⟩ (by simp only [ren,Tu]) trivial ?_
   ·show wkB (if (decide (8+64≤(sC S.st (mN S.blk cc j) (S.n+cc.length)).length)&&(((sC S.st (mN S.blk cc j) (S.n+cc.length)).drop 8).take 64).all isD)=true then V.bro 1 ((((sC S.st (mN S.blk cc j) (S.n+cc.length)).drop 8).take 64).map fun c=>[c]) else V.any) 1 ((mN S.blk cc j).map by1)
    rw [if_pos (by rw [eT pl,Qr pl];rfl),Vu pl]
    exact ⟨rfl,rfl⟩
   simp -implicitDefEqProofs only [rX,↓rY,cells?,splice,↓reduceIte,Nat.reduceEqDiff,Nat.reduceLeDiff,aM,aaG,eT pl,enc_len,S8.enc_C]
   refine hN _ (⟨comp S.st (mN S.blk cc j),mN S.blk cc j,S.n+cc.length⟩,c++cc,r.drop cc.length) ⟨hst,hI⟩ (by simp only [ybq];omega) ?_
   exact ⟨by simp -implicitDefEqProofs only [rX,↓reduceIte,Nat.reduceEqDiff,leE],aV _,trivial,by simp -implicitDefEqProofs only [rX,aB,wfE,wfV],⟨lF,lF,trivial⟩⟩
  | false =>
   have h6':j+cc.length≠64:=by
    intro h
    have:((j:Int)+(cc.length:Int)==64)=true:=by rw [beq_iff_eq];omega
    rw [this] at h6;cases h6
   rw [if_neg h6'] at hst
   simp -implicitDefEqProofs only [↓rY]
   refine hN _ (⟨S.st,mN S.blk cc j,S.n+cc.length⟩,c++cc,r.drop cc.length) ⟨hst,hI⟩ (by simp only [ybq];omega) ?_
   exact ⟨by simp -implicitDefEqProofs only [rX,↓reduceIte,Nat.reduceEqDiff,leE],aV _,trivial,by simp -implicitDefEqProofs only [rX,aB,wfE,wfV],⟨lF,lF,trivial⟩⟩
set_option maxRecDepth 20000
def us (l:Bs):List V:=l.map u8
theorem fN {l:Bs}:(us l).length=l.length:=by simp [us]
theorem xY {l:Bs}:(us l).all isC=true:=by simp [us,isC,isD]
theorem aiD {l:Bs}:(us l).all isD=true:=by simp [us,isD]
theorem acR {l:Bs}:bD (us l) (us l):=mT _
theorem cY {l:Bs} {q:List Blk}:wfL q (us l):=by
 unfold us
 induction l with
 | nil=>trivial
 | cons x r ih=>exact ⟨trivial,ih⟩
theorem gB {l:Bs} {f:Nat→Option Nat}:cO f (us l)=us l:=by
 unfold us
 induction l with
 | nil=>rfl
 | cons x r ih=>exact congrArg (u8 x::·) ih
theorem Vo {l:Bs} {n:Nat}:(us l).take n=us (l.take n):=by simp [us,yaX]
theorem Jb {l:Bs} {i:Nat} {x:UInt8} (hi:i<l.length):(us l).take i++[u8 x]++(us l).drop (i+1)=us (l.set i x):=by
 unfold us
 rw [ybI,ybY,if_pos (by simpa using hi)]
 simp
theorem Qb {l:Bs} {i:Nat} (hi:i<l.length):(us l)[i]?=some (u8 (bn l i)):=by
 unfold us bn
 rw [ybo,yal hi,yah,yal hi]
 rfl
attribute [irreducible] us
def z32:Bs:=yao 32 0
theorem lN:z32.length=32:=rfl
theorem w32:yad V.v (ybJ 32 (Value.int IntKind.u8 0)).toList=us z32:=by unfold us;rfl
attribute [irreducible] z32
def pz (k:Nat):Bs:=128::yao k 0
theorem lG {k:Nat}:(pz k).length=k+1:=by simp [pz]
theorem Rj {k:Nat}:pz k++[0]=pz (k+1):=by
 unfold pz
 rw [yaI,←List.replicate_succ']
theorem adS:pz 0=[128]:=rfl
attribute [irreducible] pz
theorem rF {M:List Nat}:∀ l:List V,(∀ x∈l,∃ u,x=.v u)→bU M l=l
 | [],_=>rfl
 | x::r,h=>by
  obtain ⟨u,rfl⟩:=h x yaY
  show V.v u::bU M r=_
  rw [rF r fun y hy=>h y (yaZ _ hy)]
theorem sK {M:List Nat} {l:Bs}:bU M (us l)=us l:=rF _ (by
 unfold us
 intro x hx
 obtain ⟨b,_,rfl⟩:=yba.1 hx
 exact ⟨_,rfl⟩)
theorem i3 {s:S8} {b:Bs} {n:Nat}:∀ x∈sC s b n,∃ u,x=V.v u:=by
 unfold sC
 intro x hx
 simp only [S8.enc,ybL,yba,ybb,yaG,or_false] at hx
 rcases hx with (rfl|rfl|rfl|rfl|rfl|rfl|rfl|rfl)|⟨u,_,rfl⟩|rfl<;>exact ⟨_,rfl⟩
theorem Gj {M:List Nat} {s:S8} {b:Bs} {n:Nat}:bU M (sC s b n)=sC s b n:=rF _ i3
theorem dC {h:List Blk} {g:Nat→Option Nat}:∀ l:List V,(∀ x∈l,∃ u,x=.v u)→aF h g l∧wkL l (aU h g l)
 | [],_=>⟨trivial,trivial⟩
 | x::r,q=>by
  obtain ⟨u,rfl⟩:=q x yaY
  have:=dC (h:=h) (g:=g) r fun y hy=>q y (yaZ _ hy)
  exact ⟨⟨trivial,this.1⟩,rfl,this.2⟩
def l8 (n i:Nat):Bs:=(yar i).map fun i=>UInt8.ofNat (8*n/2 ^ (56-8*i))
theorem afT {n i:Nat}:l8 n (i+1)=l8 n i++[UInt8.ofNat (8*n/2 ^ (56-8*i))]:=by simp [l8,ybz]
theorem rT {n i:Nat}:(l8 n i).length=i:=by simp [l8]
theorem f6:∀ l:Bs,bytesOf (l.map by1)=some l
 | []=>rfl
 | b::r=>by
  show (bytesOf (r.map by1)).map (UInt8.ofNat ((b.toNat:Int)).toNat::·)=_
  rw [f6 r]
  simp
theorem vH {l:Bs}:({ data:=l.toArray }:ByteArray)=sb l:=rfl
theorem Ka {n:Nat}:pz (zeros n)++l8 n 8=pad n:=by unfold pz;rfl
def oB (s:S8) (i:Nat):Bs:=(yar i).map (rP s)++yao (32-i) 0
theorem Sa {s:S8} {i:Nat} (h:i≤32):(oB s i).length=32:=by simp [oB];omega
theorem afI {s:S8}:oB s 0=z32:=by unfold z32;rfl
theorem Yu {s:S8}:oB s 32=(yar 32).map (rP s):=by simp [oB]
theorem Rz {s:S8} {i:Nat} (h:i<32):(oB s i).set i (rP s i)=oB s (i+1):=by
 unfold oB
 rw [ybs _ _ (by simp),yaj,ybA,ybt,show 32-i=(32-(i+1))+1 by omega,ybu,yaB,ybz,yak]
 simp
theorem Vt {s:S8} {b:Bs} {n j:Nat} (h:j<8):(sC s b n)[j]?=some (w (wn s.l j)):=by
 unfold sC
 rw [ycb (by simp [S8.enc];omega)]
 have:j=0∨j=1∨j=2∨j=3∨j=4∨j=5∨j=6∨j=7:=by omega
 rcases this with rfl|rfl|rfl|rfl|rfl|rfl|rfl|rfl<;>rfl
set_option maxHeartbeats 2000000 in
theorem ajB (S:Stm) (m:Bs) (h:Rp S m) (hm:m.length≤576460752303423488):Ok 99 [.agg S.enc] (Is (.agg (us (sha m)))):=by
 refine ok_of lw99 (by simp) ?_
 unfold c99
 have hn:=h.n
 have hl:=h.len
 have e8:IntKind.u64.wrap (8*(S.n:Int))=((8*S.n:Nat):Int):=by
  rw [show (8*(S.n:Int))=((8*S.n:Nat):Int) by omega]
  exact dH _ _ ⟨by simp only [lo];omega,by simp only [Fx.hi];omega⟩
 simp -implicitDefEqProofs only [rX,↓rY,aA,cells?,↓reduceIte,Nat.reduceEqDiff,Nat.reduceAdd,aC,bZ,isD,Nat.reduceLT,aG,aN,Stm.enc,w32,Vv hl,e8]
 refine bN (fun k:Nat=>(⟨[(4,.sl 2 0 (k+1)),(3,n64 (8*S.n)),(2,.ptr 1 0 0),(1,.ptr 0 0 0)],[.var (sC S.st S.blk S.n),.var (us z32),.arr 1 ((pz k).map by1)],3⟩:St)) (fun k=>k≤zeros m.length) (fun k=>zeros m.length-k) 0 (yam _) ?_ ?_
 ·exact ⟨by simp -implicitDefEqProofs only [rX,↓reduceIte,Nat.reduceEqDiff,leE],⟨aH _,aH _,by rw [adS];exact aH _,trivial⟩,trivial,by simp -implicitDefEqProofs only [rX,aB,wfE,wfV],by simp -implicitDefEqProofs only [rX,wfB,lF,cY]⟩
 intro k hk N hN
 have ei:IntKind.i64.wrap (S.n:Int)=(S.n:Int):=dH _ _ ⟨by simp only [lo];omega,by simp only [Fx.hi];omega⟩
 have hz:=xT m.length
 have hz2:zeros m.length<64:=by unfold zeros;omega
 have tk:yae (k+1) (yad by1 (pz k))=yad by1 (pz k):=yac (by rw [yaj,lG];exact yab _)
 have b0:(yad by1 (pz k))++[[V.v (Value.int IntKind.u8 0)]]=(pz (k+1)).map by1:=by rw [←Rj,yak];rfl
 simp only [c99l0]
 simp -implicitDefEqProofs only [rX,↓rY,aA,cells?,↓reduceIte,Nat.reduceEqDiff,Nat.reduceAdd,reduceCtorEq,aC,bZ,bP,bF,kill,St.kill,isD,Nat.reduceLT,Nat.reduceLeDiff,aM,aG,yai,Vv hl,ei,lG,tk,b0,sK,Gj]
 intro _
 have hmod:((S.n:Int)+((k+1:Nat):Int)).tmod 64=(((m.length+1+k)%64:Nat):Int):=by
  rw [show ((S.n:Int)+((k+1:Nat):Int))=((m.length+1+k:Nat):Int) by omega]
  rfl
 refine ⟨⟨by simp only [lo];omega,by simp only [Fx.hi];omega⟩,by omega,?_⟩
 rw [hmod]
 cases hc:((((m.length+1+k)%64:Nat):Int) != 56) with
 | true =>
  have hc':(m.length+1+k)%64≠56:=by intro h;rw [h] at hc;simp at hc
  have hlt:k<zeros m.length:=by
   rcases Nat.lt_or_ge k (zeros m.length) with h|h
   ·exact h
   ·have:k=zeros m.length:=by omega
    rw [this] at hc';exact absurd hz hc'
  simp -implicitDefEqProofs only [↓rY]
  refine ⟨by omega,hN _ (k+1) (by omega) (by omega) ?_⟩
  exact ⟨by simp -implicitDefEqProofs only [rX,↓reduceIte,Nat.reduceEqDiff,leE],⟨aH _,aH _,aH _,trivial⟩,trivial,by simp -implicitDefEqProofs only [rX,aB,wfE,wfV],by simp -implicitDefEqProofs only [rX,wfB,lF,cY]⟩
 | false =>
  have hc':(m.length+1+k)%64=56:=by
   have h2:¬((((m.length+1+k)%64:Nat):Int)≠56):=fun h=>by rw [bne_iff_ne.2 h] at hc;cases hc
   omega
  have hke:k=zeros m.length:=by omega
  simp -implicitDefEqProofs only [↓rY]
  clear hN N hmod tk b0 hk
  refine bN (fun i:Nat=>(⟨[(23,.i i),(4,.sl 2 0 (k+1+i)),(3,n64 (8*S.n)),(2,.ptr 1 0 0),(1,.ptr 0 0 0)],[.var (sC S.st S.blk S.n),.var (us z32),.arr 1 ((pz k++l8 m.length i).map by1)],3⟩:St)) (fun i=>i≤8) (fun i=>8-i) 0 (yam _) ?_ ?_
  ·exact ⟨by simp -implicitDefEqProofs only [rX,↓reduceIte,Nat.reduceEqDiff,leE];rfl,⟨aH _,aH _,by rw [show l8 m.length 0=[] from rfl,yap];exact aH _,trivial⟩,trivial,by simp -implicitDefEqProofs only [rX,aB,wfE,wfV],by simp -implicitDefEqProofs only [rX,wfB,lF,cY]⟩
  intro i hi N hN
  simp only [c99l1]
  simp -implicitDefEqProofs only [rX,↓rY,aA,cells?,↓reduceIte,Nat.reduceEqDiff,Nat.reduceAdd,reduceCtorEq,aC,bZ,bP,bF,kill,St.kill,isD,Nat.reduceLT,Nat.reduceLeDiff,aM,aG,yai]
  cases h1:decide ((i:Int)<8) with
  | true =>
   have h1':=of_decide_eq_true h1
   have sh:∀ {K:V→Prop},bW .shr .u64 ((8*S.n:Nat):Int) (56-8*(i:Int)) K=K (.v (.int .u64 ((8*S.n/2 ^ (56-8*i):Nat):Int))):=by
    intro K
    have h:bW .shr .u64 ((8*S.n:Nat):Int) (56-8*(i:Int)) K=(0≤(56-8*(i:Int))∧K (.v (.int .u64 (ybm ((8*S.n:Nat):Int) (2 ^ (min (56-8*(i:Int)).toNat 64)))))):=rfl
    rw [h,show (56-8*(i:Int)).toNat=56-8*i by omega,ybl (by omega)]
    have h2:(2:Int) ^ (56-8*i)=((2 ^ (56-8*i):Nat):Int):=by simp
    rw [h2,ybd _ (yaR _),←ybH]
    exact propext ⟨fun h=>h.2,fun h=>⟨by omega,h⟩⟩
   have cv:IntKind.u8.wrap ((8*S.n/2 ^ (56-8*i):Nat):Int)=((UInt8.ofNat (8*m.length/2 ^ (56-8*i))).toNat:Int):=by
    rw [hn,UInt8.toNat_ofNat']
    simp [IntKind.wrap,IntKind.bits,IntKind.signed]
   simp -implicitDefEqProofs only [rX,↓rY,kill,St.kill,↓sh,cv,sK,Gj,lG,rT]
   have tk2:yae (k+1+i) (yad by1 (pz k++l8 m.length i))=yad by1 (pz k++l8 m.length i):=yac (by rw [yaj,yaf,lG,rT];exact yab _)
   rw [tk2]
   refine ⟨⟨by simp only [lo];omega,by simp only [Fx.hi];omega⟩,⟨by simp only [lo];omega,by simp only [Fx.hi];omega⟩,by omega,⟨by simp only [lo];omega,by simp only [Fx.hi];omega⟩,?_⟩
   refine hN _ (i+1) (by omega) (by omega) ?_
   exact ⟨by simp -implicitDefEqProofs only [rX,↓reduceIte,Nat.reduceEqDiff,leE];simp;omega,⟨aH _,aH _,by rw [afT,←yaJ,yak (l₂:=[_])];exact aH _,trivial⟩,trivial,by simp -implicitDefEqProofs only [rX,aB,wfE,wfV],by simp -implicitDefEqProofs only [rX,wfB,lF,cY]⟩
  | false =>
   have h1':=of_decide_eq_false h1
   have:i=8:=by omega
   subst this
   have tk2:yae (k+1+8) (yad by1 (pz k++l8 m.length 8))=yad by1 (pz k++l8 m.length 8):=yac (by rw [yaj,yaf,lG,rT];exact yab _)
   simp -implicitDefEqProofs only [rX,↓rY,tk2,f6,vH,lS hl,eT hl,lG,rT]
   refine ⟨.inr trivial,?_⟩
   clear hN N
   have hpd:pz k++l8 m.length 8=pad m.length:=by rw [hke];exact Ka
   rw [hpd]
   refine tQ _ _ _ (aaP S m (pad m.length) h (by simp [pad,len8];omega)) ⟨⟨(dC _ i3).1,trivial,trivial⟩,(dC _ i3).2,rfl,trivial⟩ (fun g=>by simp only [ren,Stm.enc,xE]) trivial ?_
   intro S' hS'
   have hl':=hS'.len
   have hst':S'.st=acU m:=hS'.st
   simp -implicitDefEqProofs only [rX,↓rY,aA,cells?,splice,↓reduceIte,Nat.reduceEqDiff,Nat.reduceAdd,aC,aM,aG,Stm.enc,lS hl',eT hl',Vx,eT hl,yJ hl,w32]
   refine bN (fun i:Nat=>(⟨[(40,.i i),(6,.ptr 3 0 0),(2,.ptr 1 0 0),(1,.ptr 0 0 0)],[.var (sC S'.st S'.blk S'.n),.var (us z32),.arr 1 ((pad m.length).map by1),.var (us (oB S'.st i))],4⟩:St)) (fun i=>i≤32) (fun i=>32-i) 0 (yam _) ?_ ?_
   ·exact ⟨by simp -implicitDefEqProofs only [rX,↓reduceIte,Nat.reduceEqDiff,leE];rfl,⟨aH _,aH _,aH _,by rw [afI];exact aH _,trivial⟩,trivial,by simp -implicitDefEqProofs only [rX,aB,wfE,wfV],by simp -implicitDefEqProofs only [rX,wfB,lF,cY]⟩
   intro i hi N hN
   simp only [c99l2]
   simp -implicitDefEqProofs only [rX,↓rY,aA,cells?,splice,↓reduceIte,Nat.reduceEqDiff,Nat.reduceAdd,aQ,aT,wfV,isC,yaa,aM,yai]
   cases h1:decide ((i:Int)<32) with
   | true =>
    have h1':=of_decide_eq_true h1
    have lo':(oB S'.st i).length=32:=Sa hi
    have ed:Int.tdiv (i:Int) 4=((i/4:Nat):Int):=rfl
    have er:yby (i:Int) 4=((i%4:Nat):Int):=rfl
    have es:(24-8*((i%4:Nat):Int))=((24-8*(i%4):Nat):Int):=by omega
    have sh:∀ {x:W} {K:V→Prop},bW .shr .u32 (x.toNat:Int) ((24-8*(i%4):Nat):Int) K=K (w (x >>> (24-8*(i%4)))):=fun {x K}=>pG (by omega)
    have cv:IntKind.u8.wrap ((wn S'.st.l (i/4) >>> (24-8*(i%4))).toNat:Int)=((rP S'.st i).toNat:Int):=by
     unfold rP
     rw [UInt8.toNat_ofNat',ybF,ybG]
     simp [IntKind.wrap,IntKind.bits,IntKind.signed]
    have sp:∀ x:UInt8,yae i (us (oB S'.st i))++[u8 x]++yaH (i+1) (us (oB S'.st i))=us ((oB S'.st i).set i x):=fun x=>Jb (by omega)
    simp -implicitDefEqProofs only [rX,↓rY,Nat.reduceLeDiff,yaa,ed,er,es,↓sh,Vt (show i/4<8 by omega),cv,sp,fN,lo']
    refine ⟨by omega,⟨by simp only [lo];omega,by simp only [Fx.hi];omega⟩,by omega,by omega,⟨by simp only [lo];omega,by simp only [Fx.hi];omega⟩,⟨by simp only [lo];omega,by simp only [Fx.hi];omega⟩,by omega,by omega,⟨by simp only [lo];omega,by simp only [Fx.hi];omega⟩,?_⟩
    refine hN _ (i+1) (by omega) (by omega) ?_
    rw [Rz (by omega)]
    exact ⟨by simp -implicitDefEqProofs only [rX,↓reduceIte,Nat.reduceEqDiff,leE];simp,aV _,trivial,by simp -implicitDefEqProofs only [rX,aB,wfE,wfV],by simp -implicitDefEqProofs only [rX,wfB,lF,cY]⟩
   | false =>
    have h1':=of_decide_eq_false h1
    have:i=32:=by omega
    subst this
    have l32:((yar 32).map (rP S'.st)).length=32:=by simp
    have tk3:(us ((yar 32).map (rP S'.st))).take 32=us ((yar 32).map (rP S'.st)):=yac (by rw [fN,l32];exact yab _)
    have dk3:(us z32).drop 32=[]:=yaz (by rw [fN,lN];exact yab _)
    simp -implicitDefEqProofs only [rX,↓rY,Yu,tk3,fN,l32,xY,lN,dk3,cY]
    rw [hst']
    rfl
set_option maxRecDepth 20000
set_option maxHeartbeats 2000000 in
theorem aeO (m:Bs) (hm:m.length≤140737488355000):Ok 150 [byV m] (IsA (.sl 0 0 (m.length+(pad m.length).length)) [.arr 1 ((m++pad m.length).map by1)]):=by
 refine ok_of lw150 (by simp) ?_
 unfold c150
 simp -implicitDefEqProofs only [rX,↓rY,aA,cells?,↓reduceIte,Nat.reduceEqDiff,Nat.reduceAdd,reduceCtorEq,aC,bZ,bP,bF,kill,St.kill,isD,Nat.reduceLT,Nat.reduceLeDiff,aM,aG,yai,aN]
 have hz:=xT m.length
 have hz2:zeros m.length<64:=by unfold zeros;omega
 refine ⟨.inr trivial,by omega,by omega,?_⟩
 refine bN (fun k:Nat=>(⟨[(3,.sl 0 0 (m.length+1+k)),(0,byV m)],[.arr 1 ((m++pz k).map by1)],3⟩:St)) (fun k=>k≤zeros m.length) (fun k=>zeros m.length-k) 0 (yam _) ?_ ?_
 ·exact ⟨by simp -implicitDefEqProofs only [rX,↓reduceIte,reduceCtorEq,leE],⟨by rw [adS,yak,yac (by simp)];exact aH _,trivial⟩,trivial,by simp -implicitDefEqProofs only [rX,aB,wfE,wfV],by simp -implicitDefEqProofs only [wfB]⟩
 intro k hk N hN
 have tk:yae (m.length+1+k) (yad by1 (m++pz k))=yad by1 (m++pz k):=yac (by rw [yaj,yaf,lG];omega)
 have b0:(yad by1 (m++pz k))++[[V.v (Value.int IntKind.u8 0)]]=(m++pz (k+1)).map by1:=by rw [←Rj,←yaJ,yak (l₁:=m++pz k)];rfl
 simp only [c150l0]
 simp -implicitDefEqProofs only [rX,↓rY,aA,cells?,↓reduceIte,Nat.reduceEqDiff,reduceCtorEq,aC,bZ,bP,bF,kill,St.kill,isD,Nat.reduceLT,Nat.reduceLeDiff,aM,aG,yai,lG,tk,b0]
 intro _
 have hmod:(((m.length+1+k:Nat):Int)).tmod 64=(((m.length+1+k)%64:Nat):Int):=rfl
 refine ⟨by omega,?_⟩
 rw [hmod]
 cases hc:((((m.length+1+k)%64:Nat):Int) != 56) with
 | true =>
  have hc':(m.length+1+k)%64≠56:=by intro h;rw [h] at hc;simp at hc
  have hlt:k<zeros m.length:=by
   rcases Nat.lt_or_ge k (zeros m.length) with h|h
   ·exact h
   ·have:k=zeros m.length:=by omega
    rw [this] at hc';exact absurd hz hc'
  simp -implicitDefEqProofs only [↓rY]
  refine ⟨⟨by omega,by omega⟩,hN _ (k+1) (by omega) (by omega) ?_⟩
  exact ⟨by simp -implicitDefEqProofs only [rX,↓reduceIte,reduceCtorEq,leE];rfl,⟨aH _,trivial⟩,trivial,by simp -implicitDefEqProofs only [rX,aB,wfE,wfV],by simp -implicitDefEqProofs only [wfB]⟩
 | false =>
  have hc':(m.length+1+k)%64=56:=by
   have h2:¬((((m.length+1+k)%64:Nat):Int)≠56):=fun h=>by rw [bne_iff_ne.2 h] at hc;cases hc
   omega
  have hke:k=zeros m.length:=by omega
  simp -implicitDefEqProofs only [↓rY]
  intro _
  clear hN N hmod tk b0 hk
  have e8:IntKind.u64.wrap (8*(IntKind.u64.wrap (m.length:Int)))=((8*m.length:Nat):Int):=by
   rw [dH .u64 (m.length:Int) ⟨by simp only [lo];omega,by simp only [Fx.hi];omega⟩]
   rw [show (8*(m.length:Int))=((8*m.length:Nat):Int) by omega]
   exact dH _ _ ⟨by simp only [lo];omega,by simp only [Fx.hi];omega⟩
  try simp only [e8]
  refine bN (fun i:Nat=>(⟨[(5,.i i),(4,n64 (8*m.length)),(3,.sl 0 0 (m.length+1+k+i)),(0,byV m)],[.arr 1 ((m++pz k++l8 m.length i).map by1)],1⟩:St)) (fun i=>i≤8) (fun i=>8-i) 0 (yam _) ?_ ?_
  ·exact ⟨by simp -implicitDefEqProofs only [rX,↓reduceIte,Nat.reduceEqDiff,reduceCtorEq,leE];rfl,⟨by rw [show l8 m.length 0=[] from rfl,yap];exact aH _,trivial⟩,trivial,by simp -implicitDefEqProofs only [rX,aB,wfE,wfV],by simp -implicitDefEqProofs only [wfB]⟩
  intro i hi N hN
  simp only [c150l1]
  simp -implicitDefEqProofs only [rX,↓rY,aA,cells?,↓reduceIte,Nat.reduceEqDiff,Nat.reduceAdd,reduceCtorEq,aC,bZ,bP,bF,kill,St.kill,isD,Nat.reduceLT,Nat.reduceLeDiff,aM,aG,yai]
  cases h1:decide ((i:Int)<8) with
  | true =>
   have h1':=of_decide_eq_true h1
   have sh:∀ {K:V→Prop},bW .shr .u64 ((8*m.length:Nat):Int) (56-8*(i:Int)) K=K (.v (.int .u64 ((8*m.length/2 ^ (56-8*i):Nat):Int))):=by
    intro K
    have h:bW .shr .u64 ((8*m.length:Nat):Int) (56-8*(i:Int)) K=(0≤(56-8*(i:Int))∧K (.v (.int .u64 (ybm ((8*m.length:Nat):Int) (2 ^ (min (56-8*(i:Int)).toNat 64)))))):=rfl
    rw [h,show (56-8*(i:Int)).toNat=56-8*i by omega,ybl (by omega)]
    have h2:(2:Int) ^ (56-8*i)=((2 ^ (56-8*i):Nat):Int):=by simp
    rw [h2,ybd _ (yaR _),←ybH]
    exact propext ⟨fun h=>h.2,fun h=>⟨by omega,h⟩⟩
   have cv:IntKind.u8.wrap ((8*m.length/2 ^ (56-8*i):Nat):Int)=((UInt8.ofNat (8*m.length/2 ^ (56-8*i))).toNat:Int):=by
    rw [UInt8.toNat_ofNat']
    simp [IntKind.wrap,IntKind.bits,IntKind.signed]
   simp -implicitDefEqProofs only [rX,↓rY,kill,St.kill,↓sh,cv,lG,rT]
   have tk2:yae (m.length+1+k+i) (yad by1 (m++pz k++l8 m.length i))=yad by1 (m++pz k++l8 m.length i):=yac (by rw [yaj,yaf,yaf,lG,rT];omega)
   rw [tk2]
   refine ⟨⟨by simp only [lo];omega,by simp only [Fx.hi];omega⟩,⟨by simp only [lo];omega,by simp only [Fx.hi];omega⟩,⟨by omega,by omega⟩,⟨by simp only [lo];omega,by simp only [Fx.hi];omega⟩,?_⟩
   refine hN _ (i+1) (by omega) (by omega) ?_
   exact ⟨by simp -implicitDefEqProofs only [rX,↓reduceIte,Nat.reduceEqDiff,reduceCtorEq,leE];simp;omega,⟨by rw [afT,←yaJ,yak (l₂:=[_])];exact aH _,trivial⟩,trivial,by simp -implicitDefEqProofs only [rX,aB,wfE,wfV],by simp -implicitDefEqProofs only [wfB]⟩
  | false =>
   have h1':=of_decide_eq_false h1
   have:i=8:=by omega
   subst this
   have hpd:m++pz k++l8 m.length 8=m++pad m.length:=by rw [hke,yaJ,Ka]
   have hpl:m.length+(pad m.length).length=m.length+1+k+8:=by rw [←Ka,yaf,lG,rT,←hke];omega
   rw [hpl]
   simp -implicitDefEqProofs only [rX,↓rY,↓reduceIte,aQ,aT,leH,leB,aE,aB,wfB,wfV,Nat.reduceLeDiff,cA,hpd]
set_option maxRecDepth 20000
theorem We (m:Bs):(m++pad m.length).length%64=0:=by
 have:=xT m.length
 simp only [yaf,pad,len8,yas,ybc,yaj,ybA]
 omega
theorem abC:iv.enc=[.v (.int .u32 1779033703),.v (.int .u32 3144134277),.v (.int .u32 1013904242),.v (.int .u32 2773480762),.v (.int .u32 1359893119),.v (.int .u32 2600822924),.v (.int .u32 528734635),.v (.int .u32 1541459225)]:=rfl
theorem n5:((5:Nat):Int)=5:=rfl
theorem n6:((6:Nat):Int)=6:=rfl
theorem n7:((7:Nat):Int)=7:=rfl
def st8 (s r:S8) (i:Nat):S8:=⟨if 0<i then s.a+r.a else s.a,if 1<i then s.b+r.b else s.b,if 2<i then s.c+r.c else s.c,if 3<i then s.d+r.d else s.d,if 4<i then s.e+r.e else s.e,if 5<i then s.f+r.f else s.f,if 6<i then s.g+r.g else s.g,if 7<i then s.h+r.h else s.h⟩
theorem Hq:nT.length=64:=by decide
theorem afX {i:Nat} (h:i<nT.length):V.v nT[i]=w (kW i):=by
 have h1:=So (i:=i) (by rw [Hq] at h;exact h)
 rw [←Sn,ybo,yal h] at h1
 exact Option.some.inj h1
theorem Tt {s:S8} {j:Nat} (h:j<8):[w s.a,w s.b,w s.c,w s.d,w s.e,w s.f,w s.g,w s.h][j]?=some (w (wn s.l j)):=by
 have:j=0∨j=1∨j=2∨j=3∨j=4∨j=5∨j=6∨j=7:=by omega
 rcases this with rfl|rfl|rfl|rfl|rfl|rfl|rfl|rfl<;>rfl
set_option maxHeartbeats 4000000 in
theorem aeV (m:Bs) (hm:m.length≤140737488355000):Ok 134 [byV m] (Is (.agg (us (sha m)))):=by
 refine ok_of lw134 (by simp) ?_
 unfold c134
 simp -implicitDefEqProofs only [rX,↓rY,aA,cells?,splice,↓reduceIte,Nat.reduceEqDiff,Nat.reduceAdd,reduceCtorEq,aC,bJ,isC,Nat.reduceLeDiff,aM,aN,w32]
 refine dG _ _ (.sl 2 0 (m.length+(pad m.length).length)) _ [.arr 1 ((m++pad m.length).map by1)] (aeO m hm) (by simp [aF,aK,aU,bG,wkL,wk,wkR,wkB]) (by simp [ren]) (by simp [bX]) trivial ?_
 simp -implicitDefEqProofs only [rX,aA,↓reduceIte,Nat.reduceAdd,aG]
 have hmod:=We m
 have hML:m.length+(pad m.length).length=(m++pad m.length).length:=by rw [yaf]
 have hS:sha m=(yar 32).map (rP (blocks iv (m++pad m.length) ((m++pad m.length).length/64))):=rfl
 have hMb:(m++pad m.length).length≤140737488355328:=by
  simp only [yaf,pad,len8,yas,ybc,yaj,ybA]
  unfold zeros;omega
 rw [hML,hS]
 obtain ⟨M,hM⟩:∃ M,M=m++pad m.length:=⟨_,rfl⟩
 rw [←hM] at hmod hMb ⊢
 clear hML hS
 refine bN (fun q:Nat=>(⟨[(5,.i (64*q:Nat)),(4,.sl 2 0 M.length),(3,.ptr 1 0 0),(2,.ptr 0 0 0)],[.var (us z32),.var [w (blocks iv M q).a,w (blocks iv M q).b,w (blocks iv M q).c,w (blocks iv M q).d,w (blocks iv M q).e,w (blocks iv M q).f,w (blocks iv M q).g,w (blocks iv M q).h],.arr 1 (M.map by1)],3⟩:St)) (fun q=>64*q≤M.length) (fun q=>M.length-64*q) 0 (by omega) ?_ ?_
 ·exact ⟨by simp -implicitDefEqProofs only [rX,↓reduceIte,Nat.reduceEqDiff,leE];rfl,⟨aH _,aH _,aH _,trivial⟩,trivial,by simp -implicitDefEqProofs only [rX,aB,wfE,wfV],by simp -implicitDefEqProofs only [rX,wfB,wfV,wfL,cY]⟩
 intro q hq N hN
 obtain ⟨s,hs⟩:∃ s,s=blocks iv M q:=⟨_,rfl⟩
 rw [←hs]
 simp only [c134l0]
 simp -implicitDefEqProofs only [rX,↓rY,aA,cells?,↓reduceIte,Nat.reduceEqDiff,cS,Nat.reduceAdd,aC,dR,yaa,aG]
 cases h1:decide (((64*q:Nat):Int)<(M.length:Int)) with
 | false =>
  have h1':=of_decide_eq_false h1
  have hqe:64*q=M.length:=by omega
  simp -implicitDefEqProofs only [↓rY,w32]
  intro _
  have hse:s=blocks iv M (M.length/64):=by rw [hs];congr 1;omega
  rw [←hse]
  clear hN N
  refine bN (fun i:Nat=>(⟨[(13,.i i),(12,.ptr 3 0 0),(3,.ptr 1 0 0),(2,.ptr 0 0 0)],[.var (us z32),.var [w s.a,w s.b,w s.c,w s.d,w s.e,w s.f,w s.g,w s.h],.arr 1 (M.map by1),.var (us (oB s i))],4⟩:St)) (fun i=>i≤32) (fun i=>32-i) 0 (yam _) ?_ ?_
  ·exact ⟨by simp -implicitDefEqProofs only [rX,↓reduceIte,Nat.reduceEqDiff,leE];rfl,⟨aH _,aH _,aH _,by rw [afI];exact aH _,trivial⟩,trivial,by simp -implicitDefEqProofs only [rX,aB,wfE,wfV],by simp -implicitDefEqProofs only [rX,wfB,wfV,wfL,cY]⟩
  intro i hi N hN
  simp only [c134l3]
  simp -implicitDefEqProofs only [rX,↓rY,aA,cells?,splice,↓reduceIte,Nat.reduceEqDiff,Nat.reduceAdd,aQ,aT,wfV,isC,yaa,aM,yai]
  cases h2:decide ((i:Int)<32) with
  | true =>
   have h2':=of_decide_eq_true h2
   have lo':(oB s i).length=32:=Sa hi
   have ed:Int.tdiv (i:Int) 4=((i/4:Nat):Int):=rfl
   have er:yby (i:Int) 4=((i%4:Nat):Int):=rfl
   have es:(24-8*((i%4:Nat):Int))=((24-8*(i%4):Nat):Int):=by omega
   have sh:∀ {x:W} {K:V→Prop},bW .shr .u32 (x.toNat:Int) ((24-8*(i%4):Nat):Int) K=K (w (x >>> (24-8*(i%4)))):=fun {x K}=>pG (by omega)
   have cv:IntKind.u8.wrap ((wn s.l (i/4) >>> (24-8*(i%4))).toNat:Int)=((rP s i).toNat:Int):=by
    unfold rP
    rw [UInt8.toNat_ofNat',ybF,ybG]
    simp [IntKind.wrap,IntKind.bits,IntKind.signed]
   have sp:∀ x:UInt8,yae i (us (oB s i))++[u8 x]++yaH (i+1) (us (oB s i))=us ((oB s i).set i x):=fun x=>Jb (by omega)
   simp -implicitDefEqProofs only [rX,↓rY,Nat.reduceLeDiff,yaa,ed,er,es,↓sh,Tt (show i/4<8 by omega),cv,sp,fN,lo']
   refine ⟨by omega,⟨by simp only [lo];omega,by simp only [Fx.hi];omega⟩,by omega,by omega,⟨by simp only [lo];omega,by simp only [Fx.hi];omega⟩,⟨by simp only [lo];omega,by simp only [Fx.hi];omega⟩,by omega,by omega,⟨by simp only [lo];omega,by simp only [Fx.hi];omega⟩,?_⟩
   refine hN _ (i+1) (by omega) (by omega) ?_
   rw [Rz (by omega)]
   exact ⟨by simp -implicitDefEqProofs only [rX,↓reduceIte,Nat.reduceEqDiff,leE];simp,aV _,trivial,by simp -implicitDefEqProofs only [rX,aB,wfE,wfV],by simp -implicitDefEqProofs only [rX,wfB,wfV,wfL,cY]⟩
  | false =>
   have h2':=of_decide_eq_false h2
   have:i=32:=by omega
   subst this
   have l32:((yar 32).map (rP s)).length=32:=by simp
   have tk3:(us ((yar 32).map (rP s))).take 32=us ((yar 32).map (rP s)):=yac (by rw [fN,l32];exact yab _)
   have dk3:(us z32).drop 32=[]:=yaz (by rw [fN,lN];exact yab _)
   simp -implicitDefEqProofs only [rX,↓rY,Yu,tk3,fN,l32,xY,lN,dk3,cY]
 | true =>
  have h1':=of_decide_eq_true h1
  have hq64:64*q+64≤M.length:=by omega
  have a1:(lo IntKind.i64≤((64*q:Nat):Int)+64∧((64*q:Nat):Int)+64≤Fx.hi IntKind.i64):=⟨by simp only [lo];omega,by simp only [Fx.hi];omega⟩
  simp -implicitDefEqProofs only [rX,↓rY,eq_true a1]
  intro _
  have tn:(((64*q:Nat):Int)+64).toNat-64*q=64:=by omega
  rw [tn]
  refine ⟨⟨by omega,by omega,by omega⟩,?_⟩
  have hbl:((M.drop (64*q)).take 64).length=64:=by simp;omega
  obtain ⟨bs,hbs⟩:∃ bs,bs=(M.drop (64*q)).take 64:=⟨_,rfl⟩
  rw [←hbs] at hbl
  have lW:(wds bs 64).length=64:=fF bs 64
  refine aD (aeN bs hbl) ⟨⟨?_,trivial⟩,?_,trivial⟩ (by simp [ren,Pu]) trivial ?_
  ·show 64*q+64≤(M.map by1).length
   rw [yaj];exact hq64
  ·show wkB (.bro 1 (((M.map by1).drop (64*q)).take 64)) 1 (bs.map by1)
   rw [←ybn,←yaX,←hbs]
   exact ⟨rfl,rfl⟩
  simp -implicitDefEqProofs only [rX,↓rY,aA,cells?,splice,↓reduceIte,Nat.reduceEqDiff,Nat.reduceAdd,aC,isC,aM,aG,w0,oQ,lM,lW,Vi lW,Lk lM,Vh]
  refine bN (fun i:Nat=>(⟨[(8,.i i),(7,.ptr 4 0 0),(6,.ptr 3 0 0),(5,.i (64*q:Nat)),(4,.sl 2 0 M.length),(3,.ptr 1 0 0),(2,.ptr 0 0 0)],[.var (us z32),.var [w s.a,w s.b,w s.c,w s.d,w s.e,w s.f,w s.g,w s.h],.arr 1 (M.map by1),.var (ws (wds bs 64)),.var [w (lL (wn (wds bs 64)) s i).a,w (lL (wn (wds bs 64)) s i).b,w (lL (wn (wds bs 64)) s i).c,w (lL (wn (wds bs 64)) s i).d,w (lL (wn (wds bs 64)) s i).e,w (lL (wn (wds bs 64)) s i).f,w (lL (wn (wds bs 64)) s i).g,w (lL (wn (wds bs 64)) s i).h]],5⟩:St)) (fun i=>i≤64) (fun i=>64-i) 0 (yam _) ?_ ?_
  ·exact ⟨by simp -implicitDefEqProofs only [rX,↓reduceIte,Nat.reduceEqDiff,leE];rfl,aV _,trivial,by simp -implicitDefEqProofs only [rX,aB,wfE,wfV],by simp -implicitDefEqProofs only [rX,wfB,wfV,wfL,dE,cY]⟩
  intro i hi N1 hN1
  obtain ⟨r,hr⟩:∃ r,r=lL (wn (wds bs 64)) s i:=⟨_,rfl⟩
  rw [←hr]
  simp only [c134l1]
  simp -implicitDefEqProofs only [rX,↓rY,rdK,aA,↓reduceIte,Nat.reduceEqDiff,Nat.reduceAdd,yag,yaa,aG,yai]
  cases h2:decide ((i:Int)<64) with
  | false =>
   have h2':=of_decide_eq_false h2
   have:i=64:=by omega
   subst this
   simp -implicitDefEqProofs only [↓rY]
   clear hN1 N1
   refine bN (fun j:Nat=>(⟨[(11,.i j),(7,.ptr 4 0 0),(6,.ptr 3 0 0),(5,.i (64*q:Nat)),(4,.sl 2 0 M.length),(3,.ptr 1 0 0),(2,.ptr 0 0 0)],[.var (us z32),.var [w (st8 s r j).a,w (st8 s r j).b,w (st8 s r j).c,w (st8 s r j).d,w (st8 s r j).e,w (st8 s r j).f,w (st8 s r j).g,w (st8 s r j).h],.arr 1 (M.map by1),.var (ws (wds bs 64)),.var [w r.a,w r.b,w r.c,w r.d,w r.e,w r.f,w r.g,w r.h]],5⟩:St)) (fun j=>j≤8) (fun j=>8-j) 0 (yam _) ?_ ?_
   ·exact ⟨by simp -implicitDefEqProofs only [rX,↓reduceIte,Nat.reduceEqDiff,leE];rfl,aV _,trivial,by simp -implicitDefEqProofs only [rX,aB,wfE,wfV],by simp -implicitDefEqProofs only [rX,wfB,wfV,wfL,dE,cY]⟩
   intro j hj N2 hN2
   have hc:blocks iv M (q+1)=s.add r:=by
    rw [blocks,←hs,←hbs];unfold comp;rw [hr]
   have hcase:j=0∨j=1∨j=2∨j=3∨j=4∨j=5∨j=6∨j=7∨j=8:=by omega
   rcases hcase with rfl|rfl|rfl|rfl|rfl|rfl|rfl|rfl|rfl
   all_goals
    simp only [c134l2]
    simp -implicitDefEqProofs only [qX,qY,qZ,zc,zd,ze,zg,zi,zj,zm,zq,zr,zv,zX,kQ,kR,kS,kT,kX,aA,cells?,yaC,yas,yaB,splice,kY,yah,yav,↓reduceIte,Nat.reduceEqDiff,yat,kZ,wb,↓wc,↓wd,yaT,yaI,yap,yay,Nat.reduceAdd,yaU,yaO,yaN,ybf,yaV,yaF,yaL,isC,yaw,yaD,true_and,and_true,and_self,yaG,not_false_eq_true,Nat.reduceLT,Nat.reduceLeDiff,yab,lg0,wl,wm,wo,lg1,wt,wu,lg2,wx,wy,lg3,wD,wE,lg4,wI,wJ,lg5,wM,wN,lg6,wQ,wR,lg7,wU,wV,qar,↓qas,↓qau,↓qaw,↓qax,↓qaA,↓qaC,↓qaD,↓qaE,↓qaH,↓qcn,↓qcv,aM,yai,yaK,Int.reduceAdd,n0,n1,n2,n3,n4,n5,n6,n7,n8,decide_true,decide_false,yaP,yaM,↓pH]
   ·exact ⟨by decide,hN2 _ 1 (by omega) (by omega) ⟨by simp -implicitDefEqProofs only [rX,↓reduceIte,Nat.reduceEqDiff,leE];rfl,aV _,trivial,by simp -implicitDefEqProofs only [rX,aB,wfE,wfV],by simp -implicitDefEqProofs only [rX,wfB,wfV,wfL,dE,cY]⟩⟩
   ·exact ⟨by decide,hN2 _ 2 (by omega) (by omega) ⟨by simp -implicitDefEqProofs only [rX,↓reduceIte,Nat.reduceEqDiff,leE];rfl,aV _,trivial,by simp -implicitDefEqProofs only [rX,aB,wfE,wfV],by simp -implicitDefEqProofs only [rX,wfB,wfV,wfL,dE,cY]⟩⟩
   ·exact ⟨by decide,hN2 _ 3 (by omega) (by omega) ⟨by simp -implicitDefEqProofs only [rX,↓reduceIte,Nat.reduceEqDiff,leE];rfl,aV _,trivial,by simp -implicitDefEqProofs only [rX,aB,wfE,wfV],by simp -implicitDefEqProofs only [rX,wfB,wfV,wfL,dE,cY]⟩⟩
   ·exact ⟨by decide,hN2 _ 4 (by omega) (by omega) ⟨by simp -implicitDefEqProofs only [rX,↓reduceIte,Nat.reduceEqDiff,leE];rfl,aV _,trivial,by simp -implicitDefEqProofs only [rX,aB,wfE,wfV],by simp -implicitDefEqProofs only [rX,wfB,wfV,wfL,dE,cY]⟩⟩
   ·exact ⟨by decide,hN2 _ 5 (by omega) (by omega) ⟨by simp -implicitDefEqProofs only [rX,↓reduceIte,Nat.reduceEqDiff,leE];rfl,aV _,trivial,by simp -implicitDefEqProofs only [rX,aB,wfE,wfV],by simp -implicitDefEqProofs only [rX,wfB,wfV,wfL,dE,cY]⟩⟩
   ·exact ⟨by decide,hN2 _ 6 (by omega) (by omega) ⟨by simp -implicitDefEqProofs only [rX,↓reduceIte,Nat.reduceEqDiff,leE];rfl,aV _,trivial,by simp -implicitDefEqProofs only [rX,aB,wfE,wfV],by simp -implicitDefEqProofs only [rX,wfB,wfV,wfL,dE,cY]⟩⟩
   ·exact ⟨by decide,hN2 _ 7 (by omega) (by omega) ⟨by simp -implicitDefEqProofs only [rX,↓reduceIte,Nat.reduceEqDiff,leE];rfl,aV _,trivial,by simp -implicitDefEqProofs only [rX,aB,wfE,wfV],by simp -implicitDefEqProofs only [rX,wfB,wfV,wfL,dE,cY]⟩⟩
   ·exact ⟨by decide,hN2 _ 8 (by omega) (by omega) ⟨by simp -implicitDefEqProofs only [rX,↓reduceIte,Nat.reduceEqDiff,leE];rfl,aV _,trivial,by simp -implicitDefEqProofs only [rX,aB,wfE,wfV],by simp -implicitDefEqProofs only [rX,wfB,wfV,wfL,dE,cY]⟩⟩
   ·refine ⟨⟨by simp only [lo];omega,by simp only [Fx.hi];omega⟩,hN _ (q+1) (by omega) (by omega) ?_⟩
    simp only [hc]
    exact ⟨by simp -implicitDefEqProofs only [rX,↓reduceIte,Nat.reduceEqDiff,leE];simp;omega,⟨aH _,aH _,aH _,trivial⟩,trivial,by simp -implicitDefEqProofs only [rX,aB,wfE,wfV],by simp -implicitDefEqProofs only [rX,wfB,wfV,wfL,cY]⟩
  | true =>
   have h2':=of_decide_eq_true h2
   have gw:(ws (wds bs 64))[i]?=some (w (wn (wds bs 64) i)):=pA (by omega)
   have ck:(0≤(i:Int)∧(i:Int)<((64:Nat):Int)):=by omega
   simp -implicitDefEqProofs only [yav,kZ,↓wc,yaD,true_and,and_self,Nat.reduceLT,lg0,lg1,lg2,lg3,lg4,lg5,lg6,↓qas,eq_true ck,gw,yaK,n8,yaP,yaM,↓fV,↓Xe,↓Fo,aiF,afX]
   refine ⟨by rw [Hq];omega,?_⟩
   refine aD (pY r.e 6 (by omega)) (by simp [aF,aK,aU,bG,wkL,wk,wkR]) rfl trivial ?_
   simp -implicitDefEqProofs only [qS,qV,kM,kQ,kS,kT,kX,aA,↓reduceIte,Nat.reduceEqDiff,yau,yaA,yaw,and_true,aG]
   refine aD (pY r.e 11 (by omega)) (by simp [aF,aK,aU,bG,wkL,wk,wkR]) rfl trivial ?_
   simp -implicitDefEqProofs only [qe,qS,qT,qV,zv,kM,kQ,kS,kT,kX,aA,↓reduceIte,Nat.reduceEqDiff,kZ,yau,yaA,yaw,true_and,and_true,aG,↓fV]
   refine aD (pY r.e 25 (by omega)) (by simp [aF,aK,aU,bG,wkL,wk,wkR]) rfl trivial ?_
   simp -implicitDefEqProofs only [qa,qe,qs,qP,rdK,qQ,qR,qS,qT,qV,zc,zm,zq,zv,zX,kM,kQ,kS,kT,kX,aA,yaC,yas,kY,yah,yav,↓reduceIte,Nat.reduceEqDiff,yat,kZ,yap,yay,Nat.reduceAdd,yau,yaA,yaw,yaD,true_and,and_true,and_self,Nat.reduceLT,lg0,lg1,lg2,lg3,qar,↓qas,↓qau,↓qaw,↓qaA,↓qaH,aG,yai,yaK,n8,yaP,yaM,↓pH,↓fV,↓Fo]
   refine aD (pY r.a 2 (by omega)) (by simp [aF,aK,aU,bG,wkL,wk,wkR]) rfl trivial ?_
   simp -implicitDefEqProofs only [qS,qV,kM,kQ,kS,kT,kX,aA,↓reduceIte,Nat.reduceEqDiff,yau,yaA,yaw,and_true,aG]
   refine aD (pY r.a 13 (by omega)) (by simp [aF,aK,aU,bG,wkL,wk,wkR]) rfl trivial ?_
   simp -implicitDefEqProofs only [qe,qS,qT,qV,zv,kM,kQ,kS,kT,kX,aA,↓reduceIte,Nat.reduceEqDiff,kZ,yau,yaA,yaw,true_and,and_true,aG,↓fV]
   refine aD (pY r.a 22 (by omega)) (by simp [aF,aK,aU,bG,wkL,wk,wkR]) rfl trivial ?_
   simp -implicitDefEqProofs only [qa,qe,qR,qT,qY,zi,zj,zm,zq,zr,zv,zG,zX,kQ,kR,kS,kT,kX,aA,cells?,yaC,yas,yaB,splice,kY,yah,yav,↓reduceIte,Nat.reduceEqDiff,yat,kZ,yaT,yaI,yap,yay,Nat.reduceAdd,yaU,bJ,yau,yaA,yaO,yaN,yaV,yaF,yaL,isC,yaw,yaD,true_and,and_true,and_self,yaG,yaf,not_false_eq_true,Nat.reduceLT,Nat.reduceLeDiff,yab,lg0,wl,wm,wo,lg1,wr,wt,wu,lg2,ww,wx,wy,lg3,wC,wD,wE,lg4,wI,wJ,lg5,wM,wN,wQ,wR,wU,qar,↓qas,↓qau,↓qaw,↓qaA,↓qaC,↓qaE,↓qaH,↓qcn,aM,yai,yaK,n8,yaP,yaM,↓pH,↓fV]
   refine ⟨⟨by simp only [lo];omega,by simp only [Fx.hi];omega⟩,hN1 _ (i+1) (by omega) (by omega) ?_⟩
   have e:lL (wn (wds bs 64)) s (i+1)=r.rnd (kW i) (wn (wds bs 64) i):=by rw [hr];rfl
   simp only [e]
   exact ⟨by simp -implicitDefEqProofs only [rX,↓reduceIte,Nat.reduceEqDiff,leE];simp,aV _,trivial,by simp -implicitDefEqProofs only [rX,aB,wfE,wfV],by simp -implicitDefEqProofs only [rX,wfB,wfV,wfL,dE,cY]⟩
set_option maxRecDepth 20000
theorem iZ {m:Bs}:(sha m).length=32:=by simp [sha]
def z16:Bs:=yao 16 0
theorem hU:z16.length=16:=rfl
theorem w16:yad V.v (ybJ 16 (Value.int IntKind.u8 0)).toList=us z16:=by unfold us;rfl
attribute [irreducible] z16
def cp (l:Bs) (i:Nat):Bs:=l.take i++yao (16-i) 0
theorem abY {l:Bs} {i:Nat} (h:l.length=32) (hi:i≤16):(cp l i).length=16:=by simp [cp];omega
theorem alD {l:Bs}:cp l 0=z16:=by unfold z16;rfl
theorem agJ {l:Bs}:cp l 16=l.take 16:=by simp [cp]
theorem abX {l:Bs} {i:Nat} (h:l.length=32) (hi:i<16):(cp l i).set i (bn l i)=cp l (i+1):=by
 unfold cp bn
 have hl:(l.take i).length=i:=by rw [yaE];omega
 rw [ybs _ _ (by omega),hl,ybt,show 16-i=(16-(i+1))+1 by omega,ybu,yaB,yah,yal (by omega)]
 rw [show l.take (i+1)=l.take i++[l[i]'(by omega)] from (ybN (by omega)).symm,yaJ]
 rfl
set_option maxHeartbeats 1000000 in
theorem afF (m:Bs) (hm:m.length≤140737488355000):Ok 106 [byV m] (Is (.agg (us ((sha m).take 16)))):=by
 refine ok_of lw106 (by simp) ?_
 unfold c106
 simp -implicitDefEqProofs only [rX,↓rY,aA,cells?,↓reduceIte,reduceCtorEq,aC,aN,w16]
 refine aD (aeV m hm) (by simp [aF,aK,aU,bG,wkL,wk,wkR,wkB]) (by simp [ren,gB]) trivial ?_
 have tks:(us (sha m)).take 32=us (sha m):=yac (by rw [fN,iZ];exact yab _)
 have dz:(us z32).drop 32=[]:=yaz (by rw [fN,lN];exact yab _)
 have tkz:(us z16).take 16=us z16:=yac (by rw [fN,hU];exact yab _)
 have dz6:(us z16).drop 16=[]:=yaz (by rw [fN,hU];exact yab _)
 simp -implicitDefEqProofs only [rX,↓rY,aA,cells?,splice,↓reduceIte,Nat.reduceEqDiff,Nat.reduceAdd,aC,bJ,isC,aM,aG,w32,w16,fN,iZ,lN,hU,dz,dz6,xY]
 have h16:us z16=yao 16 (u8 0):=by unfold us z16;rfl
 refine bN (fun i:Nat=>(⟨[(5,.i i),(4,.ptr 2 0 0),(3,.ptr 1 0 0),(2,.ptr 0 0 0)],[.var (us z16),.var (us (sha m)),.var (us (cp (sha m) i))],3⟩:St)) (fun i=>i≤16) (fun i=>16-i) 0 (yam _) ?_ ?_
 ·exact ⟨by simp -implicitDefEqProofs only [rX,↓reduceIte,Nat.reduceEqDiff,leE];rfl,⟨aH _,aH _,by rw [alD,h16];exact aH (Blk.var (yao 16 (u8 0))),trivial⟩,trivial,by simp -implicitDefEqProofs only [rX,aB,wfE,wfV],by simp -implicitDefEqProofs only [rX,wfB,cY]⟩
 intro i hi N hN
 simp only [c106l0]
 simp -implicitDefEqProofs only [rX,↓rY,aA,cells?,splice,↓reduceIte,Nat.reduceEqDiff,Nat.reduceAdd,aQ,aT,wfV,yaa,aM,yai]
 cases h1:decide ((i:Int)<16) with
 | true =>
  have h1':=of_decide_eq_true h1
  have lc:(cp (sha m) i).length=16:=abY iZ hi
  have gs:(us (sha m))[i]?=some (u8 (bn (sha m) i)):=Qb (by rw [iZ];omega)
  have sp:∀ x:UInt8,yae i (us (cp (sha m) i))++[u8 x]++yaH (i+1) (us (cp (sha m) i))=us ((cp (sha m) i).set i x):=fun x=>Jb (by omega)
  simp -implicitDefEqProofs only [rX,↓rY,isC,Nat.reduceLeDiff,gs,sp,fN,lc]
  refine ⟨by omega,by omega,by omega,⟨by simp only [lo];omega,by simp only [Fx.hi];omega⟩,?_⟩
  refine hN _ (i+1) (by omega) (by omega) ?_
  rw [abX iZ (by omega)]
  exact ⟨by simp -implicitDefEqProofs only [rX,↓reduceIte,Nat.reduceEqDiff,leE];simp,aV _,trivial,by simp -implicitDefEqProofs only [rX,aB,wfE,wfV],by simp -implicitDefEqProofs only [rX,wfB,cY]⟩
 | false =>
  have h1':=of_decide_eq_false h1
  have:i=16:=by omega
  subst this
  have l16:((sha m).take 16).length=16:=by rw [yaE,iZ];rfl
  have tk3:(us ((sha m).take 16)).take 16=us ((sha m).take 16):=yac (by rw [fN,l16];exact yab _)
  simp -implicitDefEqProofs only [rX,↓rY,agJ,tk3,fN,l16,xY,hU,dz6,cY]
set_option maxRecDepth 20000
def S0:Stm:=⟨iv,yao 64 0,0⟩
theorem rp0:Rp S0 []:=⟨rfl,rfl,rfl,rfl⟩
theorem acK:S0.enc=iv.enc++(yao 64 (u8 0)++[n64 0]):=by unfold Stm.enc sC;rfl
theorem Pr:pV.toList.length=73:=rfl
set_option maxHeartbeats 2000000 in
theorem ajD:Ok 96 [] (Is (.agg S0.enc)):=by
 refine ok_of lw96 (by simp) ?_
 unfold c96
 simp -implicitDefEqProofs only [rX,↓rY,aA,cells?,splice,↓reduceIte,Nat.reduceAdd,reduceCtorEq,aC,bJ,aQ,aT,wfV,isC,Nat.reduceLeDiff,aM,aN,acK,abC,Pr]
 refine ⟨yab _,?_,?_⟩
 ·simp [wfL,wfV]
 ·rfl
end Go.Fx.E
namespace Go.Fx.E
open Go Go.Fx
def zz (x:Int):Nat:=if 0≤x then (2*x).toNat else (-2*x-1).toNat
def vi (n:Nat):Bs:=if h:n<128 then [UInt8.ofNat n] else UInt8.ofNat (n%128+128)::vi (n/128)
termination_by n
decreasing_by omega
def nB (x:Int):Bs:=vi (zz x)
def tB (t:Bs):Bs:=nB t.length++t
def lB (l:List Int):Bs:=nB l.length++(l.map nB).flatten
def inB (k:Int) (l:List Bs):Bs:=UInt8.ofNat (k%256).toNat::(l.map tB).flatten
def fT (k:Int) (l:List Bs):Bs:=(sha (inB k l)).take 16
theorem Gb {n:Nat} (h:n<128):vi n=[UInt8.ofNat n]:=by rw [vi,dif_pos h]
theorem Yb {n:Nat} (h:¬n<128):vi n=UInt8.ofNat (n%128+128)::vi (n/128):=by rw [vi,dif_neg h]
theorem xS {x:Int} (hx:-9223372036854775808≤x∧x≤9223372036854775807):zz x<18446744073709551616:=by unfold zz;split<;>omega
theorem wrap64 {x:Int}:IntKind.u64.wrap x=x%18446744073709551616:=by simp [IntKind.wrap,IntKind.bits,IntKind.signed]
theorem Fw {x:Int}:IntKind.u8.wrap x=x%256:=by simp [IntKind.wrap,IntKind.bits,IntKind.signed]
theorem Uy {x:Int} (hx:-9223372036854775808≤x∧x≤9223372036854775807) :
  IntKind.u64.wrap ((yan 64 (IntKind.u64.wrap (IntKind.u64.wrap x*2)) ^^^ yan 64 (IntKind.u64.wrap (x.fdiv 9223372036854775808))).toNat:Int)=(zz x:Int):=by
 rw [wrap64 (x:=((BitVec.toNat _:Nat):Int))]
 have h64:∀ b:BitVec 64,((b.toNat:Nat):Int)%18446744073709551616=(b.toNat:Int):=fun b=>Int.emod_eq_of_lt (yaR _) (by have:=b.isLt;omega)
 rw [h64,wrap64,wrap64,wrap64,ybd _ (by omega)]
 unfold zz
 by_cases h:0≤x
 ·rw [if_pos h,show x/9223372036854775808=0 by omega,show x%18446744073709551616*2%18446744073709551616=2*x by omega]
  simp only [Int.zero_emod,BitVec.ofInt_ofNat,BitVec.xor_zero,ybO]
  omega
 ·rw [if_neg h,show x/9223372036854775808=-1 by omega,show x%18446744073709551616*2%18446744073709551616=2*x+18446744073709551616 by omega,show (-1:Int)%18446744073709551616=18446744073709551615 from rfl]
  have e1:yan 64 18446744073709551615=BitVec.allOnes 64:=ybX (by rw [ybO,BitVec.toNat_allOnes];omega)
  rw [e1,BitVec.xor_allOnes,BitVec.toNat_not,ybO]
  omega
theorem adU {n:Nat} (h:n<18446744073709551616):IntKind.u8.wrap ((yan 8 (IntKind.u8.wrap (n:Int)) ||| yan 8 128).toNat:Int)=((UInt8.ofNat (n%128+128)).toNat:Int):=by
 rw [Fw,Fw]
 have h8:∀ b:BitVec 8,((b.toNat:Nat):Int)%256=(b.toNat:Int):=fun b=>Int.emod_eq_of_lt (yaR _) (by have:=b.isLt;omega)
 rw [h8]
 have key:∀ m:Fin 256,(yaW 8 m.val ||| 128#8).toNat=m.val%128+128:=by decide +kernel
 have:=key ⟨n%256,by omega⟩
 simp only at this
 have e:yan 8 ((n:Int)%256)=yaW 8 (n%256):=by
  rw [show ((n:Int)%256)=((n%256:Nat):Int) by omega,ybW]
 rw [e,show yan 8 128=128#8 by rfl,this,UInt8.toNat_ofNat']
 omega
theorem Zl {n:Nat}:(IntKind.u8.wrap ((n:Int).tmod 128)+128:Int)=((UInt8.ofNat (n%128+128)).toNat:Int):=by
 rw [Fw,UInt8.toNat_ofNat',show (n:Int).tmod 128=((n%128:Nat):Int) from rfl]
 omega
theorem xZ {n:Nat} (h:n<128):IntKind.u8.wrap (n:Int)=((UInt8.ofNat n).toNat:Int):=by
 rw [Fw,UInt8.toNat_ofNat'];omega
theorem Ls:∀ (k n:Nat),n<128 ^ (k+1)→(vi n).length≤k+1
 | 0,n,h=>by rw [Gb (by omega)];simp
 | k+1,n,h=>by
  by_cases hn:n<128
  ·rw [Gb hn];simp
  ·rw [Yb hn,yas]
   have:=Ls k (n/128) (by rw [Nat.div_lt_iff_lt_mul (by omega),←Nat.pow_succ];exact h)
   omega
theorem Qa {n:Nat} (h:n<18446744073709551616):(vi n).length≤10:=Ls 9 n (by omega)
theorem rQ {x:Int} (hx:-9223372036854775808≤x∧x≤9223372036854775807):(nB x).length≤10:=Qa (xS hx)
open Go Go.Fx Go.Proofs
set_option maxRecDepth 20000
theorem aiI {a b:Int} {K:V→Prop}:bW .shl .u64 a b K=(0≤b∧K (.v (.int .u64 (IntKind.u64.wrap (a*2 ^ (min b.toNat 64)))))):=rfl
theorem aiH {a b:Int} {K:V→Prop}:bW .shr .u64 a b K=(0≤b∧K (.v (.int .u64 (a.fdiv (2 ^ (min b.toNat 64)))))):=rfl
theorem sri {a b:Int} {K:V→Prop}:bW .shr .i64 a b K=(0≤b∧K (.v (.int .i64 (a.fdiv (2 ^ (min b.toNat 64)))))):=rfl
theorem aiC {a c:Int} {K:V→Prop} {x:Bool}:cN .xor x .u64 a c K=K (.v (.int .u64 (IntKind.u64.wrap ((yan 64 a ^^^ yan 64 c).toNat:Int)))):=rfl
theorem or8 {a c:Int} {K:V→Prop} {x:Bool}:cN .or x .u8 a c K=K (.v (.int .u8 (IntKind.u8.wrap ((yan 8 a ||| yan 8 c).toNat:Int)))):=rfl
theorem p1:(2:Int) ^ (min (1:Int).toNat 64)=2:=rfl
theorem p63:(2:Int) ^ (min (63:Int).toNat 64)=9223372036854775808:=rfl
theorem p7:(2:Int) ^ (min (7:Int).toNat 64)=128:=rfl
theorem tC {fx:List Nat} {f:(St→Prop)→St→Prop} {s s0:St} (hgh:eK fx s s0) {G:Type} (pat:G→St) (I:G→Prop) (μ:G→Nat) (g:G) (h0:I g) (h1:leS fx s0 (pat g))
  (h:∀ g,I g→∀ N:St→Prop,(∀ s' g',I g'→μ g'<μ g→leS fx s' (pat g')→N s')→f N (pat g)):Ai fx f s :=
 fY hgh pat I μ g h0 h1 fun g hg=>h g hg _ fun s' g' a b c=>⟨g',⟨a,b⟩,c⟩
theorem agH {n:Nat}:((n:Int).fdiv 128)=((n/128:Nat):Int):=by rw [ybd _ (by omega)];rfl
structure VI (x:Nat) (g:Bs × Nat):Prop where
 e:vi x=g.1++vi g.2
 lt:g.2<18446744073709551616
 len:g.1.length≤10
theorem VI.next {x:Nat} {L:Bs} {n:Nat} (h:VI x (L,n)) (hx:x<18446744073709551616) (hn:¬n<128):VI x (L++[UInt8.ofNat (n%128+128)],n/128):=by
 have he:=h.e
 have hl:=Qa hx
 have:=h.lt
 simp only at he this
 rw [Yb hn] at he
 refine ⟨by simp only;rw [he];simp,by simp only;omega,?_⟩
 rw [he] at hl
 simp only [yaf,yas,yaC] at hl ⊢
 omega
set_option maxHeartbeats 1000000 in
theorem Ry (x:Int) (hx:-9223372036854775808≤x∧x≤9223372036854775807):Ok 102 [.i x] (IsA (.sl 0 0 (nB x).length) [.arr 1 ((nB x).map by1)]):=by
 refine ok_of lw102 (by simp) ?_
 unfold c102
 simp -implicitDefEqProofs only [rX,aA,↓reduceIte,Nat.reduceEqDiff,reduceCtorEq,aG,aN,↓aiI,↓sri,↓aiC,p1,p63,Uy hx]
 refine ⟨by omega,by omega,?_⟩
 refine tC (.virt 1 1 (by decide) (.nilE 4 0 rfl (.refl _))) (fun g:Bs × Nat=>(⟨[(4,.sl 0 0 g.1.length),(3,n64 g.2)],[.arr 1 (g.1.map by1)],0⟩:St)) (VI (zz x)) (fun g=>g.2) ([],zz x) ⟨rfl,xS hx,by simp⟩ ?_ ?_
 ·exact ⟨by simp -implicitDefEqProofs only [rX,↓reduceIte,Nat.reduceEqDiff,leE],aV _,trivial,by simp -implicitDefEqProofs only [rX,aB,wfE,wfV],by simp -implicitDefEqProofs only [wfB]⟩
 rintro ⟨L,n⟩ hI N hN
 have hlt:=hI.lt
 have hlen:=hI.len
 have he:=hI.e
 simp only at hlt hlen he
 have tk:yae L.length (yad by1 L)=yad by1 L:=yac (by rw [yaj];exact yab _)
 simp only [c102l0]
 simp -implicitDefEqProofs only [rX,↓rY,aA,cells?,↓reduceIte,Nat.reduceEqDiff,Nat.reduceAdd,reduceCtorEq,aC,bZ,bP,bF,kill,St.kill,isD,Nat.reduceLT,Nat.reduceLeDiff,aM,aG,yai]
 cases h1:decide ((n:Int)>127) with
 | true =>
  have h1':=of_decide_eq_true h1
  simp -implicitDefEqProofs only [rX,↓rY,kill,St.kill,isD,↓or8,↓aiH,p7,adU hlt,agH,tk]
  refine ⟨by omega,by omega,hN _ (L++[UInt8.ofNat (n%128+128)],n/128) (hI.next (xS hx) (by omega)) (by simp only;omega) ?_⟩
  exact ⟨by simp -implicitDefEqProofs only [rX,↓reduceIte,Nat.reduceEqDiff,leE],⟨by rw [yak];exact aH _,trivial⟩,trivial,by simp -implicitDefEqProofs only [rX,aB,wfE,wfV],by simp -implicitDefEqProofs only [wfB]⟩
 | false =>
  have h1':=of_decide_eq_false h1
  have hv:nB x=L++[UInt8.ofNat n]:=by unfold nB;rw [he,Gb (by omega)]
  simp -implicitDefEqProofs only [↓rY,xZ (show n<128 by omega),tk]
  refine ⟨by omega,?_⟩
  simp -implicitDefEqProofs only [rX,↓reduceIte,aQ,aT,leH,leB,aE,aB,wfB,wfV,Nat.reduceLeDiff,cA,hv,yak]
  rfl
theorem Zn {x:Int} (h:0≤x) (h2:x≤9223372036854775807):IntKind.u64.wrap (IntKind.u64.wrap x*2)=(zz x:Int):=by
 unfold zz;rw [wrap64,wrap64,if_pos h];omega
theorem Zo {x:Int} (h:x<0) (h2:-9223372036854775808≤x):IntKind.u64.wrap (IntKind.u64.wrap (IntKind.u64.wrap (-1-x)*2)+1)=(zz x:Int):=by
 unfold zz;rw [wrap64,wrap64,wrap64,if_neg (by omega)];omega
theorem Xw {n:Nat} (h:n<18446744073709551616):IntKind.u64.wrap ((n/128:Nat):Int)=((n/128:Nat):Int):=by rw [wrap64];omega
theorem Ye {n:Nat}:((n:Int).tdiv 128)=((n/128:Nat):Int):=rfl
set_option maxHeartbeats 1000000 in
theorem Rx (x:Int) (hx:-9223372036854775808≤x∧x≤9223372036854775807):Ok 108 [.i x] (IsA (.sl 0 0 (nB x).length) [.arr 1 ((nB x).map by1)]):=by
 refine ok_of lw108 (by simp) ?_
 unfold c108
 simp -implicitDefEqProofs only [rX,↓rY,aA,↓reduceIte,reduceCtorEq,aG,aN]
 cases h0:decide (x<0) with
 | true =>
  have h0':=of_decide_eq_true h0
  simp -implicitDefEqProofs only [↓rY,Zo h0' hx.1]
  refine ⟨⟨by simp only [lo];omega,by simp only [Fx.hi];omega⟩,?_⟩
  refine tC (.virt 1 1 (by decide) (.nilE 4 0 rfl (.refl _))) (fun g:Bs × Nat=>(⟨[(4,.sl 0 0 g.1.length),(3,n64 g.2)],[.arr 1 (g.1.map by1)],0⟩:St)) (VI (zz x)) (fun g=>g.2) ([],zz x) ⟨rfl,xS hx,by simp⟩ ?_ ?_
  ·exact ⟨by simp -implicitDefEqProofs only [rX,↓reduceIte,Nat.reduceEqDiff,leE],aV _,trivial,by simp -implicitDefEqProofs only [rX,aB,wfE,wfV],by simp -implicitDefEqProofs only [wfB]⟩
  rintro ⟨L,n⟩ hI N hN
  have hlt:=hI.lt
  have hlen:=hI.len
  have he:=hI.e
  simp only at hlt hlen he
  have tk:yae L.length (yad by1 L)=yad by1 L:=yac (by rw [yaj];exact yab _)
  simp only [c108l0]
  simp -implicitDefEqProofs only [rX,↓rY,aA,cells?,↓reduceIte,Nat.reduceEqDiff,Nat.reduceAdd,reduceCtorEq,aC,bZ,bP,bF,kill,St.kill,isD,Nat.reduceLT,Nat.reduceLeDiff,aM,aG,yai]
  cases h1:decide ((n:Int)≥128) with
  | true =>
   have h1':=of_decide_eq_true h1
   simp -implicitDefEqProofs only [↓rY,Zl,Ye,tk,Xw hlt]
   refine ⟨by omega,⟨by simp only [lo];omega,by simp only [Fx.hi];have:=(UInt8.ofNat (n%128+128)).toNat_lt;omega⟩,by omega,by omega,hN _ (L++[UInt8.ofNat (n%128+128)],n/128) (hI.next (xS hx) (by omega)) (by simp only;omega) ?_⟩
   exact ⟨by simp -implicitDefEqProofs only [rX,↓reduceIte,Nat.reduceEqDiff,leE],⟨by rw [yak];exact aH _,trivial⟩,trivial,by simp -implicitDefEqProofs only [rX,aB,wfE,wfV],by simp -implicitDefEqProofs only [wfB]⟩
  | false =>
   have h1':=of_decide_eq_false h1
   have hv:nB x=L++[UInt8.ofNat n]:=by unfold nB;rw [he,Gb (by omega)]
   simp -implicitDefEqProofs only [↓rY,xZ (show n<128 by omega),tk]
   refine ⟨by omega,?_⟩
   simp -implicitDefEqProofs only [rX,↓reduceIte,aQ,aT,leH,leB,aE,aB,wfB,wfV,Nat.reduceLeDiff,cA,hv,yak]
   rfl
 | false =>
  have h0':=of_decide_eq_false h0
  simp -implicitDefEqProofs only [↓rY,Zn (show 0≤x by omega) hx.2]
  refine tC (.virt 1 1 (by decide) (.nilE 4 0 rfl (.refl _))) (fun g:Bs × Nat=>(⟨[(4,.sl 0 0 g.1.length),(3,n64 g.2)],[.arr 1 (g.1.map by1)],0⟩:St)) (VI (zz x)) (fun g=>g.2) ([],zz x) ⟨rfl,xS hx,by simp⟩ ?_ ?_
  ·exact ⟨by simp -implicitDefEqProofs only [rX,↓reduceIte,Nat.reduceEqDiff,leE],aV _,trivial,by simp -implicitDefEqProofs only [rX,aB,wfE,wfV],by simp -implicitDefEqProofs only [wfB]⟩
  rintro ⟨L,n⟩ hI N hN
  have hlt:=hI.lt
  have hlen:=hI.len
  have he:=hI.e
  simp only at hlt hlen he
  have tk:yae L.length (yad by1 L)=yad by1 L:=yac (by rw [yaj];exact yab _)
  simp only [c108l0]
  simp -implicitDefEqProofs only [rX,↓rY,aA,cells?,↓reduceIte,Nat.reduceEqDiff,Nat.reduceAdd,reduceCtorEq,aC,bZ,bP,bF,kill,St.kill,isD,Nat.reduceLT,Nat.reduceLeDiff,aM,aG,yai]
  cases h1:decide ((n:Int)≥128) with
  | true =>
   have h1':=of_decide_eq_true h1
   simp -implicitDefEqProofs only [↓rY,Zl,Ye,tk,Xw hlt]
   refine ⟨by omega,⟨by simp only [lo];omega,by simp only [Fx.hi];have:=(UInt8.ofNat (n%128+128)).toNat_lt;omega⟩,by omega,by omega,hN _ (L++[UInt8.ofNat (n%128+128)],n/128) (hI.next (xS hx) (by omega)) (by simp only;omega) ?_⟩
   exact ⟨by simp -implicitDefEqProofs only [rX,↓reduceIte,Nat.reduceEqDiff,leE],⟨by rw [yak];exact aH _,trivial⟩,trivial,by simp -implicitDefEqProofs only [rX,aB,wfE,wfV],by simp -implicitDefEqProofs only [wfB]⟩
  | false =>
   have h1':=of_decide_eq_false h1
   have hv:nB x=L++[UInt8.ofNat n]:=by unfold nB;rw [he,Gb (by omega)]
   simp -implicitDefEqProofs only [↓rY,xZ (show n<128 by omega),tk]
   refine ⟨by omega,?_⟩
   simp -implicitDefEqProofs only [rX,↓reduceIte,aQ,aT,leH,leB,aE,aB,wfB,wfV,Nat.reduceLeDiff,cA,hv,yak]
   rfl
set_option maxRecDepth 20000
theorem Jf {t:Bs} (h:t.length≤140737488355000):(tB t).length≤t.length+10:=by
 have:=rQ (x:=(t.length:Int)) (by omega)
 simp only [tB,yaf];omega
set_option maxHeartbeats 1000000 in
theorem ajC (t:Bs) (ht:t.length≤140737488355000):Ok 98 [sv t] (IsA (.sl 1 0 (tB t).length) [.dead,.arr 1 ((tB t).map by1)]):=by
 refine ok_of lw98 (by simp) ?_
 unfold c98
 simp -implicitDefEqProofs only [rX,↓rY,aA,↓reduceIte,reduceCtorEq,fG,aN]
 have hn:-9223372036854775808≤((t.length:Nat):Int)∧((t.length:Nat):Int)≤9223372036854775807:=by omega
 have hl:=rQ hn
 have tk:yae (nB t.length).length (yad by1 (nB t.length))=yad by1 (nB t.length):=yac (by rw [yaj];exact yab _)
 refine dG _ _ (.sl 1 0 (nB t.length).length) _ [.arr 1 ((nB t.length).map by1)] (Ry (t.length:Int) hn) (by simp [aF,aK,aU,bG,wkL,wk,wkR,fG]) (by simp [ren]) (by simp [bX]) trivial ?_
 simp -implicitDefEqProofs only [rX,↓rY,↓reduceIte,Nat.reduceEqDiff,Nat.reduceAdd,reduceCtorEq,aQ,aT,leH,leB,aE,aB,wfB,wfV,bP,bF,kill,St.kill,Nat.reduceLeDiff,aM,aG,yai,Vs,cA,tk,tB,yak]
 omega
set_option maxHeartbeats 1000000 in
theorem aeU (t:Bs) (ht:t.length≤140737488355000):Ok 135 [sv t] (IsA (.sl 1 0 (tB t).length) [.dead,.arr 1 ((tB t).map by1)]):=by
 refine ok_of lw135 (by simp) ?_
 unfold c135
 simp -implicitDefEqProofs only [rX,↓rY,aA,↓reduceIte,reduceCtorEq,fG,aN]
 have hn:-9223372036854775808≤((t.length:Nat):Int)∧((t.length:Nat):Int)≤9223372036854775807:=by omega
 have hl:=rQ hn
 have tk:yae (nB t.length).length (yad by1 (nB t.length))=yad by1 (nB t.length):=yac (by rw [yaj];exact yab _)
 refine dG _ _ (.sl 1 0 (nB t.length).length) _ [.arr 1 ((nB t.length).map by1)] (Rx (t.length:Int) hn) (by simp [aF,aK,aU,bG,wkL,wk,wkR,fG]) (by simp [ren]) (by simp [bX]) trivial ?_
 simp -implicitDefEqProofs only [rX,↓rY,↓reduceIte,Nat.reduceEqDiff,Nat.reduceAdd,reduceCtorEq,aQ,aT,leH,leB,aE,aB,wfB,wfV,bP,bF,kill,St.kill,Nat.reduceLeDiff,aM,aG,yai,Vs,cA,tk,tB,yak]
 omega
def i1 (x:Int):List V:=[.i x]
theorem agC {x:Int}:(i1 x)[0]?=some (.i x):=rfl
abbrev bI (l:List Int):V:=.bro 1 (l.map i1)
def In64 (l:List Int):Prop:=∀ x∈l,-9223372036854775808≤x∧x≤9223372036854775807
def lBk (l:List Int) (k:Nat):Bs:=nB l.length++((l.take k).map nB).flatten
theorem Hp {l:List Int}:lBk l 0=nB l.length:=by simp [lBk]
theorem Ho {l:List Int} {k:Nat} (h:k<l.length):lBk l (k+1)=lBk l k++nB l[k]:=by
 unfold lBk
 rw [←ybN h,yak,ybB,yaJ]
 simp
theorem Es {l:List Int}:lBk l l.length=lB l:=by simp [lBk,lB]
theorem xL {l:List Int} (hl:In64 l) (hn:l.length≤1000000000000):∀ {k:Nat},k≤l.length→(lBk l k).length≤10+10*k
 | 0,_=>by rw [Hp];exact rQ (by omega)
 | k+1,h=>by
  rw [Ho h,yaf]
  have:=xL hl hn (k:=k) (by omega)
  have:=rQ (hl _ (yax h))
  omega
theorem Sm {l:List Int} (hl:In64 l) (hn:l.length≤1000000000000):(lB l).length≤10+10*l.length:=by rw [←Es];exact xL hl hn (yab _)
attribute [irreducible] lBk
set_option maxHeartbeats 1000000 in
theorem afG (l:List Int) (hl:In64 l) (hn:l.length≤1000000000000):Ok 101 [bI l,.clo 102 []] (IsA (.sl 0 0 (lB l).length) [.arr 1 ((lB l).map by1)]):=by
 refine ok_of lw101 (by simp) ?_
 unfold c101
 simp -implicitDefEqProofs only [rX,↓rY,aA,↓reduceIte,reduceCtorEq,aN]
 intro _
 refine dG _ _ (.sl 0 0 (nB l.length).length) _ [.arr 1 ((nB l.length).map by1)] (Ry (l.length:Int) (by omega)) (by simp [aF,aK,aU,bG,wkL,wk,wkR,fG]) (by simp [ren]) (by simp [bX]) trivial ?_
 simp -implicitDefEqProofs only [rX,↓rY,aA,↓reduceIte,reduceCtorEq,aG]
 intro _
 refine bN (fun k:Nat=>(⟨[(13,.i k),(12,.i l.length),(11,bI l),(5,.sl 0 0 (lBk l k).length),(1,.clo 102 [])],[.arr 1 ((lBk l k).map by1)],0⟩:St)) (fun k=>k≤l.length) (fun k=>l.length-k) 0 (yam _) ?_ ?_
 ·exact ⟨by simp -implicitDefEqProofs only [rX,↓reduceIte,Nat.reduceEqDiff,reduceCtorEq,leE,Hp];rfl,⟨by rw [Hp];exact aH _,trivial⟩,trivial,by simp -implicitDefEqProofs only [rX,aB,wfE,wfV,wfL],by simp -implicitDefEqProofs only [wfB]⟩
 intro k hk N hN
 have hbl:=xL hl hn hk
 have tk:yae (lBk l k).length (yad by1 (lBk l k))=yad by1 (lBk l k):=yac (by rw [yaj];exact yab _)
 simp only [c101l0]
 simp -implicitDefEqProofs only [rX,↓rY,↓reduceIte,Nat.reduceEqDiff,yag,yaa]
 cases h1:decide ((k:Int)<(l.length:Int)) with
 | true =>
  have h1':=of_decide_eq_true h1
  have hk':k<l.length:=by omega
  have hx:=hl _ (yax hk')
  have hb2:=rQ hx
  simp -implicitDefEqProofs only [↓rY,yal hk',agC]
  refine ⟨by omega,hk',?_⟩
  refine dG _ _ (.sl 2 0 (nB l[k]).length) _ [.arr 1 ((nB l[k]).map by1)] (Ry l[k] hx) (by simp [aF,aK,aU,bG,wkL,wk,wkR,fG]) (by simp [ren]) (by simp [bX]) trivial ?_
  have tk2:yae (nB l[k]).length (yad by1 (nB l[k]))=yad by1 (nB l[k]):=yac (by rw [yaj];exact yab _)
  simp -implicitDefEqProofs only [rX,↓rY,aA,↓reduceIte,Nat.reduceEqDiff,Nat.reduceAdd,reduceCtorEq,bP,bF,kill,bU,St.kill,aM,aG,yai,tk,tk2]
  refine ⟨.inr trivial,by omega,⟨by simp only [lo];omega,by simp only [Fx.hi];omega⟩,hN _ (k+1) (by omega) (by omega) ?_⟩
  exact ⟨by simp -implicitDefEqProofs only [rX,↓reduceIte,Nat.reduceEqDiff,leE,Ho hk'];rfl,⟨by rw [Ho hk',yak];exact aH _,trivial⟩,trivial,by simp -implicitDefEqProofs only [rX,aB,wfE,wfV,wfL],by simp -implicitDefEqProofs only [wfB]⟩
 | false =>
  have h1':=of_decide_eq_false h1
  have:k=l.length:=by omega
  subst this
  simp -implicitDefEqProofs only [rX,↓rY,↓reduceIte,aQ,aT,leH,leB,aE,aB,wfB,wfV,Nat.reduceLeDiff,cA,Es]
theorem adX (l:List Int) (hl:In64 l) (hn:l.length≤1000000000000):Ok 72 [bI l] (IsA (.sl 0 0 (lB l).length) [.arr 1 ((lB l).map by1)]):=by
 refine ok_of lw72 (by simp) ?_
 unfold c72
 simp -implicitDefEqProofs only [rX,aA,↓reduceIte,reduceCtorEq,aN]
 refine dG _ _ (.sl 0 0 (lB l).length) _ [.arr 1 ((lB l).map by1)] (afG l hl hn) (by simp [aF,aK,aU,bG,wkL,wk,wkR,wkB]) (by simp [ren]) (by simp [bX]) trivial ?_
 simp -implicitDefEqProofs only [rX,↓reduceIte,aQ,aT,leH,leB,aE,aB,wfB,wfV,Nat.reduceLeDiff,cA]
set_option maxHeartbeats 1000000 in
theorem adW (l:List Int) (hl:In64 l) (hn:l.length≤1000000000000):Ok 76 [bI l] (IsA (.sl 0 0 (lB l).length) [.arr 1 ((lB l).map by1)]):=by
 refine ok_of lw76 (by simp) ?_
 unfold c76
 simp -implicitDefEqProofs only [rX,↓rY,aA,↓reduceIte,reduceCtorEq,aN]
 intro _
 refine dG _ _ (.sl 0 0 (nB l.length).length) _ [.arr 1 ((nB l.length).map by1)] (Rx (l.length:Int) (by omega)) (by simp [aF,aK,aU,bG,wkL,wk,wkR,fG]) (by simp [ren]) (by simp [bX]) trivial ?_
 simp -implicitDefEqProofs only [rX,aA,↓reduceIte,aG]
 refine bN (fun k:Nat=>(⟨[(4,.i k),(0,bI l),(3,.sl 0 0 (lBk l k).length)],[.arr 1 ((lBk l k).map by1)],0⟩:St)) (fun k=>k≤l.length) (fun k=>l.length-k) 0 (yam _) ?_ ?_
 ·exact ⟨by simp -implicitDefEqProofs only [rX,↓reduceIte,Nat.reduceEqDiff,reduceCtorEq,leE,Hp];rfl,⟨by rw [Hp];exact aH _,trivial⟩,trivial,by simp -implicitDefEqProofs only [rX,aB,wfE,wfV],by simp -implicitDefEqProofs only [wfB]⟩
 intro k hk N hN
 have hbl:=xL hl hn hk
 have tk:yae (lBk l k).length (yad by1 (lBk l k))=yad by1 (lBk l k):=yac (by rw [yaj];exact yab _)
 simp only [c76l0]
 simp -implicitDefEqProofs only [rX,↓rY,↓reduceIte,Nat.reduceEqDiff,reduceCtorEq,yag,yaa]
 intro _
 cases h1:decide ((k:Int)<(l.length:Int)) with
 | true =>
  have h1':=of_decide_eq_true h1
  have hk':k<l.length:=by omega
  have hx:=hl _ (yax hk')
  have hb2:=rQ hx
  simp -implicitDefEqProofs only [↓rY,yal hk',agC]
  refine ⟨by omega,hk',?_⟩
  refine dG _ _ (.sl 2 0 (nB l[k]).length) _ [.arr 1 ((nB l[k]).map by1)] (Rx l[k] hx) (by simp [aF,aK,aU,bG,wkL,wk,wkR,fG]) (by simp [ren]) (by simp [bX]) trivial ?_
  have tk2:yae (nB l[k]).length (yad by1 (nB l[k]))=yad by1 (nB l[k]):=yac (by rw [yaj];exact yab _)
  simp -implicitDefEqProofs only [rX,↓rY,aA,↓reduceIte,Nat.reduceEqDiff,Nat.reduceAdd,reduceCtorEq,bP,bF,kill,St.kill,aM,aG,yai,tk,tk2]
  refine ⟨.inr trivial,by omega,⟨by simp only [lo];omega,by simp only [Fx.hi];omega⟩,hN _ (k+1) (by omega) (by omega) ?_⟩
  exact ⟨by simp -implicitDefEqProofs only [rX,↓reduceIte,Nat.reduceEqDiff,reduceCtorEq,leE,Ho hk'];rfl,⟨by rw [Ho hk',yak];exact aH _,trivial⟩,trivial,by simp -implicitDefEqProofs only [rX,aB,wfE,wfV],by simp -implicitDefEqProofs only [wfB]⟩
 | false =>
  have h1':=of_decide_eq_false h1
  have:k=l.length:=by omega
  subst this
  simp -implicitDefEqProofs only [rX,↓rY,↓reduceIte,aQ,aT,leH,leB,aE,aB,wfB,wfV,Nat.reduceLeDiff,cA,Es]
set_option maxRecDepth 20000
def sqL:LCode→LCode
 | .seq a _=>a
 | x=>x
def sqR:LCode→LCode
 | .seq _ b=>b
 | x=>x
def s1 (t:Bs):List V:=[sv t]
theorem adE {t:Bs}:(s1 t)[0]?=some (sv t):=rfl
abbrev bS (l:List Bs):V:=.bro 1 (l.map s1)
def inK (k:Int) (l:List Bs) (n:Nat):Bs:=UInt8.ofNat (k%256).toNat::((l.take n).map tB).flatten
theorem Hs {k:Int} {l:List Bs} {n:Nat} (h:n<l.length):inK k l (n+1)=inK k l n++tB l[n]:=by
 unfold inK
 rw [←ybN h,yak,ybB,yaI]
 simp
theorem Eu {k:Int} {l:List Bs}:inK k l l.length=inB k l:=by simp [inK,inB]
theorem Zb {k:Int} {l:List Bs}:inK k l 0=[UInt8.ofNat (k%256).toNat]:=by simp [inK]
theorem Su {k:Int} {l:List Bs}:∀ (d n:Nat),n+d=l.length→(inK k l n).length≤(inB k l).length
 | 0,n,h=>by rw [←Eu,←h];exact yab _
 | d+1,n,h=>by
  refine ybP ?_ (Su d (n+1) (by omega))
  rw [Hs (by omega),yaf];omega
theorem Ht {k:Int} {l:List Bs} {n:Nat} (h:n<l.length):(inK k l n).length+(tB l[n]).length≤(inB k l).length∧l[n].length≤(inB k l).length:=by
 have:=Su (k:=k) (l:=l) (l.length-(n+1)) (n+1) (by omega)
 rw [Hs h,yaf] at this
 refine ⟨this,ybP ?_ (ybP (Nat.le_add_left _ _) this)⟩
 simp [tB]
attribute [irreducible] inK
theorem rU {k:Int} {l:List Bs}:(fT k l).length=16:=by unfold fT;rw [yaE,iZ];rfl
def c70r:LCode:=sqR (sqR c70)
theorem c70_eq:c70=.seq (sqL c70) (.seq (sqL (sqR c70)) c70r):=rfl
theorem Zg {k:Int}:IntKind.u8.wrap k=((UInt8.ofNat (k%256).toNat).toNat:Int):=by rw [Fw,UInt8.toNat_ofNat'];omega
set_option maxHeartbeats 2000000 in
theorem agV (k:Int) (l:List Bs) (hB:(inB k l).length≤1000000000000) (S:Stm) (hS:Rp S (inK k l 0)) (els:List (List V)) (e:Env) (b:Nat) (h1:get e 1=bS l) (h4:get e 4=.ptr 0 0 0) (h5:get e 5=.ptr 2 0 0) :
  aw (cxN Tryz.prog []) c70r (eU [] 0 [hJ.cell 4 (some 16)] (Is (.agg (us (fT k l))))) (fun _ _=>False) (eU [] 0 [hJ.cell 4 (some 16)] (Is (.agg (us (fT k l))))) ⟨e,[.var (us z16),.arr 1 els,.var S.enc],b⟩:=by
 unfold c70r
 simp -implicitDefEqProofs only [rX,↓rY,c70,sqR,aA,↓reduceIte,Nat.reduceAdd,aG,h1]
 intro hml
 simp only [maxLen] at hml
 refine bN (fun g:Nat × Stm=>(⟨[(17,.i g.1),(16,.i l.length),(15,bS l),(5,.ptr 2 0 0),(4,.ptr 0 0 0)],[.var (us z16),.dead,.var (sC g.2.st g.2.blk g.2.n)],3⟩:St)) (fun g=>g.1≤l.length∧Rp g.2 (inK k l g.1)) (fun g=>l.length-g.1) (0,S) ⟨yam _,hS⟩ ?_ ?_
 ·exact ⟨by simp -implicitDefEqProofs only [rX,↓reduceIte,Nat.reduceEqDiff,leE,h4,h5];rfl,⟨aH _,trivial,aH _,trivial⟩,trivial,by simp -implicitDefEqProofs only [rX,aB,wfE,wfV],by simp -implicitDefEqProofs only [rX,wfB,lF,cY]⟩
 rintro ⟨n,S⟩ ⟨hn,hS⟩ N hN
 simp only at hn hS
 have hl:=hS.len
 simp only [c70l0]
 simp -implicitDefEqProofs only [rX,↓rY,rdK,↓reduceIte,Nat.reduceEqDiff,Nat.reduceAdd,yag,yaa,aG]
 cases h1:decide ((n:Int)<(l.length:Int)) with
 | true =>
  have h1':=of_decide_eq_true h1
  have hn':n<l.length:=by omega
  simp -implicitDefEqProofs only [rX,↓rY,yal hn',adE,lS hl,eT hl]
  have hp:=Ht (k:=k) hn'
  refine ⟨by omega,hn',?_⟩
  refine dG _ _ (.sl 4 0 (tB l[n]).length) _ [.dead,.arr 1 ((tB l[n]).map by1)] (ajC l[n] (by omega)) (by simp [aF,aK,aU,bG,wkL,wk,wkR,fG]) (by simp [ren]) (by simp [bX]) trivial ?_
  have tk:yae (tB l[n]).length (yad by1 (tB l[n]))=yad by1 (tB l[n]):=yac (by rw [yaj];exact yab _)
  simp -implicitDefEqProofs only [rX,↓rY,↓reduceIte,Nat.reduceEqDiff,aG,tk,f6,vH]
  refine ⟨.inr trivial,?_⟩
  refine tQ _ _ _ (aaP S _ (tB l[n]) hS (by omega)) ⟨⟨(dC _ i3).1,trivial,trivial⟩,(dC _ i3).2,rfl,trivial⟩ (fun g=>by simp only [ren,Stm.enc,xE]) trivial ?_
  intro S' hS'
  have hl':=hS'.len
  simp -implicitDefEqProofs only [rX,↓rY,aA,cells?,splice,↓reduceIte,Nat.reduceEqDiff,Nat.reduceAdd,aG,Stm.enc,lS hl',eT hl',Vx,eT hl,yJ hl]
  rw [←Hs hn'] at hS'
  refine ⟨⟨by simp only [lo];omega,by simp only [Fx.hi];omega⟩,hN _ (n+1,S') ⟨by simp only;omega,hS'⟩ (by simp only;omega) ?_⟩
  exact ⟨by simp -implicitDefEqProofs only [rX,↓reduceIte,Nat.reduceEqDiff,leE];rfl,⟨aH _,trivial,aH _,trivial⟩,trivial,by simp -implicitDefEqProofs only [rX,aB,wfE,wfV],by simp -implicitDefEqProofs only [rX,wfB,lF,cY]⟩
 | false =>
  have h1':=of_decide_eq_false h1
  have:n=l.length:=by omega
  subst this
  rw [Eu] at hS
  simp -implicitDefEqProofs only [rX,↓rY,lS hl,eT hl]
  refine aD (ajB S _ hS (by omega)) ⟨⟨(dC _ i3).1,trivial⟩,(dC _ i3).2,trivial⟩ (by simp [ren,gB]) trivial ?_
  have tks:(us (sha (inB k l))).take 32=us (sha (inB k l)):=yac (by rw [fN,iZ];exact yab _)
  have dz:(us z32).drop 32=[]:=yaz (by rw [fN,lN];exact yab _)
  simp -implicitDefEqProofs only [rX,↓rY,aA,cells?,splice,↓reduceIte,Nat.reduceEqDiff,Nat.reduceAdd,aC,dR,aQ,aT,wfV,Nat.reduceLT,Nat.reduceLeDiff,aM,w32,fN,xY,iZ,lN,dz]
  have h16:yae 16 (yaH (Int.toNat 0) (us (sha (inB k l))))=us (fT k l):=by rw [show Int.toNat 0=0 from rfl,yaO,Vo];rfl
  have l16:=rU (k:=k) (l:=l)
  have dz6:(us z16).drop 16=[]:=yaz (by rw [fN,hU];exact yab _)
  have tk3:(us (fT k l)).take 16=us (fT k l):=yac (by rw [fN,l16];exact yab _)
  rw [h16,fN,l16,dz6,yap,tk3,hU]
  exact ⟨⟨⟨by omega,by omega⟩,by omega,by omega⟩,by decide,by decide,rfl,xY,by omega,by simp,cY,rfl⟩
set_option maxHeartbeats 4000000 in
theorem ajU (k:Int) (l:List Bs) (hB:(inB k l).length≤1000000000000):Ok 70 [.i k,bS l] (Is (.agg (us (fT k l)))):=by
 refine ok_of lw70 (by simp) ?_
 have t73:∀ {S:Stm},Rp S (inK k l 0)→(S.enc).length=73∧(S.enc).take 73=S.enc∧S.enc.all isC=true:=fun {S} h=>⟨eT h.len,lS h.len,Vx⟩
 have d73:(yad V.v pV.toList).drop 73=[]:=rfl
 have hd:UInt8.ofNat (k%256).toNat::[]=inK k l 0:=Zb.symm
 have by0:by1 (UInt8.ofNat (k%256).toNat)=[V.v (.int .u8 ((UInt8.ofNat (k%256).toNat).toNat:Int))]:=rfl
 have bo:bytesOf [[V.v (.int .u8 ((UInt8.ofNat (k%256).toNat).toNat:Int))]]=some (inK k l 0):=by rw [←hd,←by0];exact f6 [_]
 have i0:(inK k l 0).length=1:=by rw [←hd];rfl
 have o97:Ok 97 [.agg S0.enc,sv (inK k l 0)] (IsQ (fun S'=>Rp S' (inK k l 0)) (fun S'=>.agg S'.enc) (fun _=>[])):=by
  have:=aaP S0 [] (inK k l 0) rp0 (by rw [i0];decide)
  simpa using this
 rw [c70_eq]
 simp -implicitDefEqProofs only [rX,↓rY,c70,sqL,sqR,aA,cells?,↓reduceIte,Nat.reduceEqDiff,Nat.reduceAdd,reduceCtorEq,aC,bZ,isD,Nat.reduceLT,aG,aN,w16,Zg,bo,vH]
 repeat' first
  | exact agV k l hB _ (by assumption) _ _ _ rfl rfl rfl
  | refine And.intro ?_ ?_
  | (refine aD ajD ⟨trivial,trivial⟩ (by simp only [ren,Stm.enc,xE]) trivial ?_
     simp -implicitDefEqProofs only [rX,↓rY,aA,cells?,↓reduceIte,Nat.reduceEqDiff,Nat.reduceAdd,reduceCtorEq,aC,bZ,isD,Nat.reduceLT,aG,bo,vH])
  | (refine tQ _ _ _ o97 ⟨⟨(dC _ i3).1,trivial,trivial⟩,(dC _ i3).2,rfl,trivial⟩ (fun g=>by simp only [ren,Stm.enc,xE]) trivial ?_
     intro S hS
     simp -implicitDefEqProofs only [rX,↓rY,aA,cells?,splice,↓reduceIte,Nat.reduceEqDiff,Nat.reduceAdd,aC,aG,Pr,d73,(t73 hS).1,(t73 hS).2.1,(t73 hS).2.2])
set_option maxRecDepth 20000
set_option maxHeartbeats 1000000 in
theorem afE (k:Int) (l:List Bs) (hB:(inB k l).length≤1000000000000):Ok 107 [.i k,bS l] (IsA (.sl 0 0 (inB k l).length) [.arr 1 ((inB k l).map by1)]):=by
 refine ok_of lw107 (by simp) ?_
 unfold c107
 have hd:UInt8.ofNat (k%256).toNat::[]=inK k l 0:=Zb.symm
 have by0:by1 (UInt8.ofNat (k%256).toNat)=[V.v (.int .u8 ((UInt8.ofNat (k%256).toNat).toNat:Int))]:=rfl
 have i0:(inK k l 0).length=1:=by rw [←hd];rfl
 simp -implicitDefEqProofs only [rX,↓rY,aA,cells?,↓reduceIte,reduceCtorEq,aC,bZ,isD,Nat.reduceLT,aG,aN,Zg]
 refine bN (fun n:Nat=>(⟨[(6,.i n),(1,bS l),(5,.sl 0 0 (inK k l n).length)],[.arr 1 ((inK k l n).map by1)],0⟩:St)) (fun n=>n≤l.length) (fun n=>l.length-n) 0 (yam _) ?_ ?_
 ·exact ⟨by simp -implicitDefEqProofs only [rX,↓reduceIte,Nat.reduceEqDiff,reduceCtorEq,leE,i0];rfl,⟨by rw [←hd];exact aH _,trivial⟩,trivial,by simp -implicitDefEqProofs only [rX,aB,wfE,wfV],by simp -implicitDefEqProofs only [wfB]⟩
 intro n hn N hN
 have tk:yae (inK k l n).length (yad by1 (inK k l n))=yad by1 (inK k l n):=yac (by rw [yaj];exact yab _)
 simp only [c107l0]
 simp -implicitDefEqProofs only [rX,↓rY,↓reduceIte,Nat.reduceEqDiff,yag,yaa]
 intro hml
 simp only [maxLen] at hml
 cases h1:decide ((n:Int)<(l.length:Int)) with
 | true =>
  have h1':=of_decide_eq_true h1
  have hn':n<l.length:=by omega
  have hp:=Ht (k:=k) hn'
  simp -implicitDefEqProofs only [↓rY,yal hn',adE]
  refine ⟨by omega,hn',?_⟩
  refine dG _ _ (.sl 3 0 (tB l[n]).length) _ [.dead,.arr 1 ((tB l[n]).map by1)] (aeU l[n] (by omega)) (by simp [aF,aK,aU,bG,wkL,wk,wkR,fG]) (by simp [ren]) (by simp [bX]) trivial ?_
  have tk2:yae (tB l[n]).length (yad by1 (tB l[n]))=yad by1 (tB l[n]):=yac (by rw [yaj];exact yab _)
  simp -implicitDefEqProofs only [rX,↓rY,aA,↓reduceIte,Nat.reduceEqDiff,Nat.reduceAdd,reduceCtorEq,bP,bF,kill,St.kill,aM,aG,yai,tk,tk2]
  refine ⟨.inr trivial,by omega,⟨by simp only [lo];omega,by simp only [Fx.hi];omega⟩,hN _ (n+1) (by omega) (by omega) ?_⟩
  exact ⟨by simp -implicitDefEqProofs only [rX,↓reduceIte,Nat.reduceEqDiff,leE,Hs hn'];rfl,⟨by rw [Hs hn',yak];exact aH _,trivial⟩,trivial,by simp -implicitDefEqProofs only [rX,aB,wfE,wfV],by simp -implicitDefEqProofs only [wfB]⟩
 | false =>
  have h1':=of_decide_eq_false h1
  have:n=l.length:=by omega
  subst this
  simp -implicitDefEqProofs only [rX,↓rY,↓reduceIte,aQ,aT,leH,leB,aE,aB,wfB,wfV,Nat.reduceLeDiff,cA,Eu]
set_option maxHeartbeats 1000000 in
theorem ajS (k:Int) (l:List Bs) (hB:(inB k l).length≤1000000000000):Ok 75 [.i k,bS l] (Is (.agg (us (fT k l)))):=by
 refine ok_of lw75 (by simp) ?_
 unfold c75
 simp -implicitDefEqProofs only [rX,↓rY,aA,cells?,↓reduceIte,Nat.reduceEqDiff,reduceCtorEq,aC,aN,w16]
 refine dG _ _ (.sl 1 0 (inB k l).length) _ [.arr 1 ((inB k l).map by1)] (afE k l hB) (by simp [aF,aK,aU,bG,wkL,wk,wkR,wkB]) (by simp [ren]) (by simp [bX]) trivial ?_
 simp -implicitDefEqProofs only [rX,↓reduceIte]
 refine aD (afF (inB k l) (by omega)) ⟨⟨by show _≤ybQ _;rw [yaj];exact Nat.le_of_eq (yay _),trivial⟩,⟨rfl,yac (by simp)⟩,trivial⟩ (by simp [ren,gB]) trivial ?_
 have l16:=rU (k:=k) (l:=l)
 have hh:yae 16 (sha (inB k l))=fT k l:=rfl
 have dz6:(us z16).drop 16=[]:=yaz (by rw [fN,hU];exact yab _)
 have tk3:(us (fT k l)).take 16=us (fT k l):=yac (by rw [fN,l16];exact yab _)
 simp -implicitDefEqProofs only [rX,↓rY,cells?,splice,↓reduceIte,Nat.reduceEqDiff,aQ,aT,wfV,aM,fN,xY,hU,hh,l16,tk3,dz6,cY]
set_option maxRecDepth 20000
theorem cal {f:FuncId} {fn:Func} (h:Tryz.prog.funcs[f]?=some fn) (h1:(fn.name == "runtime.NumGoroutine")=false) (h2:fn.body.isNone=false):iM Tryz.prog f:=⟨fn,h,h1,h2⟩
def s1L (l:List Bs):List V:=[.ro 1 (l.map s1)]
theorem Yh {l:List Bs}:(s1L l)[0]?=some (.ro 1 (l.map s1)):=rfl
set_option maxHeartbeats 1000000 in
theorem agE (w:World):Calls Tryz.prog 100 #[.slice none 0 0,.int .i64 0] w fun e w'=>e=.returned (.slice none 0 0)∧w'=w:=by
 go_enter Tryz.func100,Tryz.ntmps100
 go_wp2
 go_ret
 exact ⟨rfl,rfl⟩
set_option maxHeartbeats 1000000 in
theorem agD (n:Nat) (h0:0<n) (hn:n≤4398046511104) (w:World):Calls Tryz.prog 100 #[.slice none 0 0,.int .i64 n] w fun e w'=>∃ G row,n≤G∧G≤9223372036854775807∧row.size=G∧e=.returned (.slice (some ⟨w.heap.size,0,none⟩) 0 G)∧w'=w.drew.alloc (.cells row 9):=by
 have hi0:Tryz.prog.info? 9=some Tryz.t9:=by kernel_rfl
 have hz0:Tryz.t9.zero=some (.string ⟨#[]⟩):=by kernel_rfl
 have hs:Tryz.t9.size=1:=by kernel_rfl
 have hb:Tryz.t9.bytes=16:=by kernel_rfl
 have hold:(Builtin.firstCells Tryz.t9.size 0 (.slice none 0 0)).run Tryz.prog w.drew=.ok ([]:List Value).toArray w.drew:=run_firstCells_none w.drew _ 0 0 0
 have hrz:∀ ty,_:=fun ty=>Lib.run_append_grow_zeros w 93 3 ty 9 Tryz.t9 _ .i64 .i64 Tryz.underlying93 Tryz.underlying3 hi0 hz0 none 0 0 [] hold n (by omega) (by omega) (by omega) (by omega) (by rw [hb];omega) (by rw [hb];exact growslice_fits (by omega) (by omega))
 simp only [yay] at hrz
 obtain ⟨G,hG⟩:∃ G,G=grownCap w n 0 9:=⟨_,rfl⟩
 have hGn:n≤G:=by rw [hG];exact grownCap_ge w _ _ _
 have hG63:G≤9223372036854775807:=by
  have:=grownCap_le_maxLen w n 0 9 (by unfold maxLen;omega)
  rw [←hG] at this
  unfold maxLen at this
  omega
 rw [←hG] at hrz
 generalize hrow:(([]:List Value).toArray++Builtin.zeroCells (Value.string ⟨#[]⟩).cells n++Builtin.zeroCells (Value.string ⟨#[]⟩).cells (G-n))=row at hrz
 have hsz:row.size=G:=by
  rw [←hrow]
  simp [Builtin.zeroCells,Value.cells]
  omega
 clear hold hG hrow
 have h1:¬((n:Int)<0):=by omega
 have h4:(n:Int)-(0-0)>0:=by omega
 have e4:(n:Int)-(0-0)=n:=by omega
 go_enter Tryz.func100,Tryz.ntmps100
 go_wp2_with (at_builtin;refine Lib.wpList_append_run _ rfl _ _ _ _ rfl _ _ rfl rfl _ _ (hrz _) ?_)
 all_goals (go_ret;exact ⟨G,hGn,hG63,row,hsz,rfl,rfl⟩)
theorem afH (n:Nat) (hn:n≤4398046511104):Ok 100 [.nil,.i n] (IsA (.sl 0 0 0) [.arr 1 []]):=by
 refine ⟨cal Tryz.func100 (by kernel_rfl) (by kernel_rfl),?_⟩
 intro ρ X w vals hr ha
 match vals,ha with
 | [v0,v1],⟨h0,h1,_⟩ =>
 have h0':v0=.slice none 0 0:=h0
 have h1':v1=.int .i64 n:=h1
 subst h0' h1'
 have hno:∀ k,(ρ k).real=false:=fun k=>hr.out k (yam _)
 have hown:∀ b,¬Own ρ b:=by
  rintro b ⟨k,hk,_⟩
  rw [hno k] at hk;cases hk
 rcases Nat.eq_zero_or_pos n with rfl|hp
 ·refine (agE w).mono ?_
  rintro e w' ⟨rfl,rfl⟩
  have hno':∀ k,(({ ρ 0 with sz:=1 }:Loc) |> fun L=>if k=0 then L else ρ k).real=false:=by
   intro k
   show (if k=0 then _ else ρ k:Loc).real=false
   split
   ·exact hno 0
   ·exact hno k
  refine ⟨_,.sl 0 0 0,[.arr 1 []],fun k=>if k=0 then { ρ 0 with sz:=1 } else ρ k,rfl,⟨⟨rfl,rfl⟩,yam _⟩,⟨rfl,rfl,rfl,yab _,fun b hb ho=>⟨rfl,?_⟩⟩,⟨fun j k _ h=>?_,fun k _=>hno' k,fun k b hb=>?_,?_,fun k h=>?_,hr.xlt⟩,⟨0,yab _,yam _,.inl ⟨rfl,_,rfl⟩⟩,fun k hk=>absurd hk (Nat.not_lt_zero _)⟩
  ·rintro ⟨k,hk,_⟩
   have:=hno' k
   simp only at this
   rw [this] at hk;cases hk
  ·have:=hno' j
   simp only at this
   rw [this] at h;cases h
  ·cases k with
   | succ k=>simp at hb
   | zero =>
    simp only [yav,Option.some.injEq] at hb
    subst hb
    exact ⟨⟨rfl,by decide⟩,.inl ⟨hno 0,rfl⟩⟩
  ·rintro b ⟨k,hk,_⟩
   have:=hno' k
   simp only at this
   rw [this] at hk;cases hk
  ·have:=hno' k
   simp only at this
   rw [this] at h;cases h
 ·refine (agD n hp hn w).mono ?_
  rintro e w' ⟨G,row,g1,g2,g3,rfl,rfl⟩
  have hsize:(w.drew.alloc (.cells row 9)).heap.size=w.heap.size+1:=Array.size_push ..
  have hold:∀ b,b<w.heap.size→(w.drew.alloc (.cells row 9)).heap[b]?=w.heap[b]?:=by
   intro b hb
   simp only [World.alloc,World.drew]
   rw [Array.getElem?_push_lt (by simpa using hb),Array.getElem?_eq_getElem (by simpa using hb)]
  have hnew:(w.drew.alloc (.cells row 9)).heap[w.heap.size]?=some (.cells row 9 (0,0)):=by
   simp only [World.alloc,World.drew]
   simp
  let L0:Loc:={ ρ 0 with real:=true,blk:=w.heap.size,off:=0,sz:=1,room:=G }
  have hloc:∀ k,(if k=0 then L0 else ρ k:Loc).real=true→k=0:=by
   intro k hk
   by_cases h:k=0
   ·exact h
   ·rw [if_neg h,hno k] at hk;cases hk
  have hfr:Fr ρ w (fun k=>if k=0 then L0 else ρ k) (w.drew.alloc (.cells row 9)):=by
   refine ⟨rfl,rfl,rfl,by omega,fun b hb ho=>⟨hold b hb,?_⟩⟩
   rintro ⟨k,hk,hb2⟩
   have:=hloc k hk
   subst this
   simp only [if_pos] at hb2
   have:w.heap.size=b:=hb2
   omega
  refine ⟨_,.sl 0 0 0,[.arr 1 []],fun k=>if k=0 then L0 else ρ k,rfl,⟨⟨rfl,rfl⟩,yam _⟩,hfr,⟨fun j k hjk h1 h2=>?_,fun k hk=>?_,fun k b hb=>?_,?_,fun k h=>?_,hr.xfr hfr⟩,⟨G,yam _,by unfold maxLen;omega,.inr ⟨rfl,by simp [L0],by simp [L0]⟩⟩,fun k hk=>absurd hk (Nat.not_lt_zero _)⟩
  ·exact absurd ((hloc j h1).trans (hloc k h2).symm) hjk
  ·have:k≠0:=by simp at hk;omega
   simp only [if_neg this]
   exact hno k
  ·cases k with
   | succ k=>simp at hb
   | zero =>
    simp only [yav,Option.some.injEq] at hb
    subst hb
    exact ⟨⟨rfl,by decide⟩,.inr ⟨rfl,row,9,hnew,g3,by simp [L0],trivial⟩⟩
  ·rintro b ⟨k,hk,hb2⟩ hX
   have:=hloc k hk
   subst this
   simp only [if_pos] at hb2
   have h3:w.heap.size=b:=hb2
   have:=hr.xlt.1 b hX
   omega
  ·have:=hloc k h
   subst this
   show w.heap.size<_
   omega
theorem Dd {L:List (List Bs)} {k:Nat} (h:k<L.length):(L.take (k+1)).flatten=(L.take k).flatten++L[k]:=by
 rw [List.take_add_one,yal h,ybB];simp
theorem xP {L:List (List Bs)} {k:Nat}:(L.take k).flatten.length≤L.flatten.length:=by
 conv=>rhs;rw [←ycc k L,ybB,yaf]
 omega
theorem ajT (L:List (List Bs)) (hL:L.flatten.length≤4398046511104):Ok 71 [.bro 1 (L.map s1L)] (IsA (.sl 0 0 L.flatten.length) [.arr 1 (L.flatten.map s1)]):=by
 refine ok_of lw71 (by simp) ?_
 unfold c71
 simp -implicitDefEqProofs only [rX,↓rY,aA,↓reduceIte,reduceCtorEq,aG,aN]
 intro hm
 refine bA (fun k:Nat=>⟨[(11,.i k),(10,.i L.length),(9,.bro 1 (L.map s1L)),(3,.i (L.take k).flatten.length),(0,.bro 1 (L.map s1L))],[],0⟩) (fun k=>k≤L.length) (fun k=>L.length-k) 0 (by omega) ?_ ?_
 ·simp -implicitDefEqProofs only [rX,↓reduceIte,Nat.reduceEqDiff,reduceCtorEq,leE,leH,aE,wfE,wfB,wfV,yaq,List.flatten_nil]
 rintro k hk
 have hle:=xP (L:=L) (k:=k)
 unfold c71l0
 simp -implicitDefEqProofs only [rX,↓rY,aA,↓reduceIte,Nat.reduceEqDiff,reduceCtorEq,leE,leH,aE,wfE,wfB,wfV,yag,yaa,Yh]
 simp only [br,decide_eq_true_eq,decide_eq_false_iff_not]
 refine ⟨fun h=>?_,fun h=>?_⟩
 ·have hk':k<L.length:=by omega
  have hle2:=xP (L:=L) (k:=k+1)
  have hf:=Dd hk'
  refine ⟨⟨by omega,h⟩,hk',?_⟩
  intro hm2
  have hfl:(L.take (k+1)).flatten.length=(L.take k).flatten.length+L[k].length:=by rw [hf,yaf]
  refine ⟨by simp only [lo,hi];omega,fun hneg=>absurd hneg (by omega),fun _=>⟨by simp only [lo,hi,maxLen] at *;omega,k+1,⟨by omega,by omega⟩,?_⟩⟩
  rw [hfl]
  simp
 ·rw [yac (by omega)]
  refine dG [.nil,.i L.flatten.length] (.sl 0 0 0) (.sl 0 0 0) [.arr 1 []] [.arr 1 []] (afH _ hL) ⟨⟨trivial,trivial,trivial⟩,rfl,rfl,trivial⟩ (by simp [ren]) (by simp [bX]) trivial ?_
  simp -implicitDefEqProofs only [rX,↓rY,aA,↓reduceIte,reduceCtorEq,aG]
  intro hm2
  refine bA (fun k:Nat=>⟨[(27,.i k),(26,.i L.length),(25,.bro 1 (L.map s1L)),(6,.sl 0 0 (L.take k).flatten.length)],[.arr 1 ((L.take k).flatten.map s1)],0⟩) (fun k=>k≤L.length) (fun k=>L.length-k) 0 (by omega) ?_ ?_
  ·simp -implicitDefEqProofs only [rX,↓reduceIte,Nat.reduceEqDiff,leE,leH,leB,aE,aB,wfE,wfB,wfV,yaq,List.flatten_nil]
  rintro k hk
  have hle:=xP (L:=L) (k:=k)
  unfold c71l1
  simp -implicitDefEqProofs only [rX,↓rY,aA,↓reduceIte,Nat.reduceEqDiff,Nat.reduceAdd,aQ,aT,leE,leH,leB,aE,aB,wfE,wfB,wfV,bP,bF,kill,St.kill,Nat.reduceLeDiff,yag,yaa,aM,aG,Yh,cA]
  simp only [br,decide_eq_true_eq,decide_eq_false_iff_not]
  refine ⟨fun h=>?_,fun h=>?_⟩
  ·have hk':k<L.length:=by omega
   have hle2:=xP (L:=L) (k:=k+1)
   have hf:=Dd hk'
   have hfl:(L.take (k+1)).flatten.length=(L.take k).flatten.length+L[k].length:=by rw [hf,yaf]
   refine ⟨⟨by omega,h⟩,hk',by simp,by omega,by simp only [lo,hi,maxLen] at *;omega,k+1,⟨by omega,by omega⟩,?_⟩
   have htk:yae (L.take k).flatten.length ((L.take k).flatten.map s1)=(L.take k).flatten.map s1:=yac (by rw [yaj];exact yab _)
   rw [htk,hfl,hf,yak]
   exact ⟨⟨by simp,rfl⟩,rfl⟩
  ·rw [yac (by omega)]
   exact ⟨rfl,rfl⟩
def Pa (fx:List Nat) (v:V) (r:List Nat) (s:St) (K:St→Prop):Prop :=
 match v with
 | .sl k _ _=>Fb fx k (blk s.h k) s fun s'=>nV fx r s' K
 | _=>nV fx r s K
theorem Ey {fx:List Nat} {s:St} {K:St→Prop}:nV fx [] s K=K s:=rfl
theorem Ez {fx:List Nat} {x:Nat} {r:List Nat} {e:Env} {h:List Blk} {b:Nat} {K:St→Prop}:nV fx (x::r) ⟨e,h,b⟩ K=Pa fx (get e x) r ⟨e,h,b⟩ K:=rfl
theorem abK {fx:List Nat} {k i n:Nat} {r:List Nat} {e:Env} {h:List Blk} {b:Nat} {K:St→Prop}:Pa fx (.sl k i n) r ⟨e,h,b⟩ K=Fb fx k (blk h k) ⟨e,h,b⟩ fun s'=>nV fx r s' K:=rfl
theorem abM {fx:List Nat} {k sz:Nat} {els:List (List V)} {e:Env} {h:List Blk} {b:Nat} {K:St→Prop}:Fb fx k (.arr sz els) ⟨e,h,b⟩ K=(k∉fx∧K ⟨Fa k sz els e,(h.map (tK k sz els)).set k .dead,b⟩):=rfl
@[congr] theorem alW {fx:List Nat} {v v':V} {r:List Nat} {s:St} {K:St→Prop} (q:v=v'):Pa fx v r s K=Pa fx v' r s K:=by rw [q]
@[congr] theorem alY {fx:List Nat} {k:Nat} {B B':Blk} {s:St} {K:St→Prop} (q:B=B'):Fb fx k B s K=Fb fx k B' s K:=by rw [q]
@[congr] theorem alX {fx xs:List Nat} {s s':St} {K:St→Prop} (q:s=s'):nV fx xs s K=nV fx xs s' K:=by rw [q]
theorem s7 {cx:Cx} {e:Env} {h:List Blk} {b:Nat} {K:V→St→Prop} {xs:List Nat} {j sz n:Nat} {z:List Value} {ps:List (Nat × Operand)}:aOp cx (.litsf xs j sz n z ps) ⟨e,h,b⟩ K =
  nV (cx.fx++cx.bn) xs ⟨e,h,b⟩ fun s=>bZ s.e sz (yao n (z.map .v)) ps fun els=>aC s.h (s.b+j)∧K (.sl (s.b+j) 0 n) { s with h:=s.h.set (s.b+j) (.arr sz els) }:=rfl
theorem abL {fx:List Nat} {k:Nat} {l:List (List V)} {r:List Nat} {s:St} {K:St→Prop}:Pa fx (.ro k l) r s K=nV fx r s K:=rfl
theorem Kl {fx:List Nat} {l:List V} {r:List Nat} {s:St} {K:St→Prop}:Pa fx (.agg l) r s K=nV fx r s K:=rfl
set_option maxRecDepth 20000
structure Ky where
 party:Int
 serial:Int
 sec:Bs
 fr:Int
 to:Int
def Ky.enc (k:Ky):List V:=[.i k.party,.i k.serial,sv k.sec,.i k.fr,.i k.to]
theorem o9 {k:Ky}:k.enc.length=5:=rfl
theorem lX {k:Ky}:yae 5 k.enc=k.enc:=rfl
theorem akZ {k:Ky}:k.enc[0]?=some (.i k.party):=rfl
theorem akY {k:Ky}:k.enc[1]?=some (.i k.serial):=rfl
theorem afV {k:Ky}:k.enc.all isC=true:=rfl
abbrev rS (l:List Bs):V:=.ro 1 (l.map s1)
def iO (k:Ky) (tag:Int) (l:List Bs):Bs:=fT tag (k.sec::(l++[k.sec]))
theorem dK {k:Ky} {tag:Int} {l:List Bs}:(iO k tag l).length=16:=rU
def Up (k:Ky) (l:List Bs):Prop:=(inB 0 (k.sec::(l++[k.sec]))).length≤1000000000000∧l.length≤1000000
theorem Na {a b:Int} {l:List Bs}:(inB a l).length=(inB b l).length:=rfl
theorem Dw {l:Bs} (h:l.length=16):(us l).length=16∧(us l).take 16=us l∧(us l).drop 16=[]:=⟨by rw [fN,h],yac (by rw [fN,h];exact yab _),yaz (by rw [fN,h];exact yab _)⟩
theorem Gd {k n:Nat} {els:List (List V)}:∀ l:List V,(∀ x∈l,∃ u,x=.v u)→tJ k n els l=l
 | [],_=>rfl
 | x::r,h=>by
  obtain ⟨u,rfl⟩:=h x yaY
  show V.v u::tJ k n els r=_
  rw [Gd r fun y hy=>h y (yaZ _ hy)]
theorem lQ {l:Bs}:∀ x∈us l,∃ u,x=V.v u:=by
 unfold us
 intro x hx
 obtain ⟨b,_,rfl⟩:=yba.1 hx
 exact ⟨_,rfl⟩
theorem aaA {k n:Nat} {els:List (List V)} {l:Bs}:tJ k n els (us l)=us l:=Gd _ lQ
set_option maxHeartbeats 1000000 in
theorem aeE (k:Ky) (tag:Int) (l:List Bs) (hS:Up k l):Ok 40 [.agg k.enc,.i tag,rS l] (Is (.agg (us (iO k tag l)))):=by
 refine ok_of lw40 (by simp) ?_
 unfold c40 Ky.enc
 simp -implicitDefEqProofs only [rX,↓rY,aA,cells?,↓reduceIte,Nat.reduceEqDiff,Nat.reduceAdd,reduceCtorEq,aC,bZ,isD,Nat.reduceLT,aM,aG,aN,w16,s7,Ey,Ez,abK,abL,abM,Fa,oO,tJ,tK,aaA]
 have hLf:[[k.sec],l,[k.sec]].flatten=k.sec::(l++[k.sec]):=by simp
 have hll:(k.sec::(l++[k.sec])).length=l.length+2:=by simp
 have h71:=ajT [[k.sec],l,[k.sec]] (by rw [hLf,hll];have:=hS.2;omega)
 rw [hLf] at h71
 refine dG [.bro 1 ([[k.sec],l,[k.sec]].map s1L)] _ (.sl 5 0 (k.sec::(l++[k.sec])).length) _ [.arr 1 ((k.sec::(l++[k.sec])).map s1)] h71 ⟨⟨yab 3,trivial⟩,⟨rfl,rfl⟩,trivial⟩ (by simp [ren]) (by simp [bX]) trivial ?_
 simp -implicitDefEqProofs only [rX,↓reduceIte,Nat.reduceEqDiff]
 refine aD (ajU tag (k.sec::(l++[k.sec])) (by rw [Na (b:=0)];exact hS.1)) ⟨⟨trivial,by show _≤ybQ _;simp,trivial⟩,rfl,⟨rfl,yac (by simp)⟩,trivial⟩ (by simp [ren,gB]) trivial ?_
 obtain ⟨u1,u2,u3⟩:=Dw (dK (k:=k) (tag:=tag) (l:=l))
 obtain ⟨z1,z2,z3⟩:=Dw hU
 have hh:fT tag (k.sec::(l++[k.sec]))=iO k tag l:=rfl
 simp -implicitDefEqProofs only [rX,↓rY,cells?,splice,↓reduceIte,Nat.reduceEqDiff,aQ,aT,wfV,aM,hh,u1,u2,z1,z3,xY,cY]
set_option maxHeartbeats 1000000 in
theorem akI (k:Ky) (tag:Int) (l:List Bs) (hS:Up k l):Ok 48 [.agg k.enc,.i tag,bS l] (Is (.agg (us (iO k tag l)))):=by
 refine ok_of lw48 (by simp) ?_
 unfold c48 Ky.enc
 simp -implicitDefEqProofs only [rX,↓rY,aA,cells?,↓reduceIte,Nat.reduceEqDiff,Nat.reduceAdd,reduceCtorEq,aC,bZ,bP,bF,kill,bU,St.kill,isD,Nat.reduceLT,aM,aG,aN,w16,sK]
 have hl2:=hS.2
 have tk:yae (1+l.length) ([V.v (Value.string (sb k.sec))]::yad s1 l)=(k.sec::l).map s1:=by
  rw [show ([V.v (Value.string (sb k.sec))]::yad s1 l)=(k.sec::l).map s1 from rfl,yac (by simp;omega)]
 rw [tk,show [[V.v (Value.string (sb k.sec))]]=[k.sec].map s1 from rfl,←yak,yaI]
 have hll:1+l.length+1=(k.sec::(l++[k.sec])).length:=by simp;omega
 refine ⟨.inr trivial,by omega,⟨by omega,by omega⟩,?_⟩
 rw [hll]
 refine aD (ajS tag (k.sec::(l++[k.sec])) (by rw [Na (b:=0)];exact hS.1)) ⟨⟨trivial,by show _≤ybQ _;simp,trivial⟩,rfl,⟨rfl,yac (by simp)⟩,trivial⟩ (by simp [ren,gB]) trivial ?_
 obtain ⟨u1,u2,u3⟩:=Dw (dK (k:=k) (tag:=tag) (l:=l))
 obtain ⟨z1,z2,z3⟩:=Dw hU
 have hh:fT tag (k.sec::(l++[k.sec]))=iO k tag l:=rfl
 simp -implicitDefEqProofs only [rX,↓rY,cells?,splice,↓reduceIte,Nat.reduceEqDiff,aQ,aT,wfV,aM,hh,u1,u2,z1,z3,xY,cY]
end Go.Fx.E
namespace Go.Fx.P
open Go Go.Fx Go.Fx.E Go.Proofs
structure Arc where
 from_:Int
 to:Int
 cap:Int
 cost:Int
 deriving Inhabited
def Arc.enc (a:Arc):List V:=[.i a.from_,.i a.to,.i a.cap,.i a.cost]
def encI (x:Int):List V:=[.i x]
def w6 (x:Bool):List V:=[.b x]
def net (n:Int) (arcs:List Arc):V:=.agg [.i n,.ro 4 (arcs.map Arc.enc)]
def li (l:List Int):V:=.ro 1 (l.map encI)
structure Fr where
 sent:Int
 cost:Int
 flow:List Int
 price:List Int
 cut:List Int
def Fr.enc (f:Fr):V:=.agg [.i f.sent,.i f.cost,li f.flow,li f.price,li f.cut]
structure tX where
 gate:Int
 origin:Int
 n:Int
 deriving Inhabited,DecidableEq
def tX.enc (a:tX):List V:=[.i a.gate,.i a.origin,.i a.n]
structure aJ where
 kind:Int
 num:Int
 cap:Int
 deriving Inhabited,DecidableEq
def aJ.enc (a:aJ):List V:=[.i a.kind,.i a.num,.i a.cap]
structure Road where
 from_:Int
 to:Int
 cap:Int
 cost:Int
 deriving Inhabited
def Road.enc (a:Road):List V:=[.i a.from_,.i a.to,.i a.cap,.i a.cost]
def sps (l:List aJ):V:=.ro 3 (l.map aJ.enc)
def rds (l:List Road):V:=.ro 4 (l.map Road.enc)
def bC (ps:List aJ) (rs:List Road):V:=.agg [sps ps,rds rs]
abbrev Ok (f:FuncId) (xs:List V) (R:V→List Blk→Prop):Prop:=OkN Tryz.prog f xs [] [] R
theorem ok_of {f:FuncId} {l0 l:LCode} {rs:List hJ} {nt:Nat} (hl:rlF Tryz.prog f l0=some (l,rs,nt)) {args:List V} {R:V→List Blk→Prop} (hlen:args.length≤nt)
  (h:aw (cxN Tryz.prog []) l (eU [] 0 rs R) (fun _ _=>False) (eU [] 0 rs R) ⟨aN 0 args,[],0⟩):Ok f args R :=
 eV pol [] hl hlen trivial (fun k hk=>by simp at hk) h
theorem enc_len (a:Arc):a.enc.length=4:=rfl
theorem fC (a:Arc):yae 4 a.enc=a.enc:=rfl
theorem oJ (a:Arc):a.enc[0]?=some (.i a.from_):=rfl
theorem oI (a:Arc):a.enc[1]?=some (.i a.to):=rfl
theorem p9 (a:Arc):a.enc[2]?=some (.i a.cap):=rfl
theorem vR (a:Arc):a.enc[3]?=some (.i a.cost):=rfl
theorem fR (a:Arc):a.enc.all isC=true:=rfl
theorem Fh (a:Arc):a.enc.all isD=true:=rfl
theorem Ld (a:tX):a.enc.length=3:=rfl
theorem Ft (a:tX):yae 3 a.enc=a.enc:=rfl
theorem acI (a:tX):a.enc[0]?=some (.i a.gate):=rfl
theorem acH (a:tX):a.enc[1]?=some (.i a.origin):=rfl
theorem acG (a:tX):a.enc[2]?=some (.i a.n):=rfl
theorem Lf (a:tX):a.enc.all isC=true:=rfl
theorem Le (a:tX):a.enc.all isD=true:=rfl
theorem nL (a:aJ):a.enc.length=3:=rfl
theorem iY (a:aJ):yae 3 a.enc=a.enc:=rfl
theorem sO (a:aJ):a.enc[0]?=some (.i a.kind):=rfl
theorem Qj (a:aJ):a.enc[1]?=some (.i a.num):=rfl
theorem w4 (a:aJ):a.enc[2]?=some (.i a.cap):=rfl
theorem oS (a:aJ):a.enc.all isC=true:=rfl
theorem Ji (a:aJ):a.enc.all isD=true:=rfl
theorem rM (a:Road):a.enc.length=4:=rfl
theorem nO (a:Road):yae 4 a.enc=a.enc:=rfl
theorem Jy (a:Road):a.enc[0]?=some (.i a.from_):=rfl
theorem Jx (a:Road):a.enc[1]?=some (.i a.to):=rfl
theorem Ol (a:Road):a.enc[2]?=some (.i a.cap):=rfl
theorem Oj (a:Road):a.enc[3]?=some (.i a.cost):=rfl
theorem uM (a:Road):a.enc.all isC=true:=rfl
theorem Jw (a:Road):a.enc.all isD=true:=rfl
theorem Bb (x:Int):(encI x).length=1:=rfl
theorem cM (x:Int):(encI x)[0]?=some (.i x):=rfl
theorem fJ (x:Int):yaH 1 (encI x)=[]:=rfl
theorem j5 (x:Bool):yaH 1 (w6 x)=[]:=rfl
theorem Bc (x:Bool):(w6 x).length=1:=rfl
theorem u4 (x:Bool):(w6 x)[0]?=some (.b x):=rfl
end Go.Fx.P
namespace Go.Fx.P
open Go Go.Fx Go.Fx.E Go.Proofs
set_option maxRecDepth 20000
theorem Eq:∀ h:List Blk,leH h h
 | []=>trivial
 | b::h=>by
  refine ⟨?_,Eq h⟩
  cases b<;>simp [leB]
  ·rename_i cs
   induction cs with
   | nil=>trivial
   | cons x cs ih=>exact ⟨by cases x<;>simp [leV],ih⟩
def lK (x:aJ):Prop:=(0≤x.cap∧x.cap≤1073741824)∧((x.kind=1∧0≤x.num∧x.num<64)∨((x.kind=2∨x.kind=3)∧1≤x.num∧x.num≤1073741824))
instance (x:aJ):Decidable (lK x):=by unfold lK;infer_instance
def gD (x:aJ):Bool:=decide (lK x)
theorem Cp {x:aJ} {t:Bool}:(t=true↔lK x)→t=gD x:=fun h=>by
 rw [Bool.eq_iff_iff,h];simp [gD]
theorem ajM (x:aJ):Ok 86 [.agg x.enc] (Is (.b (gD x))):=by
 refine ok_of lw86 (by simp) ?_
 unfold c86 aJ.enc
 simp -implicitDefEqProofs only [rX,↓rY,aA,cells?,↓reduceIte,Nat.reduceEqDiff,aC,aQ,aT,wfV,cxN,aN]
 simp only [br,decide_eq_true_eq,decide_eq_false_iff_not,beq_iff_eq,beq_eq_false_iff_ne]
 have e:∀ t:Bool,(t=true↔lK x)→t=gD x:=fun t=>Cp
 simp only [lK] at e
 repeat' (first|(refine ⟨(0:_),?_⟩)|(refine ⟨by omega,?_⟩)|(refine And.intro ?_ ?_)|(refine (fun _=>?_)))
 all_goals (apply e;first|omega|(simp only [yaQ,false_iff,decide_eq_true_eq];omega))
theorem ajX (x:aJ):Ok 67 [.agg x.enc] (Is (.b (gD x))):=by
 refine ok_of lw67 (by simp) ?_
 unfold c67 aJ.enc
 simp -implicitDefEqProofs only [rX,↓rY,aA,cells?,↓reduceIte,Nat.reduceEqDiff,aC,aQ,aT,wfV,cxN,aN]
 simp only [br,decide_eq_true_eq,decide_eq_false_iff_not,beq_iff_eq,beq_eq_false_iff_ne]
 have e:∀ t:Bool,(t=true↔lK x)→t=gD x:=fun t=>Cp
 simp only [lK] at e
 repeat' (first|(refine ⟨(0:_),?_⟩)|(refine ⟨by omega,?_⟩)|(refine And.intro ?_ ?_)|(refine (fun _=>?_)))
 all_goals (apply e;first|omega|(simp only [yaQ,false_iff,decide_eq_true_eq];omega))
def iT (ps:List aJ) (r:Road):Prop:=∃ (h1:0≤r.from_∧r.from_<ps.length) (h2:0≤r.to∧r.to<ps.length),r.from_≠r.to∧(0≤r.cap∧r.cap≤1073741824)∧(0≤r.cost∧r.cost≤1048576)∧(ps[r.from_.toNat]'(by omega)).kind≠3∧(ps[r.to.toNat]'(by omega)).kind≠1
open Classical in
noncomputable def nM (ps:List aJ) (r:Road):Bool:=decide (iT ps r)
theorem Nz {ps:List aJ} {x:Road} {t:Bool}:(t=true↔iT ps x)→t=nM ps x:=fun h=>by
 rw [Bool.eq_iff_iff,h];simp [nM]
theorem ajW (ps:List aJ) (rs:List Road) (r:Road):Ok 68 [bC ps rs,.agg r.enc] (Is (.b (nM ps r))):=by
 refine ok_of lw68 (by simp) ?_
 unfold c68 bC sps rds Road.enc
 simp -implicitDefEqProofs only [rX,↓rY,aA,cells?,↓reduceIte,Nat.reduceEqDiff,Nat.reduceAdd,reduceCtorEq,aC,aQ,aT,wfV,yag,sO,cxN,aN]
 simp only [br,decide_eq_true_eq,decide_eq_false_iff_not,beq_iff_eq,beq_eq_false_iff_ne]
 have e:∀ t:Bool,(t=true↔iT ps r)→t=nM ps r:=fun t=>Nz
 have bad:¬iT ps r→false=nM ps r:=fun h=>by simp [nM,h]
 repeat' (first|(refine ⟨(0:_),?_⟩)|(refine ⟨by omega,?_⟩)|(refine And.intro ?_ ?_)|(refine (fun _=>?_)))
 all_goals first
  | omega
  | (apply bad;rintro ⟨h1,h2,h3,h4,h5,h6,h7⟩;omega)
  | skip
 ·rename_i h1 h2 h3 h4 h5 h6 h7 h8 h9 h10 h11
  apply e
  simp only [bne_iff_ne] at *
  exact ⟨fun h=>⟨⟨by omega,by omega⟩,⟨by omega,by omega⟩,by omega,⟨by omega,by omega⟩,⟨by omega,by omega⟩,by assumption,h⟩,fun ⟨_,_,_,_,_,_,h⟩=>h⟩
 ·rename_i hb
  apply bad
  rintro ⟨_,_,_,_,_,h,_⟩
  simp only [bne_eq_false_iff_eq] at hb
  exact h hb
end Go.Fx.P
namespace Go.Fx.P
open Go Go.Fx Go.Fx.E Go.Proofs
set_option maxRecDepth 20000
def iQ (f:Nat→Int):Nat→Nat→Int
 | 0,_=>0
 | n+1,k=>if f k=0 then iQ f n (k+1) else f k
theorem Av {f:Nat→Int}:∀ {n k:Nat},(∀ j,k≤j→j<k+n→f j=0)→iQ f n k=0
 | 0,_,_=>rfl
 | n+1,k,h=>by
  rw [iQ,if_pos (h k (by omega) (by omega))]
  exact Av fun j h1 h2=>h j (by omega) (by omega)
theorem j4 {f:Nat→Int}:∀ {n k i:Nat},k≤i→i<k+n→(∀ j,k≤j→j<i→f j=0)→f i≠0→iQ f n k=f i
 | 0,_,_,h1,h2,_,_=>by omega
 | n+1,k,i,h1,h2,h,hi=>by
  rw [iQ]
  by_cases hk:k=i
  ·subst hk;rw [if_neg hi]
  ·rw [if_pos (h k (by omega) (by omega))]
   exact j4 (by omega) (by omega) (fun j h3 h4=>h j (by omega) h4) hi
def oT (x y:aJ):Bool:=x.kind==y.kind&&x.num==y.num
def twB (l:List aJ) (x:aJ):Bool:=l.any (oT x)
def eAt (ps:List aJ) (i:Nat):Int :=
 match ps[i]? with
 | some x=>if gD x=false then 400 else if twB (ps.take i) x then 6 else 0
 | none=>0
theorem Fi {ps:List aJ} {i:Nat} (h:i<ps.length):eAt ps i=if gD ps[i]=false then 400 else if twB (ps.take i) ps[i] then 6 else 0:=by
 rw [eAt,yal h]
open Classical in
noncomputable def fU (ps:List aJ) (rs:List Road):Int :=
 if 100<ps.length∨1500<rs.length then 2 else if iQ (eAt ps) ps.length 0≠0 then iQ (eAt ps) ps.length 0 else if ∀ r∈rs,iT ps r then 0 else 400
structure PInv (ps:List aJ) (k:Nat):Prop where
 h:∀ j,j<k→eAt ps j=0
structure RInv (ps:List aJ) (rs:List Road) (k:Nat):Prop where
 h:∀ j (h:j<rs.length),j<k→iT ps rs[j]
theorem Nl {ps:List aJ} {rs:List Road} (h:100<ps.length∨1500<rs.length):fU ps rs=2:=by rw [fU,if_pos h]
theorem Nk {ps:List aJ} {rs:List Road} (h1:¬100<ps.length) (h2:¬1500<rs.length) {k:Nat} (hk:k<ps.length) (hv:PInv ps k) (h:eAt ps k≠0):fU ps rs=eAt ps k:=by
 have:iQ (eAt ps) ps.length 0=eAt ps k:=j4 (by omega) (by omega) (fun j _ hj=>hv.h j hj) h
 rw [fU,if_neg (by omega),this,if_pos h]
theorem Zh {ps:List aJ} {rs:List Road} (h1:¬100<ps.length) (h2:¬1500<rs.length) (hv:PInv ps ps.length) {k:Nat} (hk:k<rs.length) (h:¬iT ps rs[k]):fU ps rs=400:=by
 have:iQ (eAt ps) ps.length 0=0:=Av fun j _ hj=>hv.h j (by omega)
 rw [fU,if_neg (by omega),this,if_neg (by simp),if_neg]
 intro h3
 exact h (h3 _ (yax hk))
theorem Zi {ps:List aJ} {rs:List Road} (h1:¬100<ps.length) (h2:¬1500<rs.length) (hv:PInv ps ps.length) (hr:RInv ps rs rs.length):fU ps rs=0:=by
 have:iQ (eAt ps) ps.length 0=0:=Av fun j _ hj=>hv.h j (by omega)
 rw [fU,if_neg (by omega),this,if_neg (by simp),if_pos]
 intro r hr2
 obtain ⟨j,hj,rfl⟩:=ybg hr2
 exact hr.h j hj hj
theorem PInv.next {ps:List aJ} {k:Nat} (hv:PInv ps k) (h:eAt ps k=0):PInv ps (k+1):=⟨fun j hj=>by
 by_cases h2:j=k
 ·subst h2;exact h
 ·exact hv.h j (by omega)⟩
theorem RInv.next {ps:List aJ} {rs:List Road} {k:Nat} (hv:RInv ps rs k) (hk:k<rs.length) (h:iT ps rs[k]):RInv ps rs (k+1):=⟨fun j hj hjk=>by
 by_cases h2:j=k
 ·subst h2;exact h
 ·exact hv.h j hj (by omega)⟩
def abB (x:aJ):Value:=.agg #[.int .i64 x.kind,.int .i64 x.num,.int .i64 0]
def w5:List aJ→Nat→List (Value × V × Nat)
 | [],_=>[]
 | x::l,i=>(abB x,.b true,i)::w5 l (i+1)
theorem Ib:∀ {l:List aJ} {i:Nat} {x:aJ},w5 (l++[x]) i=w5 l i++[(abB x,.b true,i+l.length)]
 | [],i,x=>rfl
 | y::l,i,x=>by
  simp only [yaI,w5,Ib,yas]
  rw [show i+1+l.length=i+(l.length+1) by omega]
abbrev spK:List (Nat × TypeDesc):=[(0,.int .i64),(1,.int .i64),(2,.int .i64)]
theorem uY:∀ {l:List aJ} {i:Nat},pZ spK (w5 l i)
 | [],_=>fun e he=>by cases he
 | x::l,i=>fun e he=>by
  rcases ybb.1 he with rfl|he
  ·exact ⟨_,rfl,rfl,rfl⟩
  ·exact uY e he
theorem Mu:∀ {l:List aJ} {x:aJ} {i j:Nat},fL [.int .i64 x.kind,.int .i64 x.num,.int .i64 0] (w5 l i) j=if twB l x then some (j+l.findIdx (oT x),.b true) else none
 | [],x,i,j=>rfl
 | y::l,x,i,j=>by
  simp only [w5,fL,abB,Mu]
  have key:(List.zip [Value.int .i64 x.kind,.int .i64 x.num,.int .i64 0] (#[Value.int .i64 y.kind,.int .i64 y.num,.int .i64 0]:Array Value).toList).all (fun p=>eqK p.1 p.2)=oT x y:=by
   simp [eqK,oT]
  rw [key]
  cases h:oT x y with
  | true=>simp [twB,h,List.findIdx_cons]
  | false =>
   simp only [twB,List.any_cons,h,Bool.false_or,List.findIdx_cons,yaQ,if_false,cond_false]
   by_cases h2:l.any (oT x)=true
   ·simp only [h2,if_true];congr 2;omega
   ·simp only [h2,yaQ,if_false]
theorem Nf {h:List Blk}:∀ {l:List aJ} {i:Nat},wfL h ((w5 l i).map fun x=>x.2.1)
 | [],_=>by simp [w5,wfL]
 | x::l,i=>by
  simp only [w5,yau,wfL]
  exact ⟨by simp [wfV],Nf⟩
theorem adY (ps:List aJ) (rs:List Road):Ok 65 [bC ps rs] (Is (.i (fU ps rs))):=by
 refine ok_of lw65 (by simp) ?_
 unfold c65 bC sps rds
 simp -implicitDefEqProofs only [rX,↓rY,aA,cells?,↓reduceIte,Nat.reduceEqDiff,Nat.reduceAdd,aC,aQ,aT,wfV,cxN,aN]
 simp only [br,decide_eq_true_eq,decide_eq_false_iff_not]
 refine fun hm=>⟨fun h=>(Nl (.inl (by omega))).symm,fun h1 hm2=>⟨fun h=>(Nl (.inr (by omega))).symm,fun h2=>?_⟩⟩
 intro _
 refine bA (fun k:Nat=>⟨[(22,.i k),(21,.i ps.length),(20,.ro 3 (ps.map aJ.enc)),(3,.mp 1),(1,.ptr 0 0 0)],[.var [.ro 3 (ps.map aJ.enc),.ro 4 (rs.map Road.enc)],.map (w5 (ps.take k) 0) k],0⟩) (fun k=>k≤ps.length∧PInv ps k) (fun k=>ps.length-k) 0 ⟨by omega,⟨by simp⟩⟩ ?_ ?_
 ·simp -implicitDefEqProofs only [rX,↓reduceIte,Nat.reduceEqDiff,leE,leH,leB,leV,bD,aE,aB,wfE,wfB,wfV,wfL,yaq,w5]
 rintro k ⟨hk,hv⟩
 unfold c65l0
 simp -implicitDefEqProofs only [rX,↓rY,aA,cells?,splice,↓reduceIte,Nat.reduceEqDiff,Nat.reduceAdd,aC,yag,nL,iY,oS,yaa]
 simp only [br,decide_eq_true_eq,decide_eq_false_iff_not,yaa]
 refine ⟨fun h=>?_,fun h=>?_⟩
 ·have hk:k<ps.length:=by omega
  refine ⟨⟨by omega,by omega⟩,hk,?_⟩
  refine aD (ajM ps[k]) (by simp [aF,aK,aU,bG,wkL,wk,aJ.enc,wkR]) rfl trivial ?_
  have he:=Fi hk
  cases hr:gD ps[k] with
  | false =>
   rw [if_pos hr] at he
   simp -implicitDefEqProofs only [rX,↓rY,aA,↓reduceIte,Nat.reduceAdd,aQ,aT,wfV]
   rw [Nk (by omega) (by omega) hk hv (by omega),he]
  | true =>
   rw [if_neg (by simp [hr])] at he
   simp -implicitDefEqProofs only [rX,↓rY,aA,cells?,splice,↓reduceIte,Nat.reduceEqDiff,Nat.reduceAdd,aQ,aT,leE,leH,leB,leV,bD,aE,aB,wfE,wfB,wfV,wfL,isC,Nat.reduceLeDiff,aJ.enc]
   simp only [Mu]
   refine ⟨rfl,uY,?_⟩
   cases ht:twB (ps.take k) ps[k] with
   | true =>
    rw [if_pos ht] at he
    have hc:6=fU ps rs:=by rw [Nk (by omega) (by omega) hk hv (by omega),he]
    simp [eB,brV,br,hc]
   | false =>
    rw [if_neg (by simp [ht])] at he
    simp only [yaQ,if_false,eB,aA,brV,br,false_implies,true_implies,true_and,gM]
    refine ⟨rfl,uY,by simp only [lo,hi,maxLen] at *;omega,k+1,⟨⟨by omega,hv.next he⟩,by omega⟩,by omega,?_,Nf⟩
    rw [ybh hk,Ib,yaE]
    rw [show 0+min k ps.length=k by omega]
    rfl
 have hk:k=ps.length:=by omega
 subst hk
 intro hm3
 refine bA (fun k:Nat=>⟨[(39,.i k),(38,.i rs.length),(37,.ro 4 (rs.map Road.enc)),(1,.ptr 0 0 0)],[.var [.ro 3 (ps.map aJ.enc),.ro 4 (rs.map Road.enc)]],0⟩) (fun k=>k≤rs.length∧RInv ps rs k) (fun k=>rs.length-k) 0 ⟨by omega,⟨by simp⟩⟩ ?_ ?_
 ·simp -implicitDefEqProofs only [rX,↓reduceIte,Nat.reduceEqDiff,leE,leH,leB,leV,bD,aE,aB,wfE,wfB,wfV,wfL,yaq]
 rintro k ⟨hk,hw⟩
 unfold c65l1
 simp -implicitDefEqProofs only [rX,↓rY,aA,cells?,splice,↓reduceIte,Nat.reduceEqDiff,Nat.reduceAdd,aC,aQ,aT,leE,leH,leB,leV,bD,aE,aB,wfE,wfB,wfV,wfL,yag,sO,rM,nO,Jy,Jx,Ol,Oj,uM,yaa]
 simp only [br,decide_eq_true_eq,decide_eq_false_iff_not,yaa]
 refine ⟨fun h=>?_,fun h=>?_⟩
 ·have hkl:k<rs.length:=by omega
  have bad:¬iT ps rs[k]→400=fU ps rs:=fun h=>(Zh (by omega) (by omega) hv hkl h).symm
  simp only [beq_iff_eq,beq_eq_false_iff_ne,lo,hi,maxLen] at *
  repeat' (first|(refine ⟨(k+1:_),?_⟩)|(refine ⟨by omega,?_⟩)|(refine And.intro ?_ ?_)|(refine (fun _=>?_)))
  all_goals first
   | omega
   | (apply bad;rintro ⟨⟨_,_⟩,⟨_,_⟩,_,⟨_,_⟩,⟨_,_⟩,_,_⟩;first|omega|contradiction)
   | skip
  exact hw.next hkl ⟨⟨by omega,by omega⟩,⟨by omega,by omega⟩,by assumption,⟨by omega,by omega⟩,⟨by omega,by omega⟩,by assumption,by assumption⟩
 ·have hkl:k=rs.length:=by omega
  subst hkl
  exact (Zi (by omega) (by omega) hv hw).symm
end Go.Fx.P
namespace Go.Fx.P
open Go Go.Fx Go.Fx.E Go.Proofs
set_option maxRecDepth 20000
structure acJ (ps:List aJ) (n k:Nat):Prop where
 h:∀ j (hn:n<ps.length) (h:j<ps.length),j<k→oT ps[n] ps[j]=false
theorem Qc {ps:List aJ} {n:Nat} (hn:n<ps.length) (h:acJ ps n n):twB (ps.take n) ps[n]=false:=by
 rw [twB,List.any_eq_false]
 intro y hy
 obtain ⟨j,hj,rfl⟩:=ybg hy
 have:=yaE (l:=ps) (i:=n)
 rw [ybM,h.h j hn (by omega) (by omega)]
 simp
theorem Vp {ps:List aJ} {n k:Nat} (hn:n<ps.length) (hk:k<n) (h:oT ps[n] ps[k]=true):twB (ps.take n) ps[n]=true:=by
 rw [twB,List.any_eq_true]
 have h2:k<(ps.take n).length:=by rw [yaE];omega
 exact ⟨(ps.take n)[k],yax h2,by rw [ybM];exact h⟩
theorem akP (ps:List aJ) (rs:List Road):Ok 32 [bC ps rs] (Is (.i (fU ps rs))):=by
 refine ok_of lw32 (by simp) ?_
 unfold c32 bC sps rds
 simp -implicitDefEqProofs only [rX,↓rY,aA,cells?,↓reduceIte,Nat.reduceEqDiff,aC,aQ,aT,wfV,cxN,aN]
 simp only [br,decide_eq_true_eq,decide_eq_false_iff_not]
 refine fun hm=>⟨fun h=>(Nl (.inl (by omega))).symm,fun h1 hm2=>⟨fun h=>(Nl (.inr (by omega))).symm,fun h2=>?_⟩⟩
 refine bA (fun k:Nat=>⟨[(3,.i k),(1,.ptr 0 0 0)],[.var [.ro 3 (ps.map aJ.enc),.ro 4 (rs.map Road.enc)]],0⟩) (fun k=>k≤ps.length∧PInv ps k) (fun k=>ps.length-k) 0 ⟨by omega,⟨by simp⟩⟩ ?_ ?_
 ·simp -implicitDefEqProofs only [rX,↓reduceIte,Nat.reduceEqDiff,leE,leH,leB,leV,bD,aE,aB,wfE,wfB,wfV,wfL,yaq]
 rintro n ⟨hn,hv⟩
 unfold c32l0
 simp -implicitDefEqProofs only [rX,↓rY,aA,↓reduceIte,Nat.reduceEqDiff,yag,nL,iY,yaa]
 simp only [br,decide_eq_true_eq,decide_eq_false_iff_not,yaa]
 refine fun _=>⟨fun h=>?_,fun h=>?_⟩
 ·have hnl:n<ps.length:=by omega
  refine ⟨⟨by omega,by omega⟩,hnl,?_⟩
  refine aD (ajX ps[n]) (by simp [aF,aK,aU,bG,wkL,wk,aJ.enc,wkR]) rfl trivial ?_
  have he:=Fi hnl
  cases hr:gD ps[n] with
  | false =>
   rw [if_pos hr] at he
   simp -implicitDefEqProofs only [rX,↓rY,aA,↓reduceIte,aQ,aT,wfV]
   rw [Nk (by omega) (by omega) hnl hv (by omega),he]
  | true =>
   rw [if_neg (by simp [hr])] at he
   simp -implicitDefEqProofs only [rX,↓rY,aA,↓reduceIte]
   refine bA (fun k:Nat=>⟨[(5,.i k),(3,.i n),(1,.ptr 0 0 0)],[.var [.ro 3 (ps.map aJ.enc),.ro 4 (rs.map Road.enc)]],0⟩) (fun k=>k≤n∧acJ ps n k) (fun k=>n-k) 0 ⟨by omega,⟨by simp⟩⟩ ?_ ?_
   ·simp -implicitDefEqProofs only [rX,↓reduceIte,Nat.reduceEqDiff,leE,leH,leB,leV,bD,aE,aB,wfE,wfB,wfV,wfL,yaq]
   rintro k ⟨hk,hw⟩
   unfold c32l1
   simp -implicitDefEqProofs only [rX,↓rY,aA,↓reduceIte,Nat.reduceEqDiff,aQ,aT,leE,leH,leB,leV,bD,aE,aB,wfE,wfB,wfV,wfL,yag,sO,Qj,yaa]
   simp only [br,decide_eq_true_eq,decide_eq_false_iff_not,yaa]
   refine ⟨fun h2=>?_,fun h2=>?_⟩
   ·have hkn:k<n:=by omega
    have bad:oT ps[n] ps[k]=true→6=fU ps rs:=fun h3=>by
     rw [if_pos (Vp hnl hkn h3)] at he
     rw [Nk (by omega) (by omega) hnl hv (by omega),he]
    have good:oT ps[n] ps[k]=false→acJ ps n (k+1):=by
     intro h3
     refine ⟨fun j h5 h6 h7=>?_⟩
     by_cases h8:j=k
     ·subst h8;exact h3
     ·exact hw.h j h5 h6 (by omega)
    simp only [oT] at bad good
    simp only [beq_iff_eq,beq_eq_false_iff_ne,ybe,Bool.and_eq_false_iff,lo,hi,maxLen] at *
    repeat' (first|(refine ⟨(k+1:_),?_⟩)|(refine ⟨by omega,?_⟩)|(refine And.intro ?_ ?_)|(refine (fun _=>?_)))
    all_goals first
     | omega
     | (apply bad;exact ⟨by omega,by omega⟩)
     | skip
    all_goals (apply good;first|(left;omega)|(right;omega))
   ·have hkn:k=n:=by omega
    subst hkn
    rw [if_neg (by simp [Qc hnl hw])] at he
    exact ⟨by simp only [lo,hi,maxLen] at *;omega,k+1,⟨⟨by omega,hv.next he⟩,by omega⟩,by omega⟩
 have hk:n=ps.length:=by omega
 subst hk
 refine bA (fun k:Nat=>⟨[(6,.i k),(1,.ptr 0 0 0)],[.var [.ro 3 (ps.map aJ.enc),.ro 4 (rs.map Road.enc)]],0⟩) (fun k=>k≤rs.length∧RInv ps rs k) (fun k=>rs.length-k) 0 ⟨by omega,⟨by simp⟩⟩ ?_ ?_
 ·simp -implicitDefEqProofs only [rX,↓reduceIte,Nat.reduceEqDiff,leE,leH,leB,leV,bD,aE,aB,wfE,wfB,wfV,wfL,yaq]
 rintro k ⟨hk,hw⟩
 unfold c32l2
 simp -implicitDefEqProofs only [rX,↓rY,aA,↓reduceIte,Nat.reduceEqDiff,Nat.reduceAdd,aQ,aT,wfV,yag,rM,nO,yaa]
 simp only [br,decide_eq_true_eq,decide_eq_false_iff_not,yaa]
 refine fun _=>⟨fun h=>?_,fun h=>?_⟩
 ·have hkl:k<rs.length:=by omega
  refine ⟨⟨by omega,by omega⟩,hkl,?_⟩
  refine aD (ajW ps rs rs[k]) (by simp [bC,sps,rds,aF,aK,aU,bG,wkL,wk,Road.enc,wkR]) rfl trivial ?_
  cases hs:nM ps rs[k] with
  | true =>
   have hS:iT ps rs[k]:=by simpa [nM] using hs
   simp -implicitDefEqProofs only [rX,↓rY,aA,↓reduceIte,Nat.reduceEqDiff,leE,leH,leB,leV,bD,aE,aB,wfE,wfB,wfV,wfL]
   exact ⟨by simp only [lo,hi,maxLen] at *;omega,k+1,⟨⟨by omega,hw.next hkl hS⟩,by omega⟩,by omega⟩
  | false =>
   have hS:¬iT ps rs[k]:=by simpa [nM] using hs
   simp -implicitDefEqProofs only [rX,↓rY,aA,↓reduceIte,aQ,aT,wfV]
   exact (Zh (by omega) (by omega) hv hkl hS).symm
 ·have hkl:k=rs.length:=by omega
  subst hkl
  exact (Zi (by omega) (by omega) hv hw).symm
end Go.Fx.P
namespace Go.Fx.P
open Go Go.Fx Go.Fx.E Go.Proofs
set_option maxRecDepth 20000
def isK (ps:List aJ) (kind:Int) (i:Nat):Bool :=
 match ps[i]? with
 | some x=>x.kind==kind
 | none=>false
theorem Et {ps:List aJ} {kind:Int} {i:Nat} (h:i<ps.length):isK ps kind i=(ps[i].kind==kind):=by
 rw [isK,yal h]
def ofN (ps:List aJ) (kind:Int) (n:Nat):List Nat:=(yar n).filter (isK ps kind)
theorem mP {ps:List aJ} {kind:Int} {n:Nat}:ofN ps kind (n+1)=ofN ps kind n++(if isK ps kind n then [n] else []):=by
 rw [ofN,ybz,List.filter_append]
 by_cases h:isK ps kind n=true<;>simp [ofN,h]
theorem fI {ps:List aJ} {kind:Int} {n:Nat}:(ofN ps kind n).length≤n:=by
 have:=List.length_filter_le (isK ps kind) (yar n)
 rw [ybA] at this
 exact this
theorem s9 {ps:List aJ} {kind:Int} {n i:Nat} (h:i∈ofN ps kind n):i<n:=by
 have:=(List.mem_filter.1 h).1
 exact ybC.1 this
def nE (n:Nat):List V:=[.i n]
theorem aaZ (x:Nat):(nE x)[0]?=some (.i x):=rfl
def Ow (l:List Nat):V:=.ro 1 (l.map nE)
theorem aaQ (ps:List aJ) (rs:List Road) (kind:Int) (hl:ps.length≤100):Ok 77 [bC ps rs,.i kind] (Is (Ow (ofN ps kind ps.length))):=by
 refine Ac (R:=fun r hs=>wk (Ow (ofN ps kind ps.length)) (gvV (fun _=>true) hs r)) ?_ fun _ _ h=>h
 refine ok_of lw77 (by simp) ?_
 unfold c77 bC sps rds
 simp -implicitDefEqProofs only [rX,↓rY,aA,cells?,↓reduceIte,Nat.reduceEqDiff,aC,cxN,aN]
 intro hm
 refine fY (.virt 1 1 (by decide) (.nilE 5 1 rfl (.refl _))) (fun k:Nat=>⟨[(11,.i k),(10,.i ps.length),(9,.ro 3 (ps.map aJ.enc)),(5,.sl 1 0 (ofN ps kind k).length),(2,.ptr 0 0 0),(1,.i kind)],[.var [.ro 3 (ps.map aJ.enc),.ro 4 (rs.map Road.enc)],.arr 1 ((ofN ps kind k).map nE)],0⟩) (fun k=>k≤ps.length) (fun k=>ps.length-k) 0 (by omega) ?_ ?_
 ·simp -implicitDefEqProofs only [rX,↓reduceIte,Nat.reduceEqDiff,reduceCtorEq,leE,leH,leB,leV,bD,aE,aB,wfE,wfB,wfV,wfL,yaq,ofN,ybD,List.filter_nil]
 rintro k hk
 unfold c77l0
 simp -implicitDefEqProofs only [rX,↓rY,aA,cells?,splice,↓reduceIte,Nat.reduceEqDiff,Nat.reduceAdd,reduceCtorEq,aC,bZ,leE,leH,leB,leV,bD,aE,aB,wfE,wfB,wfV,wfL,bP,bF,kill,bU,St.kill,isD,Nat.reduceLT,yag,nL,iY,sO,oS,yaa]
 simp only [br,yaa,decide_eq_true_eq,decide_eq_false_iff_not]
 refine ⟨fun h=>⟨⟨by omega,h⟩,by omega,?_⟩,fun h=>?_⟩
 ·have hk:k<ps.length:=by omega
  have hs:=mP (ps:=ps) (kind:=kind) (n:=k)
  have hl2:=fI (ps:=ps) (kind:=kind) (n:=k)
  rw [Et hk] at hs
  refine ⟨fun h3=>⟨by omega,by simp only [lo,hi,maxLen] at *;omega,k+1,⟨by omega,by omega⟩,⟨by omega,?_⟩,?_⟩,fun h3=>⟨by simp only [lo,hi,maxLen] at *;omega,k+1,⟨by omega,by omega⟩,⟨by omega,?_⟩,?_⟩⟩
  ·rw [hs,h3];simp
  ·rw [hs,h3,yac (by simp)];simp [nE]
  ·rw [hs,h3];simp
  ·rw [hs,h3];simp
 ·have hk:k=ps.length:=by omega
  subst hk
  simp [qa,qb,qc,qd,qe,qf,qg,qh,qi,qj,qk,ql,qm,qn,qo,qp,qq,qr,qs,qt,qu,qv,qw,qx,qy,qz,qA,qB,qC,qD,qE,qF,qG,qH,qI,qJ,qK,qL,qM,qN,qO,qP,rdK,qQ,qR,qS,qT,qU,qV,qW,qX,qY,qZ,zb,zc,zd,ze,zf,zg,zh,zi,zj,zk,zm,zn,zo,zp,zq,zr,zt,zu,zv,zw,zx,zy,zA,zB,zC,zD,zE,zF,zG,zH,zI,zJ,zK,zL,zM,zN,zO,zP,zQ,zR,zS,zT,zU,zV,zW,zX,zY,zZ,ka,kb,kc,kg,kh,ki,kj,kk,kn,ko,kq,kr,kw,kx,ky,kz,kB,kC,kD,kF,kG,kH,kI,kJ,kK,kL,kM,kN,kO,kP,kQ,kR,kS,kT,kU,kV,kX,aA,cells?,yaC,yas,yaB,splice,kY,yah,yav,↓reduceIte,Nat.reduceEqDiff,yat,kZ,wa,cS,wb,ybR,ybS,↓wc,↓wd,we,wg,yaT,yaI,yap,yay,Nat.reduceAdd,yaU,reduceCtorEq,aC,ybv,ybT,dR,ybU,bJ,bZ,wh,aQ,aT,ybw,ybx,wj,leE,leH,leB,leV,bD,aE,aB,wfE,wfB,wfV,wfL,bP,bF,kill,bU,St.kill,yau,yaA,yaO,yaN,ybf,yaV,yaF,yaL,isD,isC,yaw,yaD,true_and,and_true,and_self,V.v.injEq,Value.int.injEq,Value.bool.injEq,ybb,yaG,or_false,false_or,yaf,yaj,ybc,not_false_eq_true,yaQ,Nat.reduceLT,Nat.reduceLeDiff,yab,lg0,wl,wm,wo,wq,lg1,wr,wt,wu,wv,lg2,ww,wx,wy,wz,lg3,wC,wD,wE,wF,lg4,wG,wI,wJ,wK,lg5,wL,wM,wN,wO,lg6,wP,wQ,wR,wS,lg7,wT,wU,wV,wW,lg8,wX,wY,wZ,ja,lg9,jb,jc,jd,je,jf,jg,jh,ji,jj,jk,jl,jm,jn,jo,jp,jq,jr,jt,ju,jv,jx,jy,jz,jA,jB,jC,jD,jE,jF,jG,jH,jI,jJ,jK,jL,jM,jN,jO,jP,jQ,jR,jS,jT,jU,jV,jW,jX,jY,jZ,qaa,qab,qac,qad,qae,qaf,qag,qah,qai,qaj,qak,qal,qam,qan,qao,qap,qaq,qar,↓qas,↓qat,↓qau,↓qav,↓qaw,↓qax,↓qay,↓qaz,↓qaA,↓qaB,↓qaC,↓qaD,↓qaE,↓qaF,↓qaG,↓qaH,↓qaI,↓qaJ,↓qaK,↓qaL,↓qaM,↓qaN,↓qaO,↓qaP,↓qaQ,↓qaR,↓qaS,↓qaT,↓qaU,↓qaV,↓qaW,↓qaX,↓qaY,↓qaZ,↓qba,↓qbb,↓qbc,↓qbd,↓qbe,↓qbf,↓qbg,↓qbh,↓qbi,↓qbj,↓qbk,↓qbl,↓qbm,↓qbn,↓qbo,↓qbp,↓qbq,↓qbr,↓qbs,↓qbt,↓qbu,↓qbv,↓qbw,↓qbx,↓qby,↓qbz,↓qbA,↓qbB,↓qbC,↓qbD,↓qbE,↓qbF,↓qbG,↓qbH,↓qbI,↓qbJ,↓qbK,↓qbL,↓qbM,↓qbN,↓qbO,↓qbP,↓qbQ,↓qbR,↓qbS,↓qbT,↓qbU,↓qbV,↓qbW,↓qbX,↓qbY,↓qbZ,↓qca,↓qcb,↓qcc,↓qcd,↓qce,↓qcf,↓qcg,↓qch,↓qci,↓qcj,↓qck,↓qcl,↓qcm,↓qcn,↓qco,↓qcp,↓qcq,↓qcr,↓qcs,↓qct,↓qcu,↓qcv,↓qcw,↓qcx,↓qcy,↓qcz,↓qcA,↓qcB,yaj,yag,Ld,Ft,acI,acH,acG,Lf,Le,nL,iY,sO,Qj,w4,oS,Ji,rM,nO,Jy,Jx,Ol,Oj,uM,Jw,enc_len,fC,oJ,oI,p9,vR,fR,Fh,Bb,cM,Bc,u4,yaa,fJ,j5,cxN,fH]
  exact ⟨_,⟨Eq _,by simp,by simp [wfB,wfL,wfV]⟩,by simp [gvV,gvL,wk,wkR,blk,Ow];exact yac (by simp)⟩
def tO (ps:List aJ) (i:Nat):Int :=
 match ps[i]? with
 | some x=>x.cap
 | none=>0
theorem iL {ps:List aJ} {i:Nat} (h:i<ps.length):tO ps i=ps[i].cap:=by
 rw [tO,yal h]
def nI (ps:List aJ) (l:List Nat):Int:=(l.map (tO ps)).sum
theorem yF {ps:List aJ} {l m:List Nat}:nI ps (l++m)=nI ps l+nI ps m:=by simp [nI]
def Br (ps:List aJ):Prop:=∀ i (h:i<ps.length),0≤ps[i].cap∧ps[i].cap≤1073741824
theorem xR {ps:List aJ} (h:Br ps) (i:Nat):0≤tO ps i∧tO ps i≤1073741824:=by
 by_cases hi:i<ps.length
 ·rw [iL hi];exact h i hi
 ·rw [tO,List.getElem?_eq_none (by omega)];exact ⟨Int.le_refl _,by decide⟩
theorem yE {ps:List aJ} (h:Br ps):∀ l:List Nat,0≤nI ps l∧nI ps l≤1073741824*l.length
 | []=>by simp [nI]
 | i::l=>by
  have h1:=xR h i
  have h2:=yE h l
  simp only [nI,yau,List.sum_cons,yas] at *
  omega
def dem (ps:List aJ):Int:=nI ps (ofN ps 1 ps.length)
theorem aaR (ps:List aJ) (rs:List Road) (hl:ps.length≤100) (hc:Br ps):Ok 55 [bC ps rs] (Is (.i (dem ps))):=by
 refine ok_of lw55 (by simp) ?_
 unfold c55 bC sps rds
 simp -implicitDefEqProofs only [rX,↓rY,aA,cells?,↓reduceIte,Nat.reduceEqDiff,Nat.reduceAdd,aC,cxN,aN]
 refine aD (aaQ ps rs 1 hl) (by simp [bC,sps,rds,aF,aK,aU,bG,wkL,wk,wkR]) rfl trivial ?_
 unfold Ow
 simp -implicitDefEqProofs only [rX,↓rY,aA,↓reduceIte]
 intro hm
 refine bA (fun k:Nat=>⟨[(9,.i k),(8,.i (ofN ps 1 ps.length).length),(7,.ro 1 ((ofN ps 1 ps.length).map nE)),(3,.i (nI ps ((ofN ps 1 ps.length).take k))),(1,.ptr 0 0 0)],[.var [.ro 3 (ps.map aJ.enc),.ro 4 (rs.map Road.enc)]],0⟩) (fun k=>k≤(ofN ps 1 ps.length).length) (fun k=>(ofN ps 1 ps.length).length-k) 0 (by omega) ?_ ?_
 ·simp -implicitDefEqProofs only [rX,↓reduceIte,Nat.reduceEqDiff,leE,leH,leB,leV,bD,aE,aB,wfE,wfB,wfV,wfL,yaq,nI,List.sum_nil]
 rintro k hk
 have hl2:=fI (ps:=ps) (kind:=1) (n:=ps.length)
 simp -implicitDefEqProofs only [rX,↓rY,aA,↓reduceIte,Nat.reduceEqDiff,aQ,aT,leE,leH,leB,leV,bD,aE,aB,wfE,wfB,wfV,wfL,yag,w4,yaa,aaZ]
 simp only [br,yaa,decide_eq_true_eq,decide_eq_false_iff_not]
 refine ⟨fun h=>⟨⟨by omega,h⟩,by omega,?_⟩,fun h=>?_⟩
 ·have hkl:k<(ofN ps 1 ps.length).length:=by omega
  have hi:(ofN ps 1 ps.length)[k]<ps.length:=s9 (yax hkl)
  have hs:nI ps ((ofN ps 1 ps.length).take (k+1))=nI ps ((ofN ps 1 ps.length).take k)+ps[(ofN ps 1 ps.length)[k]].cap:=by
   rw [ybh hkl,yF]
   simp [nI,iL hi]
  have hb:=yE hc ((ofN ps 1 ps.length).take k)
  have hb2:=hc _ hi
  rw [yaE] at hb
  refine ⟨⟨by omega,by omega⟩,hi,by simp only [lo,Fx.hi,maxLen] at *;omega,by simp only [lo,Fx.hi,maxLen] at *;omega,k+1,⟨by omega,by omega⟩,by omega,by rw [hs]⟩
 ·have hk:k=(ofN ps 1 ps.length).length:=by omega
  subst hk
  simp [dem]
theorem akS (ps:List aJ) (rs:List Road) (hl:ps.length≤100) (hc:Br ps):Ok 28 [bC ps rs] (Is (.i (dem ps))):=by
 refine ok_of lw28 (by simp) ?_
 unfold c28 bC sps rds
 simp -implicitDefEqProofs only [rX,↓rY,aA,cells?,↓reduceIte,aC,cxN,aN]
 refine bA (fun k:Nat=>⟨[(4,.i k),(3,.i (nI ps (ofN ps 1 k))),(1,.ptr 0 0 0)],[.var [.ro 3 (ps.map aJ.enc),.ro 4 (rs.map Road.enc)]],0⟩) (fun k=>k≤ps.length) (fun k=>ps.length-k) 0 (by omega) ?_ ?_
 ·simp -implicitDefEqProofs only [rX,↓reduceIte,Nat.reduceEqDiff,leE,leH,leB,leV,bD,aE,aB,wfE,wfB,wfV,wfL,yaq,ofN,ybD,List.filter_nil,nI,List.sum_nil]
 rintro k hk
 unfold c28l0
 simp -implicitDefEqProofs only [rX,↓rY,aA,↓reduceIte,Nat.reduceEqDiff,aQ,aT,leE,leH,leB,leV,bD,aE,aB,wfE,wfB,wfV,wfL,yag,sO,w4,yaa]
 simp only [br,yaa,decide_eq_true_eq,decide_eq_false_iff_not]
 refine fun _=>⟨fun h=>⟨⟨by omega,h⟩,by omega,?_⟩,fun h=>?_⟩
 ·have hk:k<ps.length:=by omega
  have hs:=mP (ps:=ps) (kind:=1) (n:=k)
  rw [Et hk] at hs
  have hl2:=fI (ps:=ps) (kind:=1) (n:=k)
  have hb:=yE hc (ofN ps 1 k)
  have hb2:=hc k hk
  have h1:nI ps [k]=ps[k].cap:=by simp [nI,iL hk]
  have h0:nI ps []=0:=rfl
  refine ⟨fun h3=>⟨⟨by omega,h⟩,hk,by simp only [lo,hi,maxLen] at *;omega,by simp only [lo,hi,maxLen] at *;omega,k+1,⟨by omega,by omega⟩,by omega,?_⟩,fun h3=>⟨by simp only [lo,hi,maxLen] at *;omega,k+1,⟨by omega,by omega⟩,by omega,?_⟩⟩
  ·rw [hs,h3,yF];simp [h1]
  ·rw [hs,h3,yF];simp [h0]
 ·have hk:k=ps.length:=by omega
  subst hk
  rfl
end Go.Fx.P
namespace Go.Fx.P
open Go Go.Fx Go.Fx.E Go.Proofs
set_option maxRecDepth 20000
def aP (ps:List aJ) (i:Nat):Arc:=⟨2+2*i,3+2*i,tO ps i,0⟩
def aS (ps:List aJ) (i:Nat):Arc:=⟨0,2+2*i,tO ps i,0⟩
def aO (ps:List aJ) (i:Nat):Arc:=⟨3+2*i,1,tO ps i,0⟩
def aR (r:Road):Arc:=⟨3+2*r.from_,2+2*r.to,r.cap,r.cost⟩
def nA1 (ps:List aJ) (n:Nat):List Arc:=(yar n).map (aP ps)
def nA2 (ps:List aJ) (l:List Nat):List Arc:=nA1 ps ps.length++l.map (aS ps)
def nA3 (ps:List aJ) (l:List Nat):List Arc:=nA2 ps (ofN ps 1 ps.length)++l.map (aO ps)
def nA4 (ps:List aJ) (l:List Road):List Arc:=nA3 ps (ofN ps 3 ps.length)++l.map aR
def cE (ps:List aJ) (rs:List Road):List Arc:=nA4 ps rs
def nodes (ps:List aJ):Int:=2+2*(ps.length:Int)
theorem En {ps:List aJ} {n:Nat}:(nA1 ps n).length=n:=by simp [nA1]
theorem xJ {ps:List aJ} {l:List Nat}:(nA2 ps l).length=ps.length+l.length:=by simp [nA2,En]
theorem Em {ps:List aJ} {l:List Nat}:(nA3 ps l).length≤2*ps.length+l.length:=by
 have:=fI (ps:=ps) (kind:=1) (n:=ps.length)
 simp only [nA3,yaf,xJ,yaj];omega
theorem xI {ps:List aJ} {l:List Road}:(nA4 ps l).length≤3*ps.length+l.length:=by
 have:=fI (ps:=ps) (kind:=3) (n:=ps.length)
 have:=Em (ps:=ps) (l:=ofN ps 3 ps.length)
 simp only [nA4,yaf,yaj];omega
def hN (ps:List aJ) (rs:List Road) (l:List Arc):List Blk :=
 [.var [.ro 3 (ps.map aJ.enc),.ro 4 (rs.map Road.enc)],.var [.i 0,.nil],.var [.i (nodes ps),.sl 3 0 l.length],.arr 4 (l.map Arc.enc)]
theorem lU (l:List Arc) (a:Arc) (m:List Arc) (h:m=l++[a]):V.sl 3 0 (l.length+1)=V.sl 3 0 m.length∧Blk.arr 4 (yae l.length (l.map Arc.enc)++[[V.v (Value.int .i64 a.from_),V.v (Value.int .i64 a.to),V.v (Value.int .i64 a.cap),V.v (Value.int .i64 a.cost)]])=Blk.arr 4 (m.map Arc.enc):=by
 subst h
 refine ⟨by simp,?_⟩
 rw [yac (by simp),yak]
 rfl
theorem Yw {ps:List aJ} {k:Nat} (hk:k<ps.length):nA1 ps (k+1)=nA1 ps k++[⟨2+2*k,3+2*k,ps[k].cap,0⟩]:=by
 rw [nA1,ybz,yak];simp [nA1,aP,iL hk]
theorem afO {ps:List aJ} {l:List Nat} {k:Nat} (hl:k<l.length) (hk:l[k]<ps.length):nA2 ps (l.take (k+1))=nA2 ps (l.take k)++[⟨0,2+2*(l[k]:Nat),ps[l[k]].cap,0⟩]:=by
 rw [ybh hl,nA2,yak];simp [nA2,aS,iL hk]
theorem afM {ps:List aJ} {l:List Nat} {k:Nat} (hl:k<l.length) (hk:l[k]<ps.length):nA3 ps (l.take (k+1))=nA3 ps (l.take k)++[⟨3+2*(l[k]:Nat),1,ps[l[k]].cap,0⟩]:=by
 rw [ybh hl,nA3,yak];simp [nA3,aO,iL hk]
theorem Yv {ps:List aJ} {l:List Road} {k:Nat} (hl:k<l.length):nA4 ps (l.take (k+1))=nA4 ps (l.take k)++[⟨3+2*l[k].from_,2+2*l[k].to,l[k].cap,l[k].cost⟩]:=by
 rw [ybh hl,nA4,yak];simp [nA4,aR]
theorem aaT (ps:List aJ) (rs:List Road) (hl:ps.length≤100) (hr:rs.length≤1500) (hv:RInv ps rs rs.length):Ok 51 [bC ps rs] (Is (net (nodes ps) (cE ps rs))):=by
 refine Ac (R:=fun r hs=>wk (net (nodes ps) (cE ps rs)) (gvV (fun _=>true) hs r)) ?_ fun _ _ h=>h
 refine ok_of lw51 (by simp) ?_
 unfold c51 bC sps rds
 simp -implicitDefEqProofs only [rX,↓rY,aA,cells?,splice,↓reduceIte,Nat.reduceEqDiff,Nat.reduceAdd,aC,bJ,isC,Nat.reduceLeDiff,cxN,aN]
 intro hm
 refine ⟨by simp only [lo,hi,maxLen] at *;omega,by simp only [lo,hi,maxLen] at *;omega,?_⟩
 intro _
 refine fY (.virt 1 4 (by decide) (.nilB 2 [.i (nodes ps),.nil] [.i (nodes ps),.sl 3 0 0] rfl ⟨rfl,fun i a b h1 h2=>?_⟩ (.refl _))) (fun k:Nat=>⟨[(21,.i k),(20,.i ps.length),(19,.ro 3 (ps.map aJ.enc)),(3,.ptr 2 0 0),(2,.ptr 1 0 0),(1,.ptr 0 0 0)],hN ps rs (nA1 ps k),0⟩) (fun k=>k≤ps.length) (fun k=>ps.length-k) 0 (by omega) ?_ ?_
 ·match i,h1,h2 with
  | 0,h1,h2=>cases h1;cases h2;exact .inl rfl
  | 1,h1,h2=>cases h1;cases h2;exact .inr ⟨rfl,3,rfl⟩
  | n+2,h1,h2=>cases h1
 ·simp -implicitDefEqProofs only [rX,↓reduceIte,Nat.reduceEqDiff,leE,leH,leB,leV,bD,aE,aB,wfE,wfB,wfV,wfL,yaq,nA1,ybD,hN,nodes]
 ·rintro k hk
  unfold c51l0 hN
  simp -implicitDefEqProofs only [rX,↓rY,aA,cells?,splice,↓reduceIte,Nat.reduceEqDiff,Nat.reduceAdd,reduceCtorEq,aC,bJ,bZ,leE,leH,leB,leV,bD,aE,aB,wfE,wfB,wfV,wfL,bP,bF,kill,bU,St.kill,isD,isC,Nat.reduceLT,Nat.reduceLeDiff,yag,nL,iY,w4,oS,yaa]
  simp only [br,yaa,decide_eq_true_eq,decide_eq_false_iff_not]
  refine ⟨fun h=>?_,fun h=>?_⟩
  ·have hk:k<ps.length:=by omega
   refine ⟨⟨by omega,h⟩,hk,?_⟩
   have:=En (ps:=ps) (n:=k)
   simp only [lo,hi,maxLen] at *
   refine ⟨by omega,by omega,by omega,by omega,by omega,by omega,k+1,⟨by omega,by omega⟩,by omega,?_⟩
   exact lU _ _ _ (Yw hk)
  have hk:k=ps.length:=by omega
  subst hk
  refine aD (aaQ ps rs 1 hl) (by simp [bC,sps,rds,aF,aK,aU,bG,wkL,wk,wkR]) rfl trivial ?_
  have hz2:nA1 ps ps.length=nA2 ps ((ofN ps 1 ps.length).take 0):=by simp [nA2]
  rw [hz2]
  have hq:=fI (ps:=ps) (kind:=1) (n:=ps.length)
  have hm1:=fun i (h:i<(ofN ps 1 ps.length).length)=>s9 (yax h)
  generalize hL:ofN ps 1 ps.length=L at *
  unfold Ow
  simp -implicitDefEqProofs only [rX,↓rY,aA,↓reduceIte]
  intro _
  refine bA (fun k:Nat=>⟨[(44,.i k),(43,.i L.length),(42,.ro 1 (L.map nE)),(3,.ptr 2 0 0),(2,.ptr 1 0 0),(1,.ptr 0 0 0)],hN ps rs (nA2 ps (L.take k)),0⟩) (fun k=>k≤L.length) (fun k=>L.length-k) 0 (by omega) ?_ ?_
  ·simp -implicitDefEqProofs only [rX,↓reduceIte,Nat.reduceEqDiff,leE,leH,leB,leV,bD,aE,aB,wfE,wfB,wfV,wfL,yaq,hN]
  rintro k hk
  unfold c51l1 hN
  simp -implicitDefEqProofs only [rX,↓rY,rdK,aA,cells?,splice,↓reduceIte,Nat.reduceEqDiff,Nat.reduceAdd,reduceCtorEq,aC,bJ,bZ,leE,leH,leB,leV,bD,aE,aB,wfE,wfB,wfV,wfL,bP,bF,kill,bU,St.kill,isD,isC,Nat.reduceLT,Nat.reduceLeDiff,yag,w4,yaa,aaZ]
  simp only [br,yaa,decide_eq_true_eq,decide_eq_false_iff_not]
  refine ⟨fun h=>?_,fun h=>?_⟩
  ·have hkl:k<L.length:=by omega
   have hi:=hm1 k hkl
   have hlen:=xJ (ps:=ps) (l:=L.take k)
   rw [yaE] at hlen
   refine ⟨⟨by omega,h⟩,hkl,?_⟩
   simp only [lo,Fx.hi,maxLen] at *
   refine ⟨by omega,by omega,⟨by omega,by omega⟩,hi,by omega,by omega,k+1,⟨by omega,by omega⟩,by omega,?_⟩
   exact lU _ _ _ (afO hkl hi)
  have hk:k=L.length:=by omega
  subst hk
  refine aD (aaQ ps rs 3 hl) (by simp [bC,sps,rds,aF,aK,aU,bG,wkL,wk,wkR]) rfl trivial ?_
  subst hL
  have hz3:nA2 ps ((ofN ps 1 ps.length).take (ofN ps 1 ps.length).length)=nA3 ps ((ofN ps 3 ps.length).take 0):=by simp [nA3]
  rw [hz3]
  have hq:=fI (ps:=ps) (kind:=3) (n:=ps.length)
  have hm1:=fun i (h:i<(ofN ps 3 ps.length).length)=>s9 (yax h)
  generalize hL:ofN ps 3 ps.length=L at *
  unfold Ow
  simp -implicitDefEqProofs only [rX,↓rY,aA,↓reduceIte]
  intro _
  refine bA (fun k:Nat=>⟨[(67,.i k),(66,.i L.length),(65,.ro 1 (L.map nE)),(3,.ptr 2 0 0),(2,.ptr 1 0 0),(1,.ptr 0 0 0)],hN ps rs (nA3 ps (L.take k)),0⟩) (fun k=>k≤L.length) (fun k=>L.length-k) 0 (by omega) ?_ ?_
  ·simp -implicitDefEqProofs only [rX,↓reduceIte,Nat.reduceEqDiff,leE,leH,leB,leV,bD,aE,aB,wfE,wfB,wfV,wfL,yaq,hN]
  rintro k hk
  unfold c51l2 hN
  simp -implicitDefEqProofs only [rX,↓rY,rdK,aA,cells?,splice,↓reduceIte,Nat.reduceEqDiff,Nat.reduceAdd,reduceCtorEq,aC,bJ,bZ,leE,leH,leB,leV,bD,aE,aB,wfE,wfB,wfV,wfL,bP,bF,kill,bU,St.kill,isD,isC,Nat.reduceLT,Nat.reduceLeDiff,yag,w4,yaa,aaZ]
  simp only [br,yaa,decide_eq_true_eq,decide_eq_false_iff_not]
  refine ⟨fun h=>?_,fun h=>?_⟩
  ·have hkl:k<L.length:=by omega
   have hi:=hm1 k hkl
   have hlen:=Em (ps:=ps) (l:=L.take k)
   rw [yaE] at hlen
   refine ⟨⟨by omega,h⟩,hkl,?_⟩
   simp only [lo,Fx.hi,maxLen] at *
   refine ⟨by omega,by omega,⟨by omega,by omega⟩,hi,by omega,by omega,k+1,⟨by omega,by omega⟩,by omega,?_⟩
   exact lU _ _ _ (afM hkl hi)
  have hk:k=L.length:=by omega
  subst hk
  subst hL
  have hz4:nA3 ps ((ofN ps 3 ps.length).take (ofN ps 3 ps.length).length)=nA4 ps (rs.take 0):=by simp [nA4]
  rw [hz4]
  intro _
  refine bA (fun k:Nat=>⟨[(90,.i k),(89,.i rs.length),(88,.ro 4 (rs.map Road.enc)),(3,.ptr 2 0 0),(2,.ptr 1 0 0),(1,.ptr 0 0 0)],hN ps rs (nA4 ps (rs.take k)),0⟩) (fun k=>k≤rs.length) (fun k=>rs.length-k) 0 (by omega) ?_ ?_
  ·simp -implicitDefEqProofs only [rX,↓reduceIte,Nat.reduceEqDiff,leE,leH,leB,leV,bD,aE,aB,wfE,wfB,wfV,wfL,yaq,hN]
  rintro k hk
  unfold c51l3 hN
  simp -implicitDefEqProofs only [rX,↓rY,aA,cells?,splice,↓reduceIte,Nat.reduceEqDiff,Nat.reduceAdd,reduceCtorEq,aC,bJ,bZ,leE,leH,leB,leV,bD,aE,aB,wfE,wfB,wfV,wfL,bP,bF,kill,bU,St.kill,isD,isC,Nat.reduceLT,Nat.reduceLeDiff,yag,rM,nO,Jy,Jx,Ol,Oj,uM,yaa]
  simp only [br,yaa,decide_eq_true_eq,decide_eq_false_iff_not]
  refine ⟨fun h=>?_,fun h=>?_⟩
  ·have hkl:k<rs.length:=by omega
   obtain ⟨hs1,hs2,_⟩:=hv.h k hkl hkl
   have hlen:=xI (ps:=ps) (l:=rs.take k)
   rw [yaE] at hlen
   refine ⟨⟨by omega,h⟩,hkl,?_⟩
   simp only [lo,Fx.hi,maxLen] at *
   refine ⟨by omega,by omega,by omega,by omega,by omega,by omega,k+1,⟨by omega,by omega⟩,by omega,?_⟩
   exact lU _ _ _ (Yv hkl)
  have hk:k=rs.length:=by omega
  subst hk
  simp [qa,qb,qc,qd,qe,qf,qg,qh,qi,qj,qk,ql,qm,qn,qo,qp,qq,qr,qs,qt,qu,qv,qw,qx,qy,qz,qA,qB,qC,qD,qE,qF,qG,qH,qI,qJ,qK,qL,qM,qN,qO,qP,rdK,qQ,qR,qS,qT,qU,qV,qW,qX,qY,qZ,zb,zc,zd,ze,zf,zg,zh,zi,zj,zk,zm,zn,zo,zp,zq,zr,zt,zu,zv,zw,zx,zy,zA,zB,zC,zD,zE,zF,zG,zH,zI,zJ,zK,zL,zM,zN,zO,zP,zQ,zR,zS,zT,zU,zV,zW,zX,zY,zZ,ka,kb,kc,kg,kh,ki,kj,kk,kn,ko,kq,kr,kw,kx,ky,kz,kB,kC,kD,kF,kG,kH,kI,kJ,kK,kL,kM,kN,kO,kP,kQ,kR,kS,kT,kU,kV,kX,aA,cells?,yaC,yas,yaB,splice,kY,yah,yav,↓reduceIte,Nat.reduceEqDiff,yat,kZ,wa,cS,wb,ybR,ybS,↓wc,↓wd,we,wg,yaT,yaI,yap,yay,Nat.reduceAdd,yaU,reduceCtorEq,aC,ybv,ybT,dR,ybU,bJ,bZ,wh,aQ,aT,ybw,ybx,wj,leE,leH,leB,leV,bD,aE,aB,wfE,wfB,wfV,wfL,bP,bF,kill,bU,St.kill,yau,yaA,yaO,yaN,ybf,yaV,yaF,yaL,isD,isC,yaw,yaD,true_and,and_true,and_self,V.v.injEq,Value.int.injEq,Value.bool.injEq,ybb,yaG,or_false,false_or,yaf,yaj,ybc,not_false_eq_true,yaQ,Nat.reduceLT,Nat.reduceLeDiff,yab,lg0,wl,wm,wo,wq,lg1,wr,wt,wu,wv,lg2,ww,wx,wy,wz,lg3,wC,wD,wE,wF,lg4,wG,wI,wJ,wK,lg5,wL,wM,wN,wO,lg6,wP,wQ,wR,wS,lg7,wT,wU,wV,wW,lg8,wX,wY,wZ,ja,lg9,jb,jc,jd,je,jf,jg,jh,ji,jj,jk,jl,jm,jn,jo,jp,jq,jr,jt,ju,jv,jx,jy,jz,jA,jB,jC,jD,jE,jF,jG,jH,jI,jJ,jK,jL,jM,jN,jO,jP,jQ,jR,jS,jT,jU,jV,jW,jX,jY,jZ,qaa,qab,qac,qad,qae,qaf,qag,qah,qai,qaj,qak,qal,qam,qan,qao,qap,qaq,qar,↓qas,↓qat,↓qau,↓qav,↓qaw,↓qax,↓qay,↓qaz,↓qaA,↓qaB,↓qaC,↓qaD,↓qaE,↓qaF,↓qaG,↓qaH,↓qaI,↓qaJ,↓qaK,↓qaL,↓qaM,↓qaN,↓qaO,↓qaP,↓qaQ,↓qaR,↓qaS,↓qaT,↓qaU,↓qaV,↓qaW,↓qaX,↓qaY,↓qaZ,↓qba,↓qbb,↓qbc,↓qbd,↓qbe,↓qbf,↓qbg,↓qbh,↓qbi,↓qbj,↓qbk,↓qbl,↓qbm,↓qbn,↓qbo,↓qbp,↓qbq,↓qbr,↓qbs,↓qbt,↓qbu,↓qbv,↓qbw,↓qbx,↓qby,↓qbz,↓qbA,↓qbB,↓qbC,↓qbD,↓qbE,↓qbF,↓qbG,↓qbH,↓qbI,↓qbJ,↓qbK,↓qbL,↓qbM,↓qbN,↓qbO,↓qbP,↓qbQ,↓qbR,↓qbS,↓qbT,↓qbU,↓qbV,↓qbW,↓qbX,↓qbY,↓qbZ,↓qca,↓qcb,↓qcc,↓qcd,↓qce,↓qcf,↓qcg,↓qch,↓qci,↓qcj,↓qck,↓qcl,↓qcm,↓qcn,↓qco,↓qcp,↓qcq,↓qcr,↓qcs,↓qct,↓qcu,↓qcv,↓qcw,↓qcx,↓qcy,↓qcz,↓qcA,↓qcB,yaj,yag,Ld,Ft,acI,acH,acG,Lf,Le,nL,iY,sO,Qj,w4,oS,Ji,rM,nO,Jy,Jx,Ol,Oj,uM,Jw,enc_len,fC,oJ,oI,p9,vR,fR,Fh,Bb,cM,Bc,u4,yaa,fJ,j5,cxN,fH]
  exact ⟨_,⟨Eq _,by simp,by simp [wfB,wfL,wfV,aB]⟩,by simp [gvV,gvL,wk,wkR,wkL,blk,net,cE];exact yac (by simp)⟩
end Go.Fx.P
namespace Go.Fx.P
open Go Go.Fx Go.Fx.E Go.Proofs
set_option maxRecDepth 20000
theorem afP {ps:List aJ} {l:List Nat} {k:Nat} (hk:k<ps.length):nA2 ps (l++[k])=nA2 ps l++[⟨0,2+2*(k:Nat),ps[k].cap,0⟩]:=by
 rw [nA2,yak];simp [nA2,aS,iL hk]
theorem afN {ps:List aJ} {l:List Nat} {k:Nat} (hk:k<ps.length):nA3 ps (l++[k])=nA3 ps l++[⟨3+2*(k:Nat),1,ps[k].cap,0⟩]:=by
 rw [nA3,yak];simp [nA3,aO,iL hk]
theorem akT (ps:List aJ) (rs:List Road) (hl:ps.length≤100) (hr:rs.length≤1500) (hv:RInv ps rs rs.length):Ok 25 [bC ps rs] (Is (net (nodes ps) (cE ps rs))):=by
 refine Ac (R:=fun r hs=>wk (net (nodes ps) (cE ps rs)) (gvV (fun _=>true) hs r)) ?_ fun _ _ h=>h
 refine ok_of lw25 (by simp) ?_
 unfold c25 bC sps rds
 simp -implicitDefEqProofs only [rX,↓rY,aA,cells?,splice,↓reduceIte,Nat.reduceEqDiff,Nat.reduceAdd,aC,bJ,isC,Nat.reduceLeDiff,cxN,aN]
 intro hm
 refine ⟨by simp only [lo,hi,maxLen] at *;omega,by simp only [lo,hi,maxLen] at *;omega,?_⟩
 refine fY (.virt 1 4 (by decide) (.nilB 2 [.i (nodes ps),.nil] [.i (nodes ps),.sl 3 0 0] rfl ⟨rfl,fun i a b h1 h2=>?_⟩ (.refl _))) (fun k:Nat=>⟨[(4,.i k),(3,.ptr 2 0 0),(2,.ptr 1 0 0),(1,.ptr 0 0 0)],hN ps rs (nA1 ps k),0⟩) (fun k=>k≤ps.length) (fun k=>ps.length-k) 0 (by omega) ?_ ?_
 ·match i,h1,h2 with
  | 0,h1,h2=>cases h1;cases h2;exact .inl rfl
  | 1,h1,h2=>cases h1;cases h2;exact .inr ⟨rfl,3,rfl⟩
  | n+2,h1,h2=>cases h1
 ·simp -implicitDefEqProofs only [rX,↓reduceIte,Nat.reduceEqDiff,leE,leH,leB,leV,bD,aE,aB,wfE,wfB,wfV,wfL,yaq,nA1,ybD,hN,nodes]
 rintro k hk
 unfold c25l0 hN
 simp -implicitDefEqProofs only [rX,↓rY,rdK,aA,cells?,splice,↓reduceIte,Nat.reduceEqDiff,Nat.reduceAdd,reduceCtorEq,aC,bJ,bZ,leE,leH,leB,leV,bD,aE,aB,wfE,wfB,wfV,wfL,bP,bF,kill,bU,St.kill,isD,isC,Nat.reduceLT,Nat.reduceLeDiff,yag,w4,yaa]
 simp only [br,yaa,decide_eq_true_eq,decide_eq_false_iff_not]
 refine fun _=>⟨fun h=>?_,fun h=>?_⟩
 ·have hk:k<ps.length:=by omega
  have:=En (ps:=ps) (n:=k)
  simp only [lo,hi,maxLen] at *
  refine ⟨by omega,by omega,by omega,by omega,⟨by omega,by omega⟩,hk,by omega,by omega,k+1,⟨by omega,by omega⟩,by omega,?_⟩
  exact lU _ _ _ (Yw hk)
 have hk:k=ps.length:=by omega
 subst hk
 have hz2:nA1 ps ps.length=nA2 ps (ofN ps 1 0):=by simp [nA2,ofN]
 rw [hz2]
 refine bA (fun k:Nat=>⟨[(5,.i k),(3,.ptr 2 0 0),(2,.ptr 1 0 0),(1,.ptr 0 0 0)],hN ps rs (nA2 ps (ofN ps 1 k)),0⟩) (fun k=>k≤ps.length) (fun k=>ps.length-k) 0 (by omega) ?_ ?_
 ·simp -implicitDefEqProofs only [rX,↓reduceIte,Nat.reduceEqDiff,leE,leH,leB,leV,bD,aE,aB,wfE,wfB,wfV,wfL,yaq,hN]
 rintro k hk
 unfold c25l1 hN
 simp -implicitDefEqProofs only [rX,↓rY,rdK,aA,cells?,splice,↓reduceIte,Nat.reduceEqDiff,Nat.reduceAdd,reduceCtorEq,aC,bJ,bZ,leE,leH,leB,leV,bD,aE,aB,wfE,wfB,wfV,wfL,bP,bF,kill,bU,St.kill,isD,isC,Nat.reduceLT,Nat.reduceLeDiff,yag,sO,w4,yaa]
 simp only [br,yaa,decide_eq_true_eq,decide_eq_false_iff_not]
 refine fun _=>⟨fun h=>?_,fun h=>?_⟩
 ·have hk:k<ps.length:=by omega
  have hs:=mP (ps:=ps) (kind:=1) (n:=k)
  rw [Et hk] at hs
  have hl2:=fI (ps:=ps) (kind:=1) (n:=k)
  have hlen:=xJ (ps:=ps) (l:=ofN ps 1 k)
  simp only [lo,hi,maxLen] at *
  refine ⟨⟨by omega,h⟩,hk,fun h3=>?_,fun h3=>?_⟩
  ·rw [h3,if_pos rfl] at hs
   refine ⟨by omega,by omega,⟨by omega,by omega⟩,hk,by omega,by omega,k+1,⟨by omega,by omega⟩,by omega,?_⟩
   rw [hs]
   exact lU _ _ _ (afP hk)
  ·rw [h3,if_neg (by simp),yap] at hs
   refine ⟨by omega,k+1,⟨by omega,by omega⟩,by omega,?_⟩
   rw [hs];exact ⟨rfl,rfl⟩
 have hk:k=ps.length:=by omega
 subst hk
 have hz3:nA2 ps (ofN ps 1 ps.length)=nA3 ps (ofN ps 3 0):=by simp [nA3,ofN]
 rw [hz3]
 refine bA (fun k:Nat=>⟨[(6,.i k),(3,.ptr 2 0 0),(2,.ptr 1 0 0),(1,.ptr 0 0 0)],hN ps rs (nA3 ps (ofN ps 3 k)),0⟩) (fun k=>k≤ps.length) (fun k=>ps.length-k) 0 (by omega) ?_ ?_
 ·simp -implicitDefEqProofs only [rX,↓reduceIte,Nat.reduceEqDiff,leE,leH,leB,leV,bD,aE,aB,wfE,wfB,wfV,wfL,yaq,hN]
 rintro k hk
 unfold c25l2 hN
 simp -implicitDefEqProofs only [rX,↓rY,rdK,aA,cells?,splice,↓reduceIte,Nat.reduceEqDiff,Nat.reduceAdd,reduceCtorEq,aC,bJ,bZ,leE,leH,leB,leV,bD,aE,aB,wfE,wfB,wfV,wfL,bP,bF,kill,bU,St.kill,isD,isC,Nat.reduceLT,Nat.reduceLeDiff,yag,sO,w4,yaa]
 simp only [br,yaa,decide_eq_true_eq,decide_eq_false_iff_not]
 refine fun _=>⟨fun h=>?_,fun h=>?_⟩
 ·have hk:k<ps.length:=by omega
  have hs:=mP (ps:=ps) (kind:=3) (n:=k)
  rw [Et hk] at hs
  have hl2:=fI (ps:=ps) (kind:=3) (n:=k)
  have hlen:=Em (ps:=ps) (l:=ofN ps 3 k)
  simp only [lo,hi,maxLen] at *
  refine ⟨⟨by omega,h⟩,hk,fun h3=>?_,fun h3=>?_⟩
  ·rw [h3,if_pos rfl] at hs
   refine ⟨by omega,by omega,⟨by omega,by omega⟩,hk,by omega,by omega,k+1,⟨by omega,by omega⟩,by omega,?_⟩
   rw [hs]
   exact lU _ _ _ (afN hk)
  ·rw [h3,if_neg (by simp),yap] at hs
   refine ⟨by omega,k+1,⟨by omega,by omega⟩,by omega,?_⟩
   rw [hs];exact ⟨rfl,rfl⟩
 have hk:k=ps.length:=by omega
 subst hk
 have hz4:nA3 ps (ofN ps 3 ps.length)=nA4 ps (rs.take 0):=by simp [nA4]
 rw [hz4]
 refine bA (fun k:Nat=>⟨[(7,.i k),(3,.ptr 2 0 0),(2,.ptr 1 0 0),(1,.ptr 0 0 0)],hN ps rs (nA4 ps (rs.take k)),0⟩) (fun k=>k≤rs.length) (fun k=>rs.length-k) 0 (by omega) ?_ ?_
 ·simp -implicitDefEqProofs only [rX,↓reduceIte,Nat.reduceEqDiff,leE,leH,leB,leV,bD,aE,aB,wfE,wfB,wfV,wfL,yaq,hN]
 rintro k hk
 unfold c25l3 hN
 simp -implicitDefEqProofs only [rX,↓rY,aA,cells?,splice,↓reduceIte,Nat.reduceEqDiff,Nat.reduceAdd,reduceCtorEq,aC,bJ,bZ,leE,leH,leB,leV,bD,aE,aB,wfE,wfB,wfV,wfL,bP,bF,kill,bU,St.kill,isD,isC,Nat.reduceLT,Nat.reduceLeDiff,yag,rM,nO,Jy,Jx,Ol,Oj,uM,yaa]
 simp only [br,yaa,decide_eq_true_eq,decide_eq_false_iff_not]
 refine fun _=>⟨fun h=>?_,fun h=>?_⟩
 ·have hkl:k<rs.length:=by omega
  obtain ⟨hs1,hs2,_⟩:=hv.h k hkl hkl
  have hlen:=xI (ps:=ps) (l:=rs.take k)
  rw [yaE] at hlen
  refine ⟨⟨by omega,h⟩,hkl,?_⟩
  simp only [lo,Fx.hi,maxLen] at *
  refine ⟨by omega,by omega,by omega,by omega,by omega,by omega,k+1,⟨by omega,by omega⟩,by omega,?_⟩
  exact lU _ _ _ (Yv hkl)
 have hk:k=rs.length:=by omega
 subst hk
 simp [qa,qb,qc,qd,qe,qf,qg,qh,qi,qj,qk,ql,qm,qn,qo,qp,qq,qr,qs,qt,qu,qv,qw,qx,qy,qz,qA,qB,qC,qD,qE,qF,qG,qH,qI,qJ,qK,qL,qM,qN,qO,qP,rdK,qQ,qR,qS,qT,qU,qV,qW,qX,qY,qZ,zb,zc,zd,ze,zf,zg,zh,zi,zj,zk,zm,zn,zo,zp,zq,zr,zt,zu,zv,zw,zx,zy,zA,zB,zC,zD,zE,zF,zG,zH,zI,zJ,zK,zL,zM,zN,zO,zP,zQ,zR,zS,zT,zU,zV,zW,zX,zY,zZ,ka,kb,kc,kg,kh,ki,kj,kk,kn,ko,kq,kr,kw,kx,ky,kz,kB,kC,kD,kF,kG,kH,kI,kJ,kK,kL,kM,kN,kO,kP,kQ,kR,kS,kT,kU,kV,kX,aA,cells?,yaC,yas,yaB,splice,kY,yah,yav,↓reduceIte,Nat.reduceEqDiff,yat,kZ,wa,cS,wb,ybR,ybS,↓wc,↓wd,we,wg,yaT,yaI,yap,yay,Nat.reduceAdd,yaU,reduceCtorEq,aC,ybv,ybT,dR,ybU,bJ,bZ,wh,aQ,aT,ybw,ybx,wj,leE,leH,leB,leV,bD,aE,aB,wfE,wfB,wfV,wfL,bP,bF,kill,bU,St.kill,yau,yaA,yaO,yaN,ybf,yaV,yaF,yaL,isD,isC,yaw,yaD,true_and,and_true,and_self,V.v.injEq,Value.int.injEq,Value.bool.injEq,ybb,yaG,or_false,false_or,yaf,yaj,ybc,not_false_eq_true,yaQ,Nat.reduceLT,Nat.reduceLeDiff,yab,lg0,wl,wm,wo,wq,lg1,wr,wt,wu,wv,lg2,ww,wx,wy,wz,lg3,wC,wD,wE,wF,lg4,wG,wI,wJ,wK,lg5,wL,wM,wN,wO,lg6,wP,wQ,wR,wS,lg7,wT,wU,wV,wW,lg8,wX,wY,wZ,ja,lg9,jb,jc,jd,je,jf,jg,jh,ji,jj,jk,jl,jm,jn,jo,jp,jq,jr,jt,ju,jv,jx,jy,jz,jA,jB,jC,jD,jE,jF,jG,jH,jI,jJ,jK,jL,jM,jN,jO,jP,jQ,jR,jS,jT,jU,jV,jW,jX,jY,jZ,qaa,qab,qac,qad,qae,qaf,qag,qah,qai,qaj,qak,qal,qam,qan,qao,qap,qaq,qar,↓qas,↓qat,↓qau,↓qav,↓qaw,↓qax,↓qay,↓qaz,↓qaA,↓qaB,↓qaC,↓qaD,↓qaE,↓qaF,↓qaG,↓qaH,↓qaI,↓qaJ,↓qaK,↓qaL,↓qaM,↓qaN,↓qaO,↓qaP,↓qaQ,↓qaR,↓qaS,↓qaT,↓qaU,↓qaV,↓qaW,↓qaX,↓qaY,↓qaZ,↓qba,↓qbb,↓qbc,↓qbd,↓qbe,↓qbf,↓qbg,↓qbh,↓qbi,↓qbj,↓qbk,↓qbl,↓qbm,↓qbn,↓qbo,↓qbp,↓qbq,↓qbr,↓qbs,↓qbt,↓qbu,↓qbv,↓qbw,↓qbx,↓qby,↓qbz,↓qbA,↓qbB,↓qbC,↓qbD,↓qbE,↓qbF,↓qbG,↓qbH,↓qbI,↓qbJ,↓qbK,↓qbL,↓qbM,↓qbN,↓qbO,↓qbP,↓qbQ,↓qbR,↓qbS,↓qbT,↓qbU,↓qbV,↓qbW,↓qbX,↓qbY,↓qbZ,↓qca,↓qcb,↓qcc,↓qcd,↓qce,↓qcf,↓qcg,↓qch,↓qci,↓qcj,↓qck,↓qcl,↓qcm,↓qcn,↓qco,↓qcp,↓qcq,↓qcr,↓qcs,↓qct,↓qcu,↓qcv,↓qcw,↓qcx,↓qcy,↓qcz,↓qcA,↓qcB,yaj,yag,Ld,Ft,acI,acH,acG,Lf,Le,nL,iY,sO,Qj,w4,oS,Ji,rM,nO,Jy,Jx,Ol,Oj,uM,Jw,enc_len,fC,oJ,oI,p9,vR,fR,Fh,Bb,cM,Bc,u4,yaa,fJ,j5,cxN,fH]
 exact ⟨_,⟨Eq _,by simp,by simp [wfB,wfL,wfV,aB]⟩,by simp [gvV,gvL,wk,wkR,wkL,blk,net,cE];exact yac (by simp)⟩
end Go.Fx.P
namespace Go.Fx.P
open Go Go.Fx Go.Fx.E Go.Proofs
set_option maxRecDepth 20000
theorem gJ {ps:List aJ} {rs:List Road} (h:fU ps rs=0):(ps.length≤100∧rs.length≤1500)∧Br ps∧RInv ps rs rs.length:=by
 unfold fU at h
 by_cases h1:100<ps.length∨1500<rs.length
 ·rw [if_pos h1] at h;cases h
 rw [if_neg h1] at h
 by_cases h2:iQ (eAt ps) ps.length 0≠0
 ·rw [if_pos h2] at h;exact absurd h h2
 rw [if_neg h2] at h
 by_cases h3:∀ r∈rs,iT ps r
 ·refine ⟨by omega,?_,⟨fun j hj _=>h3 _ (yax hj)⟩⟩
  have key:∀ n i,i≤n→i<ps.length→eAt ps i=0:=by
   intro n
   induction n with
   | zero =>
    intro i hi hil
    by_cases h4:eAt ps i=0
    ·exact h4
    ·exact absurd (j4 (n:=ps.length) (k:=0) (by omega) (by omega) (fun j _ hj=>by omega) h4) (by simp only [ne_eq,Classical.not_not] at h2;rw [h2];exact fun h5=>h4 h5.symm)
   | succ n ih =>
    intro i hi hil
    by_cases h4:eAt ps i=0
    ·exact h4
    ·exact absurd (j4 (n:=ps.length) (k:=0) (by omega) (by omega) (fun j _ hj=>ih j (by omega) (by omega)) h4) (by simp only [ne_eq,Classical.not_not] at h2;rw [h2];exact fun h5=>h4 h5.symm)
  intro i hi
  have:=key i i (by omega) hi
  rw [Fi hi] at this
  by_cases h4:gD ps[i]=false
  ·rw [if_pos h4] at this;cases this
  ·have h5:lK ps[i]:=by simpa [gD] using h4
   exact h5.1
 ·rw [if_neg h3] at h;cases h
abbrev tPl:Fx.T:=.st [.sl 3 (.st [.int .i64,.int .i64,.int .i64]),.sl 4 (.st [.int .i64,.int .i64,.int .i64,.int .i64])]
theorem exM {α β:Type} {g:α→β}:∀ {els:List β},(∀ x∈els,∃ a,x=g a)→∃ l:List α,els=l.map g
 | [],_=>⟨[],rfl⟩
 | x::r,h=>by
  obtain ⟨a,rfl⟩:=h x yaY
  obtain ⟨l,rfl⟩:=exM (els:=r) fun y hy=>h y (yaZ _ hy)
  exact ⟨a::l,rfl⟩
theorem wf_sp {x:List V} (h:WfT (.st [.int .i64,.int .i64,.int .i64]) x):∃ a:aJ,x=a.enc:=by
 simp only [WfT,mB] at h
 obtain ⟨_,_,rfl,⟨a,rfl,_⟩,_,_,rfl,⟨b,rfl,_⟩,_,_,rfl,⟨c,rfl,_⟩,rfl⟩:=h
 exact ⟨⟨a,b,c⟩,rfl⟩
theorem wf_rd {x:List V} (h:WfT (.st [.int .i64,.int .i64,.int .i64,.int .i64]) x):∃ a:Road,x=a.enc:=by
 simp only [WfT,mB] at h
 obtain ⟨_,_,rfl,⟨a,rfl,_⟩,_,_,rfl,⟨b,rfl,_⟩,_,_,rfl,⟨c,rfl,_⟩,_,_,rfl,⟨d,rfl,_⟩,rfl⟩:=h
 exact ⟨⟨a,b,c,d⟩,rfl⟩
theorem wf_plant {x:V} (h:WfV tPl x):∃ ps rs,x=bC ps rs:=by
 simp only [WfV] at h
 obtain ⟨cs,h,rfl⟩:=h
 rw [mB.eq_2] at h
 obtain ⟨a,b,rfl,h1,h2⟩:=h
 rw [mB.eq_2] at h2
 obtain ⟨c,d,rfl,h3,h4⟩:=h2
 rw [mB.eq_1] at h4
 subst h4
 rw [WfT] at h1
 obtain ⟨els,rfl,_,he⟩:=h1
 obtain ⟨ps,rfl⟩:=exM (fun x hx=>wf_sp (he x hx))
 rw [WfT] at h3
 obtain ⟨els,rfl,_,he⟩:=h3
 obtain ⟨rs,rfl⟩:=exM (fun x hx=>wf_rd (he x hx))
 exact ⟨ps,rs,rfl⟩
end Go.Fx.P
namespace Go.Fx.P.K
open Go Go.Fx Go.Fx.E Go.Proofs
set_option maxRecDepth 20000
def oG (n k:Int):Bool:=decide (0≤k∧k<n)
def nb (n:Int) (arcs:List Arc):Blk:=.var [.i n,.ro 4 (arcs.map Arc.enc)]
theorem Yp (n:Int) (arcs:List Arc) (k:Int):OkN Tryz.prog 121 [.i k,.ptr 0 0 0] [nb n arcs] [] (IsA (.b (oG n k)) [nb n arcs]):=by
 refine eV pol [0] lw121 (by simp) ⟨trivial,trivial⟩ (by simp) ?_
 unfold c121 nb
 simp -implicitDefEqProofs only [rX,↓rY,aA,↓reduceIte,Nat.reduceEqDiff,reduceCtorEq,aQ,aT,leH,leB,leV,bD,aE,aB,wfB,wfV,wfL,cxN,aN,cA]
 simp only [br,decide_eq_true_eq,decide_eq_false_iff_not,oG]
 grind
def Gg (n f t am:Int):Bool:=decide ((0≤f∧f<n)∧(0≤t∧t<n)∧f≠t∧0≤am∧am≤2199023255552)
theorem ajK (n:Int) (arcs:List Arc) (f t am:Int):Ok 88 [net n arcs,.i f,.i t,.i am] (Is (.b (Gg n f t am))):=by
 refine ok_of lw88 (by simp) ?_
 unfold c88 net
 simp -implicitDefEqProofs only [rX,↓rY,aA,cells?,↓reduceIte,Nat.reduceEqDiff,Nat.reduceAdd,reduceCtorEq,aC,aQ,aT,wfV,cxN,aN]
 simp only [br,decide_eq_true_eq,decide_eq_false_iff_not,Gg]
 grind
end Go.Fx.P.K
namespace Go.Fx.P.K
open Go Go.Fx Go.Fx.E Go.Proofs
set_option maxRecDepth 20000
def f9 (n:Int) (a:Arc):Bool:=oG n a.from_&&(oG n a.to&&decide (a.from_≠a.to∧0≤a.cap∧a.cap≤1073741824∧0≤a.cost∧a.cost≤1048576))
def iS (n:Int) (arcs:List Arc):Int:=if 256<n∨2048<arcs.length then 2 else if n<1 then 1 else if arcs.all (f9 n) then 0 else 1
theorem Im {n:Int} {arcs:List Arc} (h:256<n∨2048<arcs.length):iS n arcs=2:=by simp only [iS,if_pos h]
theorem Ug {n:Int} {arcs:List Arc} (h:¬(256<n∨2048<arcs.length)) (h1:n<1):iS n arcs=1:=by simp only [iS,if_neg h,if_pos h1]
theorem In {n:Int} {arcs:List Arc} (h:¬(256<n∨2048<arcs.length)) (h1:¬n<1) (h2:∀ k (h:k<arcs.length),f9 n arcs[k]=true):iS n arcs=0:=by
 have:arcs.all (f9 n)=true:=by
  rw [List.all_eq_true]
  intro a ha
  obtain ⟨j,hj,rfl⟩:=ybg ha
  exact h2 j hj
 simp only [iS,if_neg h,if_neg h1,this,if_true]
theorem Uf {n:Int} {arcs:List Arc} (h:¬(256<n∨2048<arcs.length)) (h1:¬n<1) {k:Nat} (hk:k<arcs.length) (h2:f9 n arcs[k]=false):iS n arcs=1:=by
 have:arcs.all (f9 n)=false:=by
  rw [List.all_eq_false]
  exact ⟨_,yax hk,by simp [h2]⟩
 simp only [iS,if_neg h,if_neg h1,this]
 rfl
structure Xo (n:Int) (arcs:List Arc) (k:Nat):Prop where
 h:∀ j (h:j<arcs.length),j<k→f9 n arcs[j]=true
theorem Xo.next {n:Int} {arcs:List Arc} {k:Nat} (h:Xo n arcs k) (hk:k<arcs.length) (hv:f9 n arcs[k]=true):Xo n arcs (k+1):=by
 refine ⟨fun j hj h2=>?_⟩
 by_cases h3:j=k
 ·subst h3;exact hv
 ·exact h.h j hj (by omega)
theorem ajL (n:Int) (arcs:List Arc):Ok 87 [net n arcs] (Is (.i (iS n arcs))):=by
 refine ok_of lw87 (by simp) ?_
 unfold c87 net
 simp -implicitDefEqProofs only [rX,↓rY,aA,cells?,↓reduceIte,Nat.reduceEqDiff,aC,aQ,aT,wfV,cxN,aN]
 simp only [br,decide_eq_true_eq,decide_eq_false_iff_not]
 refine ⟨fun h=>?_,fun h1 hm=>⟨fun h=>?_,fun h2=>⟨fun h=>?_,fun h3=>?_⟩⟩⟩
 ·exact (Im (.inl h)).symm
 ·exact (Im (.inr (by omega))).symm
 ·exact (Ug (by omega) h).symm
 intro _
 refine bA (fun k:Nat=>⟨[(22,.i k),(21,.i arcs.length),(20,.ro 4 (arcs.map Arc.enc)),(3,.clo 121 [.ptr 0 0 0]),(1,.ptr 0 0 0)],[.var [.i n,.ro 4 (arcs.map Arc.enc)]],0⟩) (fun k=>k≤arcs.length∧Xo n arcs k) (fun k=>arcs.length-k) 0 ⟨by omega,⟨by simp⟩⟩ ?_ ?_
 ·simp -implicitDefEqProofs only [rX,↓reduceIte,Nat.reduceEqDiff,leE,leH,leB,leV,bD,aE,aB,wfE,wfB,wfV,wfL,bD,leV,yaq]
 rintro k ⟨hk,hv⟩
 simp -implicitDefEqProofs only [rX,↓rY,aA,cells?,splice,↓reduceIte,Nat.reduceEqDiff,Nat.reduceAdd,aC,aQ,aT,wfV,yag,enc_len,fC,oJ,fR,yaa]
 simp only [br,decide_eq_true_eq,decide_eq_false_iff_not]
 refine ⟨fun h=>⟨⟨by omega,h⟩,⟨by omega,?_⟩⟩,fun h=>(In (by omega) h3 fun j hj=>hv.h j hj (by omega)).symm⟩
 have hk:k<arcs.length:=by omega
 have bad:=fun (h:f9 n arcs[k]=false)=>(Uf (n:=n) (arcs:=arcs) (by omega) h3 hk h).symm
 have good:=fun (h:f9 n arcs[k]=true)=>hv.next hk h
 refine dA [0] [.i arcs[k].from_,.ptr 0 0 0] (.b (oG n arcs[k].from_)) (.b (oG n arcs[k].from_)) [nb n arcs] [nb n arcs] _ (Yp n arcs arcs[k].from_) ⟨by simp,by simp⟩ rfl ?_ (by simp) rfl rfl trivial ?_
 ·simp [aF,aK,aU,bG,wkL,wk,pos]
 cases hf:oG n arcs[k].from_ with
 | false =>
  simp -implicitDefEqProofs only [rX,↓rY,aA,↓reduceIte,Nat.reduceEqDiff,Nat.reduceAdd,aQ,aT,wfV]
  exact bad (by simp [f9,hf])
 | true =>
  simp -implicitDefEqProofs only [rX,↓rY,↓reduceIte,Nat.reduceEqDiff,Nat.reduceAdd,oI,bO,bX,cO,ren,nb]
  refine dA [0] [.i arcs[k].to,.ptr 0 0 0] (.b (oG n arcs[k].to)) (.b (oG n arcs[k].to)) [nb n arcs] [nb n arcs] _ (Yp n arcs arcs[k].to) ⟨by simp,by simp⟩ rfl ?_ (by simp) rfl rfl trivial ?_
  ·simp [aF,aK,aU,bG,wkL,wk,pos]
  cases ht:oG n arcs[k].to with
  | false =>
   simp -implicitDefEqProofs only [rX,↓rY,aA,↓reduceIte,Nat.reduceEqDiff,Nat.reduceAdd,aQ,aT,wfV,bO,bX,cO,ren,nb]
   exact bad (by simp [f9,ht])
  | true =>
   simp -implicitDefEqProofs only [rX,↓rY,aA,↓reduceIte,Nat.reduceEqDiff,Nat.reduceAdd,aQ,aT,leE,leH,leB,leV,bD,aE,aB,wfE,wfB,wfV,wfL,oJ,oI,p9,vR,bO,bX,cO,ren,nb]
   simp only [br,decide_eq_true_eq,decide_eq_false_iff_not,f9,hf,ht,Bool.true_and] at bad good ⊢
   simp only [lo,hi,maxLen,beq_iff_eq,beq_eq_false_iff_ne] at *
   repeat' (first|(refine ⟨(k+1:_),?_⟩)|(refine ⟨by omega,?_⟩)|(refine And.intro ?_ ?_)|(refine (fun _=>?_)))
   all_goals first|omega|(apply bad;omega)|(apply good;omega)
end Go.Fx.P.K
namespace Go.Fx.P.K
open Go Go.Fx Go.Fx.E Go.Proofs
set_option maxRecDepth 20000
structure Val (N:Nat) (arcs:List Arc):Prop where
 hn:1≤N∧N≤256
 hl:arcs.length≤2048
 ha:∀ a∈arcs,(0≤a.from_∧a.from_<N)∧(0≤a.to∧a.to<N)∧a.from_≠a.to∧(0≤a.cap∧a.cap≤1073741824)∧0≤a.cost∧a.cost≤1048576
theorem Val.of {n:Int} {arcs:List Arc} (h:iS n arcs=0):∃ N:Nat,n=N∧Val N arcs:=by
 unfold iS at h
 split at h
 ·cases h
 ·split at h
  ·cases h
  ·split at h
   ·rename_i h1 h2 h3
    refine ⟨n.toNat,by omega,by omega,by omega,fun a ha=>?_⟩
    rw [List.all_eq_true] at h3
    have:=h3 a ha
    simp only [f9,oG,ybe,decide_eq_true_eq] at this
    omega
   ·cases h
theorem Val.chk {N:Nat} {arcs:List Arc} (h:Val N arcs):iS N arcs=0:=by
 obtain ⟨h1,h2,h3⟩:=h
 refine In (by omega) (by omega) fun k hk=>?_
 have:=h3 _ (yax hk)
 simp only [f9,oG,ybe,decide_eq_true_eq]
 omega
def Rm (arcs:List Arc) (flow:List Int):Prop:=∀ i (h1:i<flow.length) (h2:i<arcs.length),0≤flow[i]∧flow[i]≤arcs[i].cap
theorem Val.flow {N:Nat} {arcs:List Arc} (h:Val N arcs) {flow:List Int} (hl:flow.length=arcs.length) (hp:Rm arcs flow):∀ x∈flow,0≤x∧x≤1073741824:=by
 intro x hx
 obtain ⟨i,hi,rfl⟩:=ybg hx
 have h1:=hp i hi (by omega)
 have h2:=(h.ha arcs[i] (yax _))
 omega
def valTo (arcs:List Arc) (node:Int) (flow:List Int):Nat→Int
 | 0=>0
 | k+1=>valTo arcs node flow k+(if (arcs.getD k ⟨0,0,0,0⟩).from_=node then flow.getD k 0 else 0)-(if (arcs.getD k ⟨0,0,0,0⟩).to=node then flow.getD k 0 else 0)
theorem abO {flow:List Int} (hf:∀ x∈flow,0≤x∧x≤1073741824) (k:Nat):0≤flow.getD k 0∧flow.getD k 0≤1073741824:=by
 rw [yah]
 cases h:flow[k]? with
 | none=>simp
 | some x=>exact hf x (ybV h)
theorem Ja {arcs:List Arc} {node:Int} {flow:List Int} {k:Nat} (h1:k<arcs.length) (h2:k<flow.length):valTo arcs node flow (k+1)=valTo arcs node flow k+(if arcs[k].from_=node then flow[k] else 0)-(if arcs[k].to=node then flow[k] else 0):=by
 simp only [valTo,yah,yal h1,yal h2,yat]
def d8 (arcs:List Arc) (flow:List Int):Nat→Int
 | 0=>0
 | k+1=>d8 arcs flow k+flow.getD k 0*(arcs.getD k ⟨0,0,0,0⟩).cost
theorem yB {arcs:List Arc} {flow:List Int} {k:Nat} (h1:k<arcs.length) (h2:k<flow.length):d8 arcs flow (k+1)=d8 arcs flow k+flow[k]*arcs[k].cost:=by
 simp only [d8,yah,yal h1,yal h2,yat]
theorem Mt {a b:Int} (h1:0≤a∧a≤1073741824) (h2:0≤b∧b≤1048576):0≤a*b∧a*b≤1125899906842624:=by
 refine ⟨Int.mul_nonneg h1.1 h2.1,?_⟩
 have:=Int.mul_le_mul h1.2 h2.2 h2.1 (by omega)
 omega
theorem vG (arcs:List Arc) (flow:List Int) (hf:∀ x∈flow,0≤x∧x≤1073741824) (ha:∀ a∈arcs,0≤a.cost∧a.cost≤1048576):∀ k:Nat,0≤d8 arcs flow k∧d8 arcs flow k≤(k:Int)*1125899906842624
 | 0=>by simp [d8]
 | k+1=>by
  have h1:=vG arcs flow hf ha k
  have h2:=abO hf k
  have h3:0≤(arcs.getD k ⟨0,0,0,0⟩).cost∧(arcs.getD k ⟨0,0,0,0⟩).cost≤1048576:=by
   rw [yah]
   cases h:arcs[k]? with
   | none=>simp
   | some x=>exact ha x (ybV h)
  have:=Mt h2 h3
  simp only [d8]
  omega
end Go.Fx.P.K
namespace Go.Fx.P.K
open Go Go.Fx Go.Fx.E Go.Proofs
set_option maxRecDepth 20000
structure OkF (n:Int) (arcs:List Arc) (f t:Int) (flow:List Int):Prop where
 hl:flow.length=arcs.length
 hp:Rm arcs flow
 hz:∀ j:Int,0≤j→j<n→j≠f→j≠t→valTo arcs j flow arcs.length=0
structure PInv (arcs:List Arc) (flow:List Int) (k:Nat):Prop where
 h:∀ j (h1:j<flow.length) (h2:j<arcs.length),j<k→0≤flow[j]∧flow[j]≤arcs[j].cap
def hasB (l:List Int) (x:Int):Bool:=decide (x∈l)
structure OkP (N:Nat) (arcs:List Arc) (f:Int) (flow price:List Int):Prop where
 hl:price.length=N
 h0:price.getD f.toNat 0=0
 hb:∀ j (h:j<price.length),0≤price[j]∧price[j]≤1073741824
 ha:∀ k (h:k<arcs.length),(arcs[k].cost+price.getD arcs[k].from_.toNat 0-price.getD arcs[k].to.toNat 0<0→arcs[k].cap≤flow.getD k 0)∧(0<arcs[k].cost+price.getD arcs[k].from_.toNat 0-price.getD arcs[k].to.toNat 0→flow.getD k 0≤0)
open Classical in
noncomputable def prB (N:Nat) (arcs:List Arc) (f:Int) (flow price:List Int):Bool:=decide (OkP N arcs f flow price)
theorem Yj {N:Nat} {arcs:List Arc} {f:Int} {flow price:List Int} (h:OkP N arcs f flow price):true=prB N arcs f flow price:=by simp [prB,h]
theorem Gy {N:Nat} {arcs:List Arc} {f:Int} {flow price:List Int} (h:¬OkP N arcs f flow price):false=prB N arcs f flow price:=by simp [prB,h]
theorem getD_at {l:List Int} {i:Int} (h:0≤i∧i<l.length):l.getD i.toNat 0=l[i.toNat]'(by omega):=by
 rw [yah,yal (by omega)];rfl
theorem cC {l:List Int} {k:Nat} (h:k<l.length):l.getD k 0=l[k]:=by
 rw [yah,yal h];rfl
structure RInv (arcs:List Arc) (flow price:List Int) (k:Nat):Prop where
 h:∀ k' (h:k'<arcs.length),k'<k→(arcs[k'].cost+price.getD arcs[k'].from_.toNat 0-price.getD arcs[k'].to.toNat 0<0→arcs[k'].cap≤flow.getD k' 0)∧(0<arcs[k'].cost+price.getD arcs[k'].from_.toNat 0-price.getD arcs[k'].to.toNat 0→flow.getD k' 0≤0)
theorem RInv.next {arcs:List Arc} {flow price:List Int} {k:Nat} (hv:RInv arcs flow price k) (hk:k<arcs.length) (h:(arcs[k].cost+price.getD arcs[k].from_.toNat 0-price.getD arcs[k].to.toNat 0<0→arcs[k].cap≤flow.getD k 0)∧(0<arcs[k].cost+price.getD arcs[k].from_.toNat 0-price.getD arcs[k].to.toNat 0→flow.getD k 0≤0)):RInv arcs flow price (k+1):=by
 refine ⟨fun j hj h2=>?_⟩
 by_cases h6:j=k
 ·subst h6;exact h
 ·exact hv.h j hj (by omega)
end Go.Fx.P.K
namespace Go.Fx.P.K
open Go Go.Fx Go.Fx.E Go.Proofs
set_option maxRecDepth 20000
structure OkS (n:Int) (cut:List Int) (k:Nat):Prop where
 h:∀ j (h:j<cut.length),j<k→(0≤cut[j]∧cut[j]<n)∧(0<j→cut.getD (j-1) 0<cut[j])
theorem OkS.next {n:Int} {cut:List Int} {k:Nat} (hv:OkS n cut k) (hk:k<cut.length) (h:(0≤cut[k]∧cut[k]<n)∧(0<k→cut.getD (k-1) 0<cut[k])):OkS n cut (k+1):=by
 refine ⟨fun j hj h2=>?_⟩
 by_cases h6:j=k
 ·subst h6;exact h
 ·exact hv.h j hj (by omega)
structure OkA (arcs:List Arc) (flow:List Int) (cut:List Int) (k:Nat):Prop where
 h:∀ j (h:j<arcs.length),j<k→(hasB cut arcs[j].from_=true→hasB cut arcs[j].to=false→flow.getD j 0=arcs[j].cap)∧(hasB cut arcs[j].to=true→hasB cut arcs[j].from_=false→flow.getD j 0=0)
theorem OkA.next {arcs:List Arc} {flow cut:List Int} {k:Nat} (hv:OkA arcs flow cut k) (hk:k<arcs.length) (h:(hasB cut arcs[k].from_=true→hasB cut arcs[k].to=false→flow.getD k 0=arcs[k].cap)∧(hasB cut arcs[k].to=true→hasB cut arcs[k].from_=false→flow.getD k 0=0)):OkA arcs flow cut (k+1):=by
 refine ⟨fun j hj h2=>?_⟩
 by_cases h6:j=k
 ·subst h6;exact h
 ·exact hv.h j hj (by omega)
structure OkC (n:Int) (arcs:List Arc) (f t:Int) (flow cut:List Int):Prop where
 hs:OkS n cut cut.length
 hf:hasB cut f=true
 ht:hasB cut t=false
 ha:OkA arcs flow cut arcs.length
open Classical in
noncomputable def cuB (n:Int) (arcs:List Arc) (f t:Int) (flow cut:List Int):Bool:=decide (OkC n arcs f t flow cut)
theorem Zf {n:Int} {arcs:List Arc} {f t:Int} {flow cut:List Int} (h:OkC n arcs f t flow cut):true=cuB n arcs f t flow cut:=by simp [cuB,h]
theorem Ig {n:Int} {arcs:List Arc} {f t:Int} {flow cut:List Int} (h:¬OkC n arcs f t flow cut):false=cuB n arcs f t flow cut:=by simp [cuB,h]
def frB (fr:Fr):Blk:=.var [.i fr.sent,.i fr.cost,.ro 1 (fr.flow.map encI),.ro 1 (fr.price.map encI),.ro 1 (fr.cut.map encI)]
structure OkAc (N:Nat) (arcs:List Arc) (f t am:Int) (fr:Fr):Prop where
 fl:OkF N arcs f t fr.flow
 hs:0≤fr.sent∧fr.sent≤am
 hv:valTo arcs f fr.flow arcs.length=fr.sent
 ht:d8 arcs fr.flow arcs.length=fr.cost
 hp:OkP N arcs f fr.flow fr.price
 hc:if fr.sent=am then fr.cut=[] else OkC N arcs f t fr.flow fr.cut
open Classical in
noncomputable def accI (N:Nat) (arcs:List Arc) (f t am:Int) (fr:Fr):Int:=if OkAc N arcs f t am fr then 0 else 110
theorem Um {N:Nat} {arcs:List Arc} {f t am:Int} {fr:Fr} (h:OkAc N arcs f t am fr):0=accI N arcs f t am fr:=by simp [accI,h]
theorem sD {N:Nat} {arcs:List Arc} {f t am:Int} {fr:Fr} (h:¬OkAc N arcs f t am fr):110=accI N arcs f t am fr:=by simp [accI,h]
end Go.Fx.P.K
namespace Go.Fx.P
open Go Go.Fx Go.Fx.E Go.Proofs
set_option maxRecDepth 20000
def nN (ps:List aJ):Nat:=2+2*ps.length
theorem Mq (ps:List aJ):nodes ps=(nN ps:Int):=by simp only [nodes,nN];omega
theorem Ek {ps:List aJ} {rs:List Road} (h:fU ps rs=0):K.Val (nN ps) (cE ps rs):=by
 obtain ⟨⟨hl,hr⟩,hc,hv⟩:=gJ h
 have hlen:=xI (ps:=ps) (l:=rs)
 refine ⟨by simp only [nN];omega,by simp only [cE];omega,fun a ha=>?_⟩
 simp only [cE,nA4,nA3,nA2,nA1,ybL,yba,ybC] at ha
 simp only [nN]
 rcases ha with ((⟨i,hi,rfl⟩|⟨i,hi,rfl⟩)|⟨i,hi,rfl⟩)|⟨r,hr2,rfl⟩
 ·have:=xR hc i
  simp only [aP];omega
 ·have:=xR hc i
  have:=s9 hi
  simp only [aS];omega
 ·have:=xR hc i
  have:=s9 hi
  simp only [aO];omega
 ·obtain ⟨j,hj,rfl⟩:=ybg hr2
  obtain ⟨h1,h2,h3,h4,h5,_⟩:=hv.h j hj hj
  simp only [aR];omega
def ahE (ps:List aJ) (rs:List Road):Prop:=fU ps rs=0∧ps.length≤10∧rs.length≤25
open Classical in
noncomputable def adR (ps:List aJ) (rs:List Road) (fr:Fr):Int:=if fU ps rs=0 then K.accI (nN ps) (cE ps rs) 0 1 (dem ps) fr else fU ps rs
theorem akQ (ps:List aJ) (rs:List Road) (fr:Fr) (i:Nat) (hi:i<ps.length) (hl:ps.length≤fr.flow.length):Ok 31 [bC ps rs,fr.enc,.i i] (Is (.i (fr.flow.getD i 0))):=by
 refine ok_of lw31 (by simp) ?_
 unfold c31 bC sps rds Fr.enc li
 simp -implicitDefEqProofs only [rX,↓rY,aA,cells?,↓reduceIte,Nat.reduceEqDiff,Nat.reduceAdd,reduceCtorEq,aC,aQ,aT,wfV,yag,cM,yaa,cxN,aN]
 simp only [br,decide_eq_true_eq,decide_eq_false_iff_not,yaa]
 have e:fr.flow.getD i 0=fr.flow[i]'(by omega):=by rw [yah,yal (by omega),yat]
 rw [yah] at e
 rw [e]
 exact ⟨fun h=>absurd h (by omega),fun _ _=>⟨fun h=>absurd h (by omega),fun _=>⟨⟨by omega,by omega⟩,by omega,rfl⟩⟩⟩
structure oE (ps:List aJ) (rs:List Road) (fr:Fr):Prop where
 chk:fU ps rs=0
 few:ps.length≤10∧rs.length≤25
 acc:K.OkAc (nN ps) (cE ps rs) 0 1 (dem ps) fr
theorem oE.of {ps:List aJ} {rs:List Road} {fr:Fr} (h:ahE ps rs) (h2:adR ps rs fr=0):oE ps rs fr:=by
 refine ⟨h.1,h.2,?_⟩
 rw [adR,if_pos h.1,K.accI] at h2
 by_cases h3:K.OkAc (nN ps) (cE ps rs) 0 1 (dem ps) fr
 ·exact h3
 ·rw [if_neg h3] at h2;cases h2
end Go.Fx.P
namespace Go.Fx.P.K
open Go Go.Fx Go.Fx.E Go.Proofs
set_option maxRecDepth 20000
def oU (N:Nat) (f:Int→Int):List (List V):=(yar N).map fun j:Nat=>encI (f j)
theorem sR {N:Nat} {f:Int→Int}:(oU N f).length=N:=by simp [oU]
theorem yO {N:Nat} {f:Int→Int} {i:Nat} (h:i<(oU N f).length):(oU N f)[i]=encI (f i):=by simp [oU]
theorem Qs {N:Nat} {f:Int→Int} {i:Nat} {x:Int}:(oU N f).set i [.v (.int .i64 x)]=oU N (fun j=>if j=i then x else f j):=by
 apply ybi
 ·simp [oU]
 ·intro j h1 h2
  simp only [List.getElem_set,yO]
  by_cases h:i=j
  ·subst h;simp [encI]
  ·have:¬(j:Int)=i:=by omega
   simp [h,this]
theorem Jp {N:Nat} {f g:Int→Int} (h:∀ i:Nat,i<N→f i=g i):oU N f=oU N g:=by
 simp only [oU,List.map_inj_left,ybC]
 intro i hi
 rw [h i hi]
theorem Qt {N:Nat} {x:Int}:yao N [V.v (.int .i64 x)]=oU N (fun _=>x):=by
 apply ybi
 ·simp [oU]
 ·intro i h1 h2
  simp [oU,encI]
def oV (N:Nat) (f:Int→Bool):List (List V):=(yar N).map fun j:Nat=>w6 (f j)
theorem Gk {N:Nat} {f:Int→Bool}:(oV N f).length=N:=by simp [oV]
theorem yP {N:Nat} {f:Int→Bool} {i:Nat} (h:i<(oV N f).length):(oV N f)[i]=w6 (f i):=by simp [oV]
theorem Qu {N:Nat} {f:Int→Bool} {i:Nat} {x:Bool}:(oV N f).set i [.v (.bool x)]=oV N (fun j=>if j=i then x else f j):=by
 apply ybi
 ·simp [oV]
 ·intro j h1 h2
  simp only [List.getElem_set,yP]
  by_cases h:i=j
  ·subst h;simp [w6]
  ·have:¬(j:Int)=i:=by omega
   simp [h,this]
theorem Jq {N:Nat} {f g:Int→Bool} (h:∀ i:Nat,i<N→f i=g i):oV N f=oV N g:=by
 simp only [oV,List.map_inj_left,ybC]
 intro i hi
 rw [h i hi]
theorem Qv {N:Nat} {x:Bool}:yao N [V.v (.bool x)]=oV N (fun _=>x):=by
 apply ybi
 ·simp [oV]
 ·intro i h1 h2
  simp [oV,w6]
theorem nG (arcs:List Arc) (node:Int) (flow:List Int):∀ k:Nat,(∀ j,j<k→0≤flow.getD j 0∧flow.getD j 0≤1073741824)→-((k:Int)*1073741824)≤valTo arcs node flow k∧valTo arcs node flow k≤(k:Int)*1073741824
 | 0,_=>by simp [valTo]
 | k+1,hf=>by
  have h1:=nG arcs node flow k fun j hj=>hf j (by omega)
  have h2:=hf k (by omega)
  simp only [valTo]
  split<;>split<;>omega
theorem sN (arcs:List Arc) (flow:List Int) (ha:∀ a∈arcs,0≤a.cost∧a.cost≤1048576):∀ k:Nat,(∀ j,j<k→0≤flow.getD j 0∧flow.getD j 0≤1073741824)→0≤d8 arcs flow k∧d8 arcs flow k≤(k:Int)*1125899906842624
 | 0,_=>by simp [d8]
 | k+1,hf=>by
  have h1:=sN arcs flow ha k fun j hj=>hf j (by omega)
  have h2:=hf k (by omega)
  have h3:0≤(arcs.getD k ⟨0,0,0,0⟩).cost∧(arcs.getD k ⟨0,0,0,0⟩).cost≤1048576:=by
   rw [yah]
   cases h:arcs[k]? with
   | none=>simp
   | some x=>exact ha x (ybV h)
  have:=Mt h2 h3
  simp only [d8]
  omega
open Classical in
noncomputable def Bx (n:Int) (arcs:List Arc) (f t:Int) (fr:Fr):Bool:=decide (OkF n arcs f t fr.flow∧valTo arcs f fr.flow arcs.length=fr.sent∧d8 arcs fr.flow arcs.length=fr.cost)
theorem abN {n:Int} {arcs:List Arc} {f t:Int} {fr:Fr} (h:OkF n arcs f t fr.flow∧valTo arcs f fr.flow arcs.length=fr.sent∧d8 arcs fr.flow arcs.length=fr.cost):Bx n arcs f t fr=true:=by simp [Bx,h]
theorem At {n:Int} {arcs:List Arc} {f t:Int} {fr:Fr} (h:¬(OkF n arcs f t fr.flow∧valTo arcs f fr.flow arcs.length=fr.sent∧d8 arcs fr.flow arcs.length=fr.cost)):Bx n arcs f t fr=false:=by simp only [Bx,h,decide_false]
structure agZ (arcs:List Arc) (f t s:Int) (flow:List Int) (k:Nat):Prop where
 h:∀ j:Nat,j<k→((j:Int)≠f→(j:Int)≠t→valTo arcs j flow arcs.length=0)∧((j:Int)=f→valTo arcs j flow arcs.length=s)
theorem ajG (N:Nat) (arcs:List Arc) (f t:Int) (fr:Fr) (hV:Val N arcs) (hf:0≤f∧f<N):Ok 93 [net N arcs,.i f,.i t,fr.enc] (Is (.b (Bx N arcs f t fr))):=by
 refine ok_of lw93 (by simp) ?_
 unfold c93 net Fr.enc li
 have hL:=hV.hl
 have hN:=hV.hn
 have hac:=fun a ha=>(hV.ha a ha).2.2.2.2
 simp -implicitDefEqProofs only [rX,↓rY,aA,cells?,↓reduceIte,Nat.reduceEqDiff,Nat.reduceAdd,reduceCtorEq,aC,aQ,aT,wfV,yaa,cxN,aN]
 simp only [br,decide_eq_true_eq,decide_eq_false_iff_not,bne_iff_ne,bne_eq_false_iff_eq]
 refine fun hm1 hm2=>⟨fun h=>(At fun hO=>?_).symm,fun h=>⟨by omega,fun _=>?_⟩⟩
 ·have:=hO.1.hl;omega
 have hl:fr.flow.length=arcs.length:=by omega
 refine bA (fun k:Nat=>⟨[(29,.i k),(28,.i arcs.length),(27,.ro 4 (arcs.map Arc.enc)),(10,.i (d8 arcs fr.flow k)),(9,.sl 2 0 N),(7,.ptr 1 0 0),(4,.ptr 0 0 0),(2,.i t),(1,.i f)],[.var [.i N,.ro 4 (arcs.map Arc.enc)],frB fr,.arr 1 (oU N (fun j=>valTo arcs j fr.flow k))],0⟩) (fun k=>k≤arcs.length∧PInv arcs fr.flow k) (fun k=>arcs.length-k) 0 ⟨by omega,⟨by simp⟩⟩ ?_ ?_
 ·have h0:oU N (fun j=>valTo arcs j fr.flow 0)=yao N [V.i 0]:=by rw [Qt];rfl
  simp -implicitDefEqProofs only [rX,↓reduceIte,Nat.reduceEqDiff,reduceCtorEq,leE,leH,leB,leV,bD,aE,aB,wfE,wfB,wfV,wfL,bD,leV,yaq,frB,h0,d8]
 rintro k ⟨hk,hv⟩
 simp -implicitDefEqProofs only [rX,↓rY,aA,cells?,splice,↓reduceIte,Nat.reduceEqDiff,cS,Nat.reduceAdd,aC,aQ,aT,leE,leH,leB,leV,bD,aE,aB,wfE,wfB,wfV,wfL,isD,isC,yag,enc_len,fC,oJ,oI,p9,vR,fR,cM,yaa,fJ,frB,sR,yO,Qs]
 simp only [br,decide_eq_true_eq,decide_eq_false_iff_not]
 refine ⟨fun h2=>?_,fun h2=>?_⟩
 ·have hk1:k<arcs.length:=by omega
  have hk2:k<fr.flow.length:=by omega
  have hva:=hV.ha arcs[k] (yax hk1)
  have bad:¬(0≤fr.flow[k]∧fr.flow[k]≤arcs[k].cap)→false=Bx N arcs f t fr:=fun h=>(At fun hO=>h (hO.1.hp k hk2 hk1)).symm
  have good:(0≤fr.flow[k]∧fr.flow[k]≤arcs[k].cap)→PInv arcs fr.flow (k+1):=by
   refine fun hx=>⟨fun j h3 h4 h5=>?_⟩
   by_cases h6:j=k
   ·subst h6;exact hx
   ·exact hv.h j h3 h4 (by omega)
  have hfb:∀ j,j<k→0≤fr.flow.getD j 0∧fr.flow.getD j 0≤1073741824:=by
   intro j hj
   have h1:=hv.h j (by omega) (by omega) hj
   have h3:=hV.ha arcs[j] (yax _)
   rw [cC (by omega)]
   omega
  have hb1:=nG arcs arcs[k].from_ fr.flow k hfb
  have hb2:=nG arcs arcs[k].to fr.flow k hfb
  have hb3:=sN arcs fr.flow hac k hfb
  have e1:((arcs[k].from_.toNat:Nat):Int)=arcs[k].from_:=by omega
  have e2:((arcs[k].to.toNat:Nat):Int)=arcs[k].to:=by omega
  have e3:¬arcs[k].to=arcs[k].from_:=by omega
  refine ⟨⟨by omega,h2⟩,by omega,⟨by omega,by omega⟩,by omega,fun h3=>bad (by omega),fun h3=>⟨fun h4=>bad (by omega),fun h4=>?_⟩⟩
  have hfk:0≤fr.flow[k]∧fr.flow[k]≤1073741824:=by omega
  have hmb:=Mt hfk hva.2.2.2.2
  have hst:=yB hk1 hk2
  simp only [e1,e2,e3,if_false,lo,hi,sR]
  repeat' (first|(refine ⟨(k+1:_),?_⟩)|(refine ⟨by omega,?_⟩)|(refine And.intro ?_ ?_)|(refine (fun _=>?_)))
  all_goals first|omega|(apply good;omega)|skip
  congr 1
  apply Jp
  intro i hi
  simp only [Ja (node:=i) hk1 hk2]
  grind
 have hp:Rm arcs fr.flow:=fun i h3 h4=>hv.h i h3 h4 (by omega)
 have hk0:k=arcs.length:=by omega
 subst hk0
 refine fun _=>bA (fun k:Nat=>⟨[(72,.i k),(71,.i N),(70,.sl 2 0 N),(10,.i (d8 arcs fr.flow arcs.length)),(7,.ptr 1 0 0),(2,.i t),(1,.i f)],[.dead,frB fr,.arr 1 (oU N (fun j=>valTo arcs j fr.flow arcs.length))],0⟩) (fun k=>k≤N∧agZ arcs f t fr.sent fr.flow k) (fun k=>N-k) 0 ⟨by omega,⟨by simp⟩⟩ ?_ ?_
 ·simp -implicitDefEqProofs only [rX,↓reduceIte,Nat.reduceEqDiff,leE,leH,leB,leV,bD,aE,aB,wfE,wfB,wfV,wfL,bD,leV,yaq,frB]
 rintro k ⟨hk,hv⟩
 simp -implicitDefEqProofs only [rX,↓rY,aA,↓reduceIte,Nat.reduceEqDiff,cS,Nat.reduceAdd,aQ,aT,leE,leH,leB,leV,bD,aE,aB,wfE,wfB,wfV,wfL,cM,yaa,frB,sR,yO]
 simp only [br,decide_eq_true_eq,decide_eq_false_iff_not,bne_iff_ne,bne_eq_false_iff_eq,beq_iff_eq,beq_eq_false_iff_ne]
 refine ⟨fun h3=>?_,fun h3=>?_⟩
 ·have h4:k<N:=by omega
  have bad1:(k:Int)=f→valTo arcs k fr.flow arcs.length≠fr.sent→false=Bx N arcs f t fr:=fun h h5=>(At fun hO=>h5 (by rw [h];exact hO.2.1)).symm
  have bad2:(k:Int)≠f→(k:Int)≠t→valTo arcs k fr.flow arcs.length≠0→false=Bx N arcs f t fr:=fun h h5 h6=>(At fun hO=>h6 (hO.1.hz k (by omega) (by omega) h h5)).symm
  have good:((k:Int)≠f→(k:Int)≠t→valTo arcs k fr.flow arcs.length=0)∧((k:Int)=f→valTo arcs k fr.flow arcs.length=fr.sent)→agZ arcs f t fr.sent fr.flow (k+1):=by
   refine fun h5=>⟨fun j hj=>?_⟩
   by_cases h6:j=k
   ·subst h6;exact h5
   ·exact hv.h j (by omega)
  simp only [lo,hi,maxLen,sR] at *
  repeat' (first|(refine ⟨(k+1:_),?_⟩)|(refine ⟨by omega,?_⟩)|(refine And.intro ?_ ?_)|(refine (fun _=>?_)))
  all_goals first|omega|exact bad1 ‹_› ‹_›|exact bad2 ‹_› ‹_› ‹_›|(exact good ⟨fun _ _=>by first|assumption|omega,fun _=>by first|assumption|omega⟩)
 ·have hOF:OkF N arcs f t fr.flow:=⟨hl,hp,fun j h1 h2 h4 h6=>by
   have:=(hv.h j.toNat (by omega)).1
   rw [ycd h1] at this
   exact this h4 h6⟩
  have hval:valTo arcs f fr.flow arcs.length=fr.sent:=by
   have:=(hv.h f.toNat (by omega)).2
   rw [ycd hf.1] at this
   exact this rfl
  by_cases hc:d8 arcs fr.flow arcs.length=fr.cost<;>simp [Bx,hOF,hval,hc]
end Go.Fx.P.K
namespace Go.Fx.P.K
open Go Go.Fx Go.Fx.E Go.Proofs
def sm (g:Nat→Int):Nat→Int
 | 0=>0
 | n+1=>sm g n+g n
theorem Gi {g h:Nat→Int}:∀ n,(∀ v,v<n→g v=h v)→sm g n=sm h n
 | 0,_=>rfl
 | n+1,hh=>by simp only [sm];rw [Gi n fun v hv=>hh v (by omega),hh n (by omega)]
theorem Ql {g h:Nat→Int}:∀ n,(∀ v,v<n→g v≤h v)→sm g n≤sm h n
 | 0,_=>Int.le_refl _
 | n+1,hh=>by
  have:=Ql n fun v hv=>hh v (by omega)
  have:=hh n (by omega)
  simp only [sm];omega
theorem Qk (a:Nat) (c:Int):∀ n,sm (fun v=>if v=a then c else 0) n=if a<n then c else 0
 | 0=>by simp [sm]
 | n+1=>by
  simp only [sm,Qk a c n]
  by_cases h:a=n
  ·subst h;simp
  ·have h2:¬n=a:=fun e=>h e.symm
   rw [if_neg h2]
   by_cases h3:a<n
   ·rw [if_pos h3,if_pos (by omega)];omega
   ·rw [if_neg h3,if_neg (by omega)];omega
abbrev gA (arcs:List Arc) (k:Nat):Arc:=arcs.getD k ⟨0,0,0,0⟩
theorem pB {arcs:List Arc} {k:Nat} (h:k<arcs.length):gA arcs k=arcs[k]:=by
 unfold gA
 rw [yah,yal h];rfl
theorem Val.at {N:Nat} {arcs:List Arc} (hV:Val N arcs) {k:Nat} (hk:k<arcs.length):(0≤(gA arcs k).from_∧(gA arcs k).from_<N)∧(0≤(gA arcs k).to∧(gA arcs k).to<N)∧(gA arcs k).from_≠(gA arcs k).to∧(0≤(gA arcs k).cap∧(gA arcs k).cap≤1073741824)∧0≤(gA arcs k).cost∧(gA arcs k).cost≤1048576:=by
 rw [pB hk]
 exact hV.ha arcs[k] (yax hk)
end Go.Fx.P.K
namespace Go.Fx.P.K
open Go Go.Fx Go.Fx.E Go.Proofs
set_option maxRecDepth 20000
def Id (i:Nat):List V:=[.i i]
def outs (arcs:List Arc) (v:Nat) (k:Nat):List Nat:=(yar k).filter fun i=>decide ((gA arcs i).from_=v∨(gA arcs i).to=v)
def iP (arcs:List Arc) (N:Nat):List (List V):=(yar N).map fun (v:Nat)=>[.ro 1 ((outs arcs v arcs.length).map Id)]
theorem Hc {arcs:List Arc} {N:Nat}:(iP arcs N).length=N:=by simp [iP]
theorem Rt {arcs:List Arc} {N v:Nat} (h:v<(iP arcs N).length):(iP arcs N)[v]=[.ro 1 ((outs arcs v arcs.length).map Id)]:=by simp [iP]
theorem Dt {h:List Blk}:∀ {xs:List V},(∀ x∈xs,wfV h x)→wfL h xs
 | [],_=>trivial
 | x::r,hx=>⟨hx x yaY,Dt fun y hy=>hx y (yaZ _ hy)⟩
theorem xG {arcs:List Arc} {N:Nat} {h:List Blk}:wfL h (iP arcs N).flatten:=by
 refine Dt fun x hx=>?_
 rw [List.mem_flatten] at hx
 obtain ⟨l,h1,h2⟩:=hx
 unfold iP at h1
 rw [yba] at h1
 obtain ⟨v,_,rfl⟩:=h1
 rw [List.mem_singleton] at h2
 subst h2
 trivial
theorem bY {arcs:List Arc} {N:Nat} {h:List Blk}:wfL h (iP arcs N).flatten=True:=eq_true xG
theorem fX {arcs:List Arc} {N:Nat} {M:List Nat}:(iP arcs N).map (bU M)=iP arcs N:=by
 unfold iP
 rw [ybr]
 rfl
theorem cJ {arcs:List Arc} {N:Nat} {g:Nat→Option Nat}:(iP arcs N).map (cO g)=iP arcs N:=by
 unfold iP
 rw [ybr]
 rfl
def wB (N M:Nat) (arcs:List Arc) (b c d:Nat):Blk:=.var [.i N,.ro 4 (arcs.map Arc.enc),.sl b 0 M,.sl c 0 N,.sl d 0 N]
def wH (N:Nat) (arcs:List Arc) (x p:List Int):List Blk:=[wB N x.length arcs 1 2 3,.arr 1 (x.map encI),.arv 1 (iP arcs N),.arr 1 (p.map encI)]
structure WOk (N:Nat) (arcs:List Arc) (x p:List Int):Prop where
 hV:Val N arcs
 hN:N≤64
 hx:x.length=arcs.length
 hp:p.length=N
 hb:∀ j,0≤p.getD j 0∧p.getD j 0≤1073741824
theorem Yo (N:Nat) (arcs:List Arc) (x p:List Int) (v:Int):OkN Tryz.prog 125 [.ptr 0 0 0,.i v] (wH N arcs x p) [] (IsA (.clo 146 [.ptr 4 0 0,.ptr 5 0 0]) (wH N arcs x p++[.var [.ptr 0 0 0],.var [.i v]])):=by
 refine eV pol [0,1,2,3] lw125 (by simp) ⟨trivial,trivial,trivial,trivial,trivial⟩ (by simp [wH];omega) ?_
 unfold c125 wH wB
 simp -implicitDefEqProofs only [rX,↓rY,aA,cells?,↓reduceIte,Nat.reduceEqDiff,Nat.reduceAdd,reduceCtorEq,aC,aQ,aT,leH,leB,leV,bD,aE,aB,wfB,wfV,wfL,Nat.reduceLeDiff,cxN,aN,cA,bY]
theorem Yn (N:Nat) (arcs:List Arc) (x p:List Int) (v to cost:Int) (a b c:V) (hW:WOk N arcs x p) (hv:0≤v∧v<N) (ht:0≤to∧to<N) (hc:-1048576≤cost∧cost≤1048576) :
  OkN Tryz.prog 126 [.ptr 0 0 0,.i v,.agg [a,.i to,b,.i cost,c]] (wH N arcs x p) [] (IsA (.i (cost+p.getD v.toNat 0-p.getD to.toNat 0)) (wH N arcs x p)):=by
 refine eV pol [0,1,2,3] lw126 (by simp) ⟨trivial,trivial,trivial,trivial,trivial⟩ (by simp [wH];omega) ?_
 have h1:=hW.hb v.toNat
 have h2:=hW.hb to.toNat
 have hp:=hW.hp
 have hN:=hW.hN
 rw [getD_at (by omega)] at h1 h2 ⊢
 rw [getD_at (l:=p) (i:=to) (by omega)]
 unfold c126 wH wB
 simp -implicitDefEqProofs only [rX,↓rY,aA,cells?,↓reduceIte,Nat.reduceEqDiff,cS,Nat.reduceAdd,reduceCtorEq,aC,aQ,aT,leH,leB,leV,bD,aE,aB,wfB,wfV,wfL,yag,cM,cxN,aN,cA,bY]
 simp only [lo,hi]
 repeat' (first|(refine ⟨(0:_),?_⟩)|(refine ⟨by omega,?_⟩)|(refine And.intro ?_ ?_)|(refine (fun _=>?_)))
 all_goals omega
end Go.Fx.P.K
namespace Go.Fx.P.K
open Go Go.Fx Go.Fx.E Go.Proofs
set_option maxRecDepth 20000
def hpB (n:Nat) (ks vs:List Int):List Blk:=[.var [.sl 1 0 n,.sl 2 0 n],.arr 1 (ks.map encI),.arr 1 (vs.map encI)]
def mC (n:Nat) (ks vs:List Int) (k v:Int):Prop:=∃ j,j<n∧ks.getD j 0=k∧vs.getD j 0=v
def sw (l:List Int) (i k:Nat):List Int:=(l.set i (l.getD k 0)).set k (l.getD i 0)
theorem lA {l:List Int} {i k:Nat}:(sw l i k).length=l.length:=by simp [sw]
theorem uU {l:List Int} {i j:Nat} {x:Int} (h:i<l.length):(l.set i x).getD j 0=if j=i then x else l.getD j 0:=by
 rw [yah,List.getElem?_set]
 by_cases e:i=j
 ·subst e;simp [h]
 ·rw [if_neg e,if_neg (Ne.symm e),yah]
theorem yD {l:List Int} {i k j:Nat} (hi:i<l.length) (hk:k<l.length):(sw l i k).getD j 0=if j=k then l.getD i 0 else if j=i then l.getD k 0 else l.getD j 0:=by
 unfold sw
 rw [uU (by simpa using hk),uU hi]
theorem Ko {n:Nat} {ks vs:List Int} {i k:Nat} (hi:i<n) (hk:k<n) (h1:n≤ks.length) (h2:n≤vs.length) (a b:Int):mC n (sw ks i k) (sw vs i k) a b↔mC n ks vs a b:=by
 have key:∀ {ks vs:List Int},n≤ks.length→n≤vs.length→mC n (sw ks i k) (sw vs i k) a b→mC n ks vs a b:=by
  rintro ks vs h1 h2 ⟨j,hj,q1,q2⟩
  rw [yD (by omega) (by omega)] at q1 q2
  by_cases e1:j=k
  ·rw [if_pos e1] at q1 q2;exact ⟨i,hi,q1,q2⟩
  ·rw [if_neg e1] at q1 q2
   by_cases e2:j=i
   ·rw [if_pos e2] at q1 q2;exact ⟨k,hk,q1,q2⟩
   ·rw [if_neg e2] at q1 q2;exact ⟨j,hj,q1,q2⟩
 refine ⟨key h1 h2,fun h=>?_⟩
 have e:∀ {l:List Int},n≤l.length→sw (sw l i k) i k=l:=by
  intro l hl
  apply ybi
  ·simp [lA]
  ·intro j hj1 hj2
   have g:=yD (l:=sw l i k) (i:=i) (k:=k) (j:=j) (by rw [lA];omega) (by rw [lA];omega)
   rw [cC hj1] at g
   rw [g]
   simp only [yD (l:=l) (show i<l.length by omega) (show k<l.length by omega)]
   have:l.getD j 0=l[j]:=cC hj2
   grind
 exact key (by rw [lA];exact h1) (by rw [lA];exact h2) (by rw [e h1,e h2];exact h)
theorem mX {l:List Int} {i:Nat} {x:Int}:(l.map encI).set i [.v (.int .i64 x)]=(l.set i x).map encI:=by
 rw [ybI];rfl
theorem Rw (n:Nat) (ks vs:List Int) (i k:Nat) (hi:i<n) (hk:k<n) (h1:n≤ks.length) (h2:n≤vs.length):OkN Tryz.prog 145 [.ptr 0 0 0,.i i,.i k] (hpB n ks vs) [] (IsA (.tup []) (hpB n (sw ks i k) (sw vs i k))):=by
 refine eV pol [0,1,2] lw145 (by simp) ⟨trivial,trivial,trivial,trivial⟩ (by simp [hpB];omega) ?_
 unfold sw
 rw [cC (show i<ks.length by omega),cC (show i<vs.length by omega),cC (show k<ks.length by omega),cC (show k<vs.length by omega)]
 unfold c145 hpB
 simp -implicitDefEqProofs only [rX,↓rY,rdK,cells?,splice,↓reduceIte,Nat.reduceEqDiff,cS,Nat.reduceAdd,reduceCtorEq,aQ,aT,leH,leB,leV,bD,aE,aB,wfB,wfV,wfL,isD,isC,yag,cM,yaa,fJ,cxN,aN,cA,mX,List.length_set]
 repeat' (first|(refine ⟨(0:_),?_⟩)|(refine ⟨by omega,?_⟩)|(refine And.intro ?_ ?_)|(refine (fun _=>?_)))
 all_goals first|omega|rfl|simp
end Go.Fx.P.K
