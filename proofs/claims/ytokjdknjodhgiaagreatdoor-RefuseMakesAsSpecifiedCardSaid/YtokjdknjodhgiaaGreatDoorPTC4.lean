import Derived.Test.YtokjdknjodhgiaaGreatDoorFxRX
import Derived.Test.YtokjdknjodhgiaaGreatDoorELow
import Derived.Sort.Walk0
import Derived.Lib.AppendZerosOnto
import Derived.Lib.SliceRun
import Derived.Lib.Walk
set_option linter.unusedVariables false
set_option linter.unusedSimpArgs false
set_option linter.unusedSectionVars false
open Int renaming toNat_natCast → yaa, natCast_zero → yal, reduceToNat → yaK, reduceLE → yaM, reduceLT → yaP, natCast_nonneg → yaR, fdiv_eq_ediv_of_nonneg → yba, fdiv → ybk, tmod → ybw, natCast_ediv → ybE
open Nat renaming le_refl → yab, mul_one → yah, zero_le → yan, zero_add → yay, add_zero → yaU, min_eq_left → ybj, sub_self → ybr, shiftRight_eq_div_pow → ybD, le_trans → ybK
open List renaming take_of_length_le → yac, map → yad, getElem_map → yae, take → yaf, length_append → yag, length_map → yai, map_append → yaj, getD_eq_getElem?_getD → yak, getElem?_eq_getElem → yam, append_nil → yap, replicate → yaq, length_cons → yar, getElem_mem → yas, range → yat, map_cons → yau, getElem?_cons_zero → yav, drop_of_length_le → yaz, map_nil → yaA, set_cons_zero → yaB, length_nil → yaC, length_take → yaE, all_cons → yaF, not_mem_nil → yaG, drop → yaH, cons_append → yaI, append_assoc → yaJ, all_nil → yaL, take_zero → yaN, drop_zero → yaO, take_append_of_le_length → yaS, nil_append → yaT, drop_nil → yaV, map_take → yaX, mem_cons → yaY, length_replicate → yaZ, mem_cons_self → ybc, mem_cons_of_mem → ybd, take_nil → ybe, getElem_of_mem → ybf, take_succ_eq_append_getElem → ybg, map_drop → ybl, getElem?_map → ybm, drop_append_of_le_length → ybn, length_drop → ybo, mem_map → ybp, set_append_right → ybq, replicate_succ → ybs, reverse_cons → ybu, reverse_nil → ybv, range_succ → ybx, length_range → yby, flatten_append → ybz, range_zero → ybA, drop_left → ybG, getElem_take → ybH, take_append_getElem → ybI, length → ybL, set_eq_take_append_cons_drop → ybS, getElem?_append_right → ybT, take_length_add_append → ybU, getElem?_append_left → ybV, take_append_drop → ybW, mem_of_getElem? → ybX
open BitVec renaming ofInt → yao, ofNat → yaW, ofNat_toNat → ybh, setWidth_eq → ybi, toNat_ofNat → ybB, toNat_ushiftRight → ybC, toNat_ofInt → ybJ, ofInt_natCast → ybQ, eq_of_toNat_eq → ybR
open Option renaming getD_some → yaw, map_some → ybt, map_none → ybO, getD_none → ybP
open Bool renaming and_true → yax, and_self → yaD, false_eq_true → yaQ, and_eq_true → ybb, not_true → ybM, not_false → ybN
open Array renaming replicate → ybF
namespace Go.Fx.E
open Go Go.Fx
abbrev W:=BitVec 32
abbrev w (x:W):V:=.v (.int .u32 (x.toNat:Int))
abbrev u8 (b:UInt8):V:=.v (.int .u8 (b.toNat:Int))
abbrev n64 (n:Nat):V:=.v (.int .u64 (n:Int))
theorem ofI (x:W):yao 32 (x.toNat:Int)=x:=by
 rw [ybQ,ybh,ybi]
theorem wrapN (n:Nat):IntKind.u32.wrap (n:Int)=((yaW 32 n).toNat:Int):=by
 rw [ybB]
 simp [IntKind.wrap,IntKind.bits,IntKind.signed]
theorem Pt (x:W):IntKind.u32.wrap (x.toNat:Int)=(x.toNat:Int):=by
 rw [wrapN,ybh,ybi]
section
variable {x y:W} {K:V→Prop}
theorem pD:cN .add false .u32 (x.toNat:Int) (y.toNat:Int) K=K (w (x+y)):=by
 show K (.v (.int .u32 (IntKind.u32.wrap (x.toNat+y.toNat))))=_
 rw [←Int.natCast_add,wrapN,BitVec.ofNat_add,ybh,ybh,ybi,ybi]
theorem fS:cN .xor false .u32 (x.toNat:Int) (y.toNat:Int) K=K (w (x ^^^ y)):=by
 show K (.v (.int .u32 (IntKind.u32.wrap ((yao 32 (x.toNat:Int) ^^^ yao 32 (y.toNat:Int)).toNat:Int))))=_
 rw [ofI,ofI,Pt]
theorem Fi:cN .and false .u32 (x.toNat:Int) (y.toNat:Int) K=K (w (x &&& y)):=by
 show K (.v (.int .u32 (IntKind.u32.wrap ((yao 32 (x.toNat:Int) &&& yao 32 (y.toNat:Int)).toNat:Int))))=_
 rw [ofI,ofI,Pt]
theorem Nk:cN .or false .u32 (x.toNat:Int) (y.toNat:Int) K=K (w (x ||| y)):=by
 show K (.v (.int .u32 (IntKind.u32.wrap ((yao 32 (x.toNat:Int) ||| yao 32 (y.toNat:Int)).toNat:Int))))=_
 rw [ofI,ofI,Pt]
theorem Xp:x ^^^ (4294967295#32) = ~~~x:=by
 rw [show (4294967295#32)=BitVec.allOnes 32 from rfl,BitVec.xor_allOnes]
theorem Wy:cN .xor false .u32 (x.toNat:Int) 4294967295 K=K (w (~~~x)):=by
 have h:((4294967295:Int))=((4294967295#32).toNat:Int):=rfl
 rw [h,fS,Xp]
theorem abO:cN .xor false .u32 (if IntKind.signed .u32 then -1 else IntKind.max .u32) (x.toNat:Int) K=K (w (~~~x)):=by
 have h:(if IntKind.signed .u32 then -1 else IntKind.max .u32:Int)=((4294967295#32).toNat:Int):=rfl
 rw [h,fS,BitVec.xor_comm,Xp]
theorem Fh {n:Nat} (hn:n≤32):bU .shl .u32 (x.toNat:Int) (n:Int) K=K (w (x <<< n)):=by
 have h:bU .shl .u32 (x.toNat:Int) (n:Int) K=(0≤(n:Int)∧K (.v (.int .u32 (IntKind.u32.wrap (x.toNat*2 ^ (min (n:Int).toNat 32)))))):=rfl
 rw [h,yaa,ybj hn]
 have e:((x.toNat:Int)*2 ^ n)=((x.toNat*2 ^ n:Nat):Int):=by simp
 rw [e,wrapN]
 have e2:yaW 32 (x.toNat*2 ^ n)=x <<< n:=by
  apply ybR
  rw [ybB,BitVec.toNat_shiftLeft,Nat.shiftLeft_eq]
 rw [e2]
 exact propext ⟨fun h=>h.2,fun h=>⟨yaR n,h⟩⟩
theorem pC {n:Nat} (hn:n≤32):bU .shr .u32 (x.toNat:Int) (n:Int) K=K (w (x >>> n)):=by
 have h:bU .shr .u32 (x.toNat:Int) (n:Int) K=(0≤(n:Int)∧K (.v (.int .u32 (ybk (x.toNat:Int) (2 ^ (min (n:Int).toNat 32)))))):=rfl
 rw [h,yaa,ybj hn]
 have e:ybk (x.toNat:Int) (2 ^ n)=((x >>> n).toNat:Int):=by
  have h2:(2:Int) ^ n=((2 ^ n:Nat):Int):=by simp
  rw [ybC,ybD,h2,yba _ (yaR _),ybE]
 rw [e]
 exact propext ⟨fun h=>h.2,fun h=>⟨yaR n,h⟩⟩
end
def rr (x:W) (n:Nat):W:=(x >>> n) ||| (x <<< (32-n))
theorem acW:∀ n:Fin 32,n.val≠0→IntKind.u64.wrap (-(n.val:Int))=18446744073709551616-n.val:=by decide
theorem acV:∀ n:Fin 32,n.val≠0→(IntKind.u64.wrap ((yao 64 (18446744073709551616-(n.val:Int)) &&& yao 64 31).toNat:Int))=((32-n.val:Nat):Int):=by decide
structure S8 where
 a:W
 b:W
 c:W
 d:W
 e:W
 f:W
 g:W
 h:W
def S8.l (s:S8):List W:=[s.a,s.b,s.c,s.d,s.e,s.f,s.g,s.h]
def S8.enc (s:S8):List V:=[w s.a,w s.b,w s.c,w s.d,w s.e,w s.f,w s.g,w s.h]
def S8.add (s t:S8):S8:=⟨s.a+t.a,s.b+t.b,s.c+t.c,s.d+t.d,s.e+t.e,s.f+t.f,s.g+t.g,s.h+t.h⟩
def t1 (s:S8) (k x:W):W:=s.h+(rr s.e 6 ^^^ rr s.e 11 ^^^ rr s.e 25)+((s.e &&& s.f) ^^^ (~~~s.e &&& s.g))+k+x
def t2 (s:S8):W:=(rr s.a 2 ^^^ rr s.a 13 ^^^ rr s.a 22)+((s.a &&& s.b) ^^^ (s.a &&& s.c) ^^^ (s.b &&& s.c))
def S8.rnd (s:S8) (k x:W):S8:=⟨t1 s k x+t2 s,s.a,s.b,s.c,s.d+t1 s k x,s.e,s.f,s.g⟩
def kW (i:Nat):W:=yaW 32 (Kf.getD i 0)
def lG (ws:Nat→W) (s:S8):Nat→S8
 | 0=>s
 | i+1=>(lG ws s i).rnd (kW i) (ws i)
def B32 (b:UInt8):W:=b.toBitVec.setWidth 32
theorem Zd (b:UInt8):(B32 b).toNat=b.toNat:=by
 unfold B32
 rw [BitVec.toNat_setWidth]
 have:b.toBitVec.toNat=b.toNat:=rfl
 rw [this]
 have:=b.toNat_lt
 omega
theorem Ub {x:W} {b:UInt8} {K:V→Prop}:cN .or false .u32 (x.toNat:Int) (b.toNat:Int) K=K (w (x ||| B32 b)):=by
 rw [show (b.toNat:Int)=((B32 b).toNat:Int) by rw [Zd],Nk]
theorem Fg {b:UInt8} {n:Nat} {K:V→Prop} (hn:n≤32):bU .shl .u32 (b.toNat:Int) (n:Int) K=K (w (B32 b <<< n)):=by
 rw [show (b.toNat:Int)=((B32 b).toNat:Int) by rw [Zd],Fh hn]
def word (b0 b1 b2 b3:UInt8):W:=(B32 b0 <<< 24) ||| (B32 b1 <<< 16) ||| (B32 b2 <<< 8) ||| B32 b3
theorem Va (b0 b1 b2 b3:UInt8):(((((0#32 <<< 8 ||| B32 b0) <<< 8) ||| B32 b1) <<< 8 ||| B32 b2) <<< 8 ||| B32 b3)=word b0 b1 b2 b3:=by
 unfold word
 have h:(0#32 <<< 8 ||| B32 b0)=B32 b0:=by simp
 rw [h]
 simp only [BitVec.shiftLeft_or_distrib,←BitVec.shiftLeft_add]
def wn (l:List W) (i:Nat):W:=l.getD i 0
def next (ws:List W):W :=
 let i:=ws.length
 let x:=wn ws (i-15)
 let y:=wn ws (i-2)
 wn ws (i-16)+(rr x 7 ^^^ rr x 18 ^^^ (x >>> 3))+wn ws (i-7)+(rr y 17 ^^^ rr y 19 ^^^ (y >>> 10))
def bn (bs:List UInt8) (i:Nat):UInt8:=bs.getD i 0
def tU (bs:List UInt8) (i:Nat):W:=word (bn bs (4*i)) (bn bs (4*i+1)) (bn bs (4*i+2)) (bn bs (4*i+3))
def wds (bs:List UInt8):Nat→List W
 | 0=>[]
 | i+1=>wds bs i++[if i<16 then tU bs i else next (wds bs i)]
theorem fE (bs:List UInt8):∀ i,(wds bs i).length=i
 | 0=>rfl
 | i+1=>by simp [wds,fE bs i]
def eB (bs:List UInt8) (i:Nat):List W:=wds bs i++yaq (64-i) 0
def comp (s:S8) (bs:List UInt8):S8:=s.add (lG (fun i=>wn (wds bs 64) i) s 64)
def iv:S8:=⟨1779033703,3144134277,1013904242,2773480762,1359893119,2600822924,528734635,1541459225⟩
def ws (l:List W):List V:=l.map w
theorem oM {l:List W}:(ws l).length=l.length:=by simp [ws]
theorem Uy {l:List W}:(ws l).all isC=true:=by simp [ws,isC,isD]
theorem dC {l:List W} {q:List Blk}:wfL q (ws l):=by
 unfold ws
 induction l with
 | nil=>trivial
 | cons x r ih=>exact ⟨trivial,ih⟩
theorem Uw {l:List W} {n:Nat}:(ws l).take n=ws (l.take n):=by simp [ws,yaX]
theorem Ux {l:List W} {n:Nat}:(ws l).drop n=ws (l.drop n):=by simp [ws,ybl]
theorem Pr {l:List W} {f:Nat→Option Nat}:cI f (ws l)=ws l:=by
 unfold ws
 induction l with
 | nil=>rfl
 | cons x r ih=>exact congrArg (w x::·) ih
theorem Zp {l:List W} {i:Nat} {x:W} (hi:i<l.length):(ws l).take i++w x::(ws l).drop (i+1)=ws (l.set i x):=by
 unfold ws
 rw [List.map_set,ybS,if_pos (by simpa using hi)]
theorem Dm {l:List W} {i:Nat} {x:W} (hi:i<l.length):(ws l).take i++[w x]++(ws l).drop (i+1)=ws (l.set i x):=by
 rw [←Zp hi]
 simp
theorem o4 {l:List W} {i:Nat} (hi:i<l.length):(ws l)[i]?=some (w (wn l i)):=by
 unfold ws wn
 rw [ybm,yam hi,yak,yam hi]
 rfl
def z64:List W:=yaq 64 0
theorem lH:z64.length=64:=rfl
theorem w0:yad V.v (ybF 64 (Value.int IntKind.u32 0)).toList=ws z64:=rfl
theorem Uz {l:List W} (h:l.length=64):(ws l).take 64=ws l:=by rw [Uw,yac (by omega)]
theorem Lh {l:List W} (h:l.length=64):(ws l).drop 64=[]:=by rw [Ux,yaz (by omega)];rfl
attribute [irreducible] ws z64
def by1 (b:UInt8):List V:=[u8 b]
theorem Yx {b:UInt8}:(by1 b)[0]?=some (u8 b):=rfl
end Go.Fx.E
namespace Go.Fx.E
open Go Go.Fx
abbrev Bs:=List UInt8
def blocks (s:S8) (m:Bs):Nat→S8
 | 0=>s
 | k+1=>comp (blocks s m k) ((m.drop (64*k)).take 64)
theorem sD {s:S8} {m c:Bs}:∀ {k:Nat},64*k≤m.length→blocks s (m++c) k=blocks s m k
 | 0,_=>rfl
 | k+1,h=>by
  rw [blocks,blocks,sD (by omega),ybn (by omega),yaS (by simp;omega)]
structure Stm where
 st:S8
 blk:Bs
 n:Nat
structure Rp (S:Stm) (m:Bs):Prop where
 n:S.n=m.length
 len:S.blk.length=64
 st:S.st=blocks iv m (m.length/64)
 blk:S.blk.take (m.length%64)=m.drop (64*(m.length/64))
def mH (blk c:Bs) (j:Nat):Bs:=blk.take j++c++blk.drop (j+c.length)
theorem Gt {blk c:Bs} {j:Nat} (h:j+c.length≤blk.length):(mH blk c j).length=blk.length:=by
 unfold mH;simp;omega
theorem Rp.step {S:Stm} {m c:Bs} (h:Rp S m) (hc:S.n%64+c.length≤64) :
  Rp ⟨if S.n%64+c.length=64 then comp S.st (mH S.blk c (S.n%64)) else S.st,mH S.blk c (S.n%64),S.n+c.length⟩ (m++c):=by
 have hn:=h.n
 have hl:=h.len
 have hb:=h.blk
 have hdl:(m.drop (64*(m.length/64))).length=m.length%64:=by rw [ybo];omega
 rw [hn] at hc ⊢
 have hpl:(mH S.blk c (m.length%64)).length=64:=by rw [Gt (by omega),hl]
 have htk:(mH S.blk c (m.length%64)).take (m.length%64+c.length)=m.drop (64*(m.length/64))++c:=by
  unfold mH
  rw [hb,yaS (by rw [yag,hdl];exact yab _),yac (by rw [yag,hdl];exact yab _)]
 by_cases h64:m.length%64+c.length=64
 ·have e1:(m++c).length/64=m.length/64+1:=by rw [yag];omega
  have e2:(m++c).length%64=0:=by rw [yag];omega
  refine ⟨by simp,hpl,?_,?_⟩
  ·simp only [if_pos h64]
   rw [e1,blocks,sD (by omega),h.st]
   congr 1
   rw [ybn (by omega),←htk,h64,List.take_take,Nat.min_self,yac (by omega)]
  ·rw [e2,e1]
   simp only [yaN]
   rw [yaz (by rw [yag];omega)]
 ·have e1:(m++c).length/64=m.length/64:=by rw [yag];omega
  have e2:(m++c).length%64=m.length%64+c.length:=by rw [yag];omega
  refine ⟨by simp,hpl,?_,?_⟩
  ·simp only [if_neg h64]
   rw [e1,sD (by omega),h.st]
  ·rw [e1,e2]
   show (mH S.blk c (m.length%64)).take _=_
   rw [htk,ybn (by omega)]
def len8 (n:Nat):Bs:=(yat 8).map fun i=>UInt8.ofNat (8*n/2 ^ (56-8*i))
def zeros (n:Nat):Nat:=(119-n%64)%64
def pad (n:Nat):Bs:=128::(yaq (zeros n) 0++len8 n)
theorem xN (n:Nat):(n+1+zeros n)%64=56:=by unfold zeros;omega
def acJ (m:Bs):S8:=blocks iv (m++pad m.length) ((m++pad m.length).length/64)
def rQ (s:S8) (i:Nat):UInt8:=UInt8.ofNat ((wn s.l (i/4)).toNat/2 ^ (24-8*(i%4)))
def sha (m:Bs):Bs:=(yat 32).map (rQ (acJ m))
def sC (st:S8) (blk:Bs) (n:Nat):List V:=st.enc++(blk.map u8++[n64 n])
section
variable {s:S8} {b:Bs} {n:Nat}
theorem eQ (h:b.length=64):(sC s b n).length=73:=by simp [sC,S8.enc,h]
theorem tX (h:b.length=64):(b.map u8).length=64:=by simpa using h
theorem Vm (h:b.length=64):(sC s b n)[72]?=some (n64 n):=by
 unfold sC
 rw [ybT (by simp [S8.enc]),ybT (by simp [S8.enc,h])]
 simp [S8.enc,h]
theorem acM:(sC s b n).take 8=s.enc:=by
 unfold sC
 rw [yaS (by simp [S8.enc]),yac (by simp [S8.enc])]
theorem Zx {m:Nat} (h:b.length=64):(sC s b n).take 72++[n64 m]++(sC s b n).drop 73=sC s b m:=by
 rw [yaz (by rw [eQ h];exact yab _),yap]
 unfold sC
 rw [show (72:Nat)=s.enc.length+64 from rfl,ybU,yaS (by rw [tX h];exact yab _),yac (by rw [tX h];exact yab _),yaJ]
theorem Zw {t:S8}:t.enc++(sC s b n).drop 8=sC t b n:=by
 unfold sC
 rw [show (8:Nat)=s.enc.length from rfl,ybG]
theorem Vn {c:Bs} {j:Nat} (h:b.length=64) (hj:j+c.length≤64):(sC s b n).take (8+j)++c.map u8++(sC s b n).drop (8+j+c.length)=sC s (mH b c j) n:=by
 unfold sC mH
 have e8:(8:Nat)=s.enc.length:=rfl
 rw [show 8+j=s.enc.length+j from rfl,ybU,Nat.add_assoc,List.drop_length_add_append]
 rw [yaS (by simp;omega),ybn (by simp;omega)]
 simp [yaX,ybl,yaJ]
theorem Vl (h:b.length=64):(((sC s b n).drop 8).take 64).map (fun c=>[c])=b.map by1:=by
 unfold sC
 rw [show (8:Nat)=s.enc.length from rfl,ybG,yaS (by rw [tX h];exact yab _),yac (by rw [tX h];exact yab _),List.map_map]
 rfl
theorem Qp (h:b.length=64):(((sC s b n).drop 8).take 64).all isD=true:=by
 unfold sC
 rw [show (8:Nat)=s.enc.length from rfl,ybG,yaS (by rw [tX h];exact yab _),yac (by rw [tX h];exact yab _)]
 simp [isD]
theorem Vo:(sC s b n).all isC=true:=by simp [sC,S8.enc,isC,isD]
theorem j9 {q:List Blk}:wfL q (sC s b n):=by
 have:∀ l:List V,l.all isD=true→wfL q l:=by
  intro l
  induction l with
  | nil=>intro _;trivial
  | cons x r ih =>
   intro h
   simp only [yaF,ybb] at h
   refine ⟨?_,ih h.2⟩
   cases x<;>simp [isD] at h<;>trivial
 exact this _ (by simp [sC,S8.enc,isD])
theorem lL (h:b.length=64):(sC s b n).take 73=sC s b n:=yac (by rw [eQ h];exact yab _)
theorem yC (h:b.length=64):(sC s b n).drop 73=[]:=yaz (by rw [eQ h];exact yab _)
theorem w7 {f:Nat→Option Nat}:cI f (sC s b n)=sC s b n:=by
 have:∀ l:List V,l.all isD=true→(∀ x∈l,∃ u,x=.v u)→cI f l=l:=by
  intro l
  induction l with
  | nil=>intro _ _;rfl
  | cons x r ih =>
   intro h hx
   obtain ⟨u,rfl⟩:=hx x ybc
   simp only [yaF,ybb] at h
   show V.v u::cI f r=_
   rw [ih h.2 fun y hy=>hx y (ybd _ hy)]
 refine this _ (by simp [sC,S8.enc,isD]) ?_
 intro x hx
 simp only [sC,S8.enc,List.mem_append,ybp,yaY,yaG,or_false] at hx
 rcases hx with (rfl|rfl|rfl|rfl|rfl|rfl|rfl|rfl)|⟨u,_,rfl⟩|rfl<;>exact ⟨_,rfl⟩
end
attribute [irreducible] sC
open Go Go.Fx Go.Proofs
abbrev Ok (f:FuncId) (xs:List V) (R:V→List Blk→Prop):Prop:=OkN Tryz.prog f xs [] [] R
theorem ok_of {f:FuncId} {l0 l:LCode} {rs:List gY} {nt:Nat} (hl:rlF Tryz.prog f l0=some (l,rs,nt)) {args:List V} {R:V→List Blk→Prop} (hlen:args.length≤nt)
  (h:aw (cxN Tryz.prog []) l (eL [] 0 rs R) (fun _ _=>False) (eL [] 0 rs R) ⟨aK 0 args,[],0⟩):Ok f args R :=
 eR pol [] hl hlen trivial (fun k hk=>by simp at hk) h
theorem alX {a c:Int} {K:V→Prop} {x:Bool}:cN .and x .u64 a c K=K (.v (.int .u64 (IntKind.u64.wrap ((yao 64 a &&& yao 64 c).toNat:Int)))):=rfl
theorem ahV:Dy 0 64=some nQ:=by kernel_rfl
theorem ahU:Dy 1 64=some nQ:=by kernel_rfl
def sb (l:Bs):ByteArray:=⟨l.toArray⟩
abbrev sv (l:Bs):V:=.v (.string (sb l))
theorem eW {l:Bs}:(sb l).size=l.length:=rfl
theorem Lw {l:Bs}:(sb l).toList=l:=(ByteArray.toList_eq _).trans rfl
theorem acL {b:ByteArray}:∃ l,b=sb l:=⟨b.data.toList,by cases b;simp [sb]⟩
theorem afG:Value.string ⟨#[]⟩=.string (sb []):=rfl
theorem Jf {l:Bs} {a b:Nat}:(sb l).extract a b=sb ((l.take b).drop a):=by
 apply ByteArray.ext
 show ((sb l).extract a b).data=_
 rw [ByteArray.data_extract]
 apply Array.ext'
 simp [sb,Array.toList_extract,List.extract,List.drop_take]
theorem aQ {P:Program} {fx:List Nat}:(cxN P fx).bn=[]:=rfl
theorem aJ {P:Program} {fx:List Nat}:(cxN P fx).fx=fx:=rfl
theorem Yn {h:List Blk}:aD [] h=True:=rfl
theorem tL {cx:Cx} {f:FuncId} {args:List V} {e:Env} {h:List Blk} {b:Nat} {K:V→St→Prop} {G:Type} (Q:G→Prop) (xs:List V) (x:G→V) (hC:cx.C f xs [] [] (IsQ Q x (fun _=>[])))
  (h1:aF h (fun _=>none) args∧wkL xs (aN h (fun _=>none) args)) (hx:∀ g,ren (fun j=>some (h.length+j)) (x g)=x g) (keep:aD cx.fx h) (h3:∀ g,Q g→K (x g) ⟨e,h,b⟩):lS cx f args ⟨e,h,b⟩ K:=by
 refine sB xs _ h1 hC ?_
 rintro r h' ⟨g,hg,rfl,rfl⟩
 simp only [yaA,yap]
 exact ⟨keep,by rw [hx];exact h3 g hg⟩
theorem cD {fx:List Nat} {f:(St→Prop)→St→Prop} {s:St} {G:Type} (pat:G→St) (I:G→Prop) (μ:G→Nat) (g:G) (h0:I g) (h1:leS fx s (pat g))
  (h:∀ g,I g→∀ N:St→Prop,(∀ s' g',I g'→μ g'<μ g→leS fx s' (pat g')→N s')→f N (pat g)):Ac fx f s :=
 aT pat I μ g h0 h1 fun g hg=>h g hg _ fun s' g' a b c=>⟨g',⟨a,b⟩,c⟩
theorem acU:∀ n:Fin 32,n.val≠0→IntKind.u64.wrap (32-((32-n.val:Nat):Int))=(n.val:Int):=by decide
theorem y4 (x:W) (n:Nat) (h:1≤n∧n≤31):Ok 156 [w x,.i (-(n:Int))] (Is (w (rr x n))):=by
 have ra:=acW ⟨n,by omega⟩ (by simp;omega)
 have rb:=acV ⟨n,by omega⟩ (by simp;omega)
 have rc:=acU ⟨n,by omega⟩ (by simp;omega)
 simp only at ra rb rc
 refine ok_of lw156 (by simp) ?_
 unfold c156
 have s1:∀ {K:V→Prop},bU .shl .u32 (x.toNat:Int) ((32-n:Nat):Int) K=K (w (x <<< (32-n))):=Fh (by omega)
 have s2:∀ {K:V→Prop},bU .shr .u32 (x.toNat:Int) (n:Int) K=K (w (x >>> n)):=pC (by omega)
 simp -implicitDefEqProofs only [rX,↓rY,aA,↓reduceIte,Nat.reduceEqDiff,reduceCtorEq,aL,aM,wfV,aK,↓alX,ra,rb,rc,↓s1,↓s2,↓Nk]
 unfold rr
 rw [BitVec.or_comm]
theorem pW (x:W) (n:Nat) (h:1≤n∧n≤31):Ok 152 [w x,.i n] (Is (w (rr x n))):=by
 refine ok_of lw152 (by simp) ?_
 unfold c152
 have s1:∀ {K:V→Prop},bU .shl .u32 (x.toNat:Int) ((32-n:Nat):Int) K=K (w (x <<< (32-n))):=Fh (by omega)
 have s2:∀ {K:V→Prop},bU .shr .u32 (x.toNat:Int) (n:Int) K=K (w (x >>> n)):=pC (by omega)
 have e:(32-(n:Int))=((32-n:Nat):Int):=by omega
 simp -implicitDefEqProofs only [rX,↓rY,aA,↓reduceIte,Nat.reduceEqDiff,reduceCtorEq,aL,aM,wfV,aK,e,↓s1,↓s2,↓Nk]
 exact ⟨by simp only [lo,Fx.hi];omega,rfl⟩
theorem Eh {a:Nat} (h:a≤31):IntKind.i64.wrap (-(a:Int))=-(a:Int):=by
 have:=(show ∀ n:Fin 32,IntKind.i64.wrap (-(n.val:Int))=-(n.val:Int) by decide) ⟨a,by omega⟩
 simpa using this
theorem Ya (x:W) (a b c:Nat) (ha:1≤a∧a≤31) (hb:1≤b∧b≤31) (hc:1≤c∧c≤31):Ok 149 [w x,.i a,.i b,.i c] (Is (w (rr x a ^^^ rr x b ^^^ rr x c))):=by
 refine ok_of lw149 (by simp) ?_
 unfold c149
 simp -implicitDefEqProofs only [rX,aA,↓reduceIte,Nat.reduceEqDiff,Nat.reduceAdd,reduceCtorEq,aK,Eh ha.2,Eh hb.2,Eh hc.2]
 refine aE (y4 x a ha) (by simp [aF,aG,aN,bD,wkL,wk,wkR]) rfl trivial ?_
 simp -implicitDefEqProofs only [rX,↓reduceIte,Nat.reduceEqDiff,reduceCtorEq,Eh hb.2,Eh hc.2]
 refine aE (y4 x b hb) (by simp [aF,aG,aN,bD,wkL,wk,wkR]) rfl trivial ?_
 simp -implicitDefEqProofs only [rX,↓reduceIte,Nat.reduceEqDiff,reduceCtorEq,Eh hb.2,Eh hc.2,↓fS]
 refine aE (y4 x c hc) (by simp [aF,aG,aN,bD,wkL,wk,wkR]) rfl trivial ?_
 simp -implicitDefEqProofs only [rX,↓reduceIte,Nat.reduceEqDiff,aL,aM,wfV,Eh hb.2,Eh hc.2,↓fS]
set_option maxRecDepth 20000
theorem oO (bs:List UInt8) {i:Nat} (hi:i≤64):(eB bs i).length=64:=by
 unfold eB
 rw [yag,fE,yaZ]
 omega
theorem Qc (bs:List UInt8):eB bs 0=z64:=by unfold eB z64;rfl
theorem Ls (bs:List UInt8):eB bs 64=wds bs 64:=by simp [eB]
theorem xV (bs:List UInt8) {i:Nat} (hi:i<64) (x:W) (hx:x=if i<16 then tU bs i else next (wds bs i)):(eB bs i).set i x=eB bs (i+1):=by
 unfold eB
 rw [ybq _ _ (by rw [fE];exact yab _),fE,ybr,show 64-i=(64-(i+1))+1 by omega,ybs,yaB]
 subst hx
 simp [wds]
theorem iC (bs:List UInt8) {i j:Nat} (hi:i≤64) (hj:j<i):wn (eB bs i) j=wn (wds bs i) j:=by
 unfold eB wn
 rw [yak,yak,ybV (by rw [fE];exact hj)]
def part (bs:List UInt8) (i:Nat):Nat→W
 | 0=>0
 | j+1=>part bs i j <<< 8 ||| B32 (bn bs (4*i+j))
theorem aaD (bs:List UInt8) (i:Nat):part bs i 4=tU bs i:=by
 unfold tU
 rw [←Va]
 rfl
def nC (bs:List UInt8) (i j:Nat):List W:=(eB bs i).set i (part bs i j)
theorem Zt (bs:List UInt8) {i:Nat} (hi:i<64):nC bs i 0=eB bs i:=by
 unfold nC eB
 rw [ybq _ _ (by rw [fE];exact yab _),fE,ybr,show 64-i=(64-(i+1))+1 by omega,ybs,yaB]
 rfl
theorem Qe (bs:List UInt8) {i j:Nat} (hi:i≤64):(nC bs i j).length=64:=by
 unfold nC
 rw [List.length_set,oO bs hi]
theorem Qf (bs:List UInt8) {i j:Nat} (hi:i<64):wn (nC bs i j) i=part bs i j:=by
 unfold nC wn
 rw [yak,List.getElem?_set_self (by rw [oO bs (by omega)];exact hi)]
 rfl
theorem Qd (bs:List UInt8) {i j:Nat} (x:W) (hx:x=part bs i (j+1)):(nC bs i j).set i x=nC bs i (j+1):=by
 unfold nC
 rw [List.set_set,hx]
abbrev byV (bs:List UInt8):V:=.bro 1 (bs.map by1)
set_option maxHeartbeats 1000000 in
theorem adY (bs:List UInt8) (hb:bs.length=64):Ok 148 [byV bs] (Is (.agg (ws (wds bs 64)))):=by
 refine ok_of lw148 (by simp) ?_
 unfold c148
 simp -implicitDefEqProofs only [rX,↓rY,aA,cells?,Nat.reduceAdd,aC,aJ,aK,w0]
 have lW:(wds bs 64).length=64:=fE bs 64
 refine cD (fun i:Nat=>(⟨[(11,.i i),(3,.ptr 1 0 0),(2,.ptr 0 0 0),(0,byV bs)],[.var (ws z64),.var (ws (eB bs i))],2⟩:St)) (fun i=>i≤64) (fun i=>64-i) 0 (yan _) ?_ ?_
 ·rw [Qc]
  exact ⟨by simp -implicitDefEqProofs only [rX,↓reduceIte,Nat.reduceEqDiff,reduceCtorEq,leE];rfl,bA _,trivial,by simp -implicitDefEqProofs only [rX,aB,wfE,wfV],⟨dC,dC,trivial⟩⟩
 intro i hi N hN
 simp only [c148l0]
 simp -implicitDefEqProofs only [rX,↓rY,aA,cells?,splice,↓reduceIte,Nat.reduceEqDiff,Nat.reduceAdd,reduceCtorEq,dP,aL,aM,wfV,aQ,aJ,yah]
 cases h1:decide ((i:Int)<64) with
 | false =>
  have h1':=of_decide_eq_false h1
  have:i=64:=by omega
  subst this
  simp -implicitDefEqProofs only [rX,↓rY,Ls,oM,Uz lW,lW,lH,Lh lH,Uy,dC]
 | true =>
  have h1':=of_decide_eq_true h1
  have hi64:i<64:=by omega
  have lT:(eB bs i).length=64:=oO bs hi
  have fin:∀ (x:W) (e:Env),x=(if i<16 then tU bs i else next (wds bs i))→get e 3=.ptr 1 0 0→get e 2=.ptr 0 0 0→get e 0=byV bs →
    N (⟨(11,.i ((i:Int)+1))::e,[.var (ws z64),.var (ws ((eB bs i).set i x))],2⟩:St):=by
   intro x e hx e3 e2 e0
   refine hN _ (i+1) (by omega) (by omega) ?_
   rw [xV bs hi64 x hx]
   exact ⟨by simp -implicitDefEqProofs only [rX,↓reduceIte,Nat.reduceEqDiff,reduceCtorEq,leE,e3,e2,e0];simp,bA _,trivial,by simp -implicitDefEqProofs only [rX,aB,wfE,wfV],⟨dC,dC,trivial⟩⟩
  have sp:∀ x:W,yaf i (ws (eB bs i))++[w x]++yaH (i+1) (ws (eB bs i))=ws ((eB bs i).set i x):=fun x=>Dm (by omega)
  simp -implicitDefEqProofs only [↓rY]
  cases h2:decide ((i:Int)<16) with
  | true =>
   have h2':=of_decide_eq_true h2
   have h4:yaf ((4*(i:Int)+4).toNat-(4*(i:Int)).toNat) (yaH (4*(i:Int)).toNat (yad by1 bs))=((bs.drop (4*i)).take 4).map by1:=by
    rw [show (4*(i:Int)+4).toNat-(4*(i:Int)).toNat=4 by omega,show (4*(i:Int)).toNat=4*i by omega,yaX,ybl]
   have l4:((bs.drop (4*i)).take 4).length=4:=by simp;omega
   have a1:(lo IntKind.i64≤4*(i:Int)∧4*(i:Int)≤Fx.hi IntKind.i64):=by simp only [lo,Fx.hi];omega
   have a2:(lo IntKind.i64≤4*(i:Int)+4∧4*(i:Int)+4≤Fx.hi IntKind.i64):=by simp only [lo,Fx.hi];omega
   have a3:((0≤4*(i:Int)∧4*(i:Int)≤4*(i:Int)+4)∧4*(i:Int)+4≤(bs.length:Int)∧(bs.length:Int)≤(bs.length:Int)):=by omega
   simp -implicitDefEqProofs only [rX,↓rY,h4,l4,eq_true a1,eq_true a2,eq_true a3]
   intro _
   refine cD (fun j:Nat=>(⟨[(24,.i j),(23,.i 4),(22,.bro 1 (((bs.drop (4*i)).take 4).map by1)),(4,.i i),(11,.i i),(3,.ptr 1 0 0),(2,.ptr 0 0 0),(0,byV bs)],[.var (ws z64),.var (ws (nC bs i j))],2⟩:St)) (fun j=>j≤4) (fun j=>4-j) 0 (yan _) ?_ ?_
   ·rw [Zt bs hi64]
    exact ⟨by simp -implicitDefEqProofs only [rX,↓reduceIte,Nat.reduceEqDiff,reduceCtorEq,leE];exact ⟨rfl,rfl⟩,bA _,trivial,by simp -implicitDefEqProofs only [rX,aB,wfE,wfV],⟨dC,dC,trivial⟩⟩
   intro j hj M hM
   have lP:(nC bs i j).length=64:=Qe bs hi
   simp only [c148l1]
   simp -implicitDefEqProofs only [rX,↓rY,aA,cells?,splice,↓reduceIte,Nat.reduceEqDiff,Nat.reduceAdd,yae,yaa,aQ,Yx,yah]
   cases h3:decide ((j:Int)<4) with
   | false =>
    have h3':=of_decide_eq_false h3
    have:j=4:=by omega
    subst this
    have hq:nC bs i 4=(eB bs i).set i (tU bs i):=by unfold nC;rw [aaD]
    simp -implicitDefEqProofs only [↓rY,hq]
    exact ⟨by simp only [lo,Fx.hi];omega,fin _ _ (by rw [if_pos (by omega)]) rfl rfl rfl⟩
   | true =>
    have h3':=of_decide_eq_true h3
    have hj4:j<4:=by omega
    have hg:((bs.drop (4*i)).take 4)[j]'(by omega)=bn bs (4*i+j):=by
     unfold bn
     rw [ybH,List.getElem_drop,yak,yam (by omega)]
     rfl
    have s8:∀ {x:W} {K:V→Prop},bU .shl .u32 (x.toNat:Int) 8 K=K (w (x <<< 8)):=fun {x K}=>Fh (n:=8) (by omega)
    have gi:(ws (nC bs i j))[i]?=some (w (part bs i j)):=by rw [o4 (by omega),Qf bs hi64]
    have spP:∀ x:W,yaf i (ws (nC bs i j))++[w x]++yaH (i+1) (ws (nC bs i j))=ws ((nC bs i j).set i x):=fun x=>Dm (by omega)
    simp -implicitDefEqProofs only [rX,↓rY,isC,Nat.reduceLeDiff,gi,↓s8,l4,hg,↓Ub,spP,oM,lP]
    refine ⟨by omega,⟨by omega,by omega,?_,by omega,by omega,by simp only [lo,Fx.hi];omega,?_⟩⟩
    ·have:=(bn bs (4*i+j)).toNat_lt
     simp only [lo,Fx.hi];omega
    refine hM _ (j+1) (by omega) (by omega) ?_
    rw [show (nC bs i j).set i (part bs i j <<< 8 ||| B32 (bn bs (4*i+j)))=nC bs i (j+1) from Qd bs _ rfl]
    exact ⟨by simp -implicitDefEqProofs only [rX,↓reduceIte,Nat.reduceEqDiff,reduceCtorEq,leE];simp,bA _,trivial,by simp -implicitDefEqProofs only [rX,aB,wfE,wfV],⟨dC,dC,trivial⟩⟩
  | false =>
   have h2':=of_decide_eq_false h2
   have g15:(ws (eB bs i))[((i:Int)-15).toNat]?=some (w (wn (wds bs i) (i-15))):=by
    rw [show ((i:Int)-15).toNat=i-15 by omega,o4 (by omega),iC bs hi (by omega)]
   have g2:(ws (eB bs i))[((i:Int)-2).toNat]?=some (w (wn (wds bs i) (i-2))):=by
    rw [show ((i:Int)-2).toNat=i-2 by omega,o4 (by omega),iC bs hi (by omega)]
   have g16:(ws (eB bs i))[((i:Int)-16).toNat]?=some (w (wn (wds bs i) (i-16))):=by
    rw [show ((i:Int)-16).toNat=i-16 by omega,o4 (by omega),iC bs hi (by omega)]
   have g7:(ws (eB bs i))[((i:Int)-7).toNat]?=some (w (wn (wds bs i) (i-7))):=by
    rw [show ((i:Int)-7).toNat=i-7 by omega,o4 (by omega),iC bs hi (by omega)]
   have s3:∀ {x:W} {K:V→Prop},bU .shr .u32 (x.toNat:Int) 3 K=K (w (x >>> 3)):=fun {x K}=>pC (n:=3) (by omega)
   have s10:∀ {x:W} {K:V→Prop},bU .shr .u32 (x.toNat:Int) 10 K=K (w (x >>> 10)):=fun {x K}=>pC (n:=10) (by omega)
   simp -implicitDefEqProofs only [↓rY,g15,g2]
   refine ⟨by simp only [lo,Fx.hi];omega,by omega,by simp only [lo,Fx.hi];omega,by omega,?_⟩
   refine aE (y4 (wn (wds bs i) (i-15)) 7 (by omega)) (by simp [aF,aG,aN,bD,wkL,wk,wkR]) rfl trivial ?_
   simp -implicitDefEqProofs only [rX,aA,↓reduceIte,Nat.reduceEqDiff]
   refine aE (y4 (wn (wds bs i) (i-15)) 18 (by omega)) (by simp [aF,aG,aN,bD,wkL,wk,wkR]) rfl trivial ?_
   simp -implicitDefEqProofs only [qY,zc,zi,zj,zm,zv,zJ,kM,kQ,kS,kT,kX,aA,yaC,yar,↓reduceIte,Nat.reduceEqDiff,kZ,yap,yay,Nat.reduceAdd,yau,yaA,true_and,qar,↓fS,↓s3]
   refine aE (y4 (wn (wds bs i) (i-2)) 17 (by omega)) (by simp [aF,aG,aN,bD,wkL,wk,wkR]) rfl trivial ?_
   simp -implicitDefEqProofs only [rX,aA,↓reduceIte,Nat.reduceEqDiff]
   refine aE (y4 (wn (wds bs i) (i-2)) 19 (by omega)) (by simp [aF,aG,aN,bD,wkL,wk,wkR]) rfl trivial ?_
   simp -implicitDefEqProofs only [qY,qZ,zi,zj,zm,zq,zr,zv,zJ,zX,kQ,kR,kS,kT,kX,aA,cells?,yaC,yar,yaB,splice,kY,yak,yav,↓reduceIte,Nat.reduceEqDiff,yaw,kZ,yap,yay,Nat.reduceAdd,yaF,yaL,isC,yax,yaD,true_and,and_true,and_self,yaG,not_false_eq_true,Nat.reduceLeDiff,lg0,wl,qar,↓qas,↓qau,↓qaw,↓qaA,↓qaC,↓qaD,↓qaH,↓qcn,↓qcp,yaa,aQ,yah,↓pD,↓fS,↓s10,g16,g7,yah,sp,oM,lT]
   refine ⟨by simp only [lo,Fx.hi];omega,by omega,by simp only [lo,Fx.hi];omega,by omega,by omega,by omega,by simp only [lo,Fx.hi];omega,?_⟩
   exact fin _ _ (by rw [if_neg (by omega)];unfold next;rw [fE]) rfl rfl rfl
set_option maxRecDepth 20000
theorem Fj {bs:List UInt8} {i:Nat} (h:i<bs.length):bs[i]=bn bs i:=by
 unfold bn
 rw [yak,yam h]
 rfl
theorem b8 {b:UInt8}:lo .u32≤(b.toNat:Int)∧(b.toNat:Int)≤Fx.hi .u32:=by
 have:=b.toNat_lt
 simp only [lo,Fx.hi];omega
set_option maxHeartbeats 1000000 in
theorem adW (bs:List UInt8) (hb:bs.length=64):Ok 151 [byV bs] (Is (.agg (ws (wds bs 64)))):=by
 refine ok_of lw151 (by simp) ?_
 unfold c151
 simp -implicitDefEqProofs only [rX,↓rY,aA,cells?,Nat.reduceAdd,aC,aJ,aK,w0]
 have lW:(wds bs 64).length=64:=fE bs 64
 refine cD (fun i:Nat=>(⟨[(4,.i i),(3,.ptr 1 0 0),(2,.ptr 0 0 0),(0,byV bs)],[.var (ws z64),.var (ws (eB bs i))],2⟩:St)) (fun i=>i≤16) (fun i=>16-i) 0 (yan _) ?_ ?_
 ·rw [Qc]
  exact ⟨by simp -implicitDefEqProofs only [rX,↓reduceIte,Nat.reduceEqDiff,reduceCtorEq,leE];rfl,bA _,trivial,by simp -implicitDefEqProofs only [rX,aB,wfE,wfV],⟨dC,dC,trivial⟩⟩
 intro i hi N hN
 have lT:(eB bs i).length=64:=oO bs (by omega)
 have sp:∀ x:W,yaf i (ws (eB bs i))++[w x]++yaH (i+1) (ws (eB bs i))=ws ((eB bs i).set i x):=fun x=>Dm (by omega)
 simp only [c151l0]
 simp -implicitDefEqProofs only [rX,↓rY,aA,cells?,splice,↓reduceIte,Nat.reduceEqDiff,Nat.reduceAdd,reduceCtorEq,yae,yaa,aQ,aJ,Yx,yah]
 cases h1:decide ((i:Int)<16) with
 | true =>
  have h1':=of_decide_eq_true h1
  have s24:∀ {b:UInt8} {K:V→Prop},bU .shl .u32 (b.toNat:Int) 24 K=K (w (B32 b <<< 24)):=fun {b K}=>Fg (n:=24) (by omega)
  have s16:∀ {b:UInt8} {K:V→Prop},bU .shl .u32 (b.toNat:Int) 16 K=K (w (B32 b <<< 16)):=fun {b K}=>Fg (n:=16) (by omega)
  have s8:∀ {b:UInt8} {K:V→Prop},bU .shl .u32 (b.toNat:Int) 8 K=K (w (B32 b <<< 8)):=fun {b K}=>Fg (n:=8) (by omega)
  have g0:(lo IntKind.i64≤4*(i:Int)∧4*(i:Int)≤Fx.hi IntKind.i64):=by simp only [lo,Fx.hi];omega
  have g1:(lo IntKind.i64≤4*(i:Int)+1∧4*(i:Int)+1≤Fx.hi IntKind.i64):=by simp only [lo,Fx.hi];omega
  have g2:(lo IntKind.i64≤4*(i:Int)+2∧4*(i:Int)+2≤Fx.hi IntKind.i64):=by simp only [lo,Fx.hi];omega
  have g3:(lo IntKind.i64≤4*(i:Int)+3∧4*(i:Int)+3≤Fx.hi IntKind.i64):=by simp only [lo,Fx.hi];omega
  have j0:(0≤4*(i:Int)∧4*(i:Int)<(bs.length:Int)):=by omega
  have j1:(0≤4*(i:Int)+1∧4*(i:Int)+1<(bs.length:Int)):=by omega
  have j2:(0≤4*(i:Int)+2∧4*(i:Int)+2<(bs.length:Int)):=by omega
  have j3:(0≤4*(i:Int)+3∧4*(i:Int)+3<(bs.length:Int)):=by omega
  have t0:(4*(i:Int)).toNat=4*i:=by omega
  have t1:(4*(i:Int)+1).toNat=4*i+1:=by omega
  have t2:(4*(i:Int)+2).toNat=4*i+2:=by omega
  have t3:(4*(i:Int)+3).toNat=4*i+3:=by omega
  have k0:4*i<bs.length:=by omega
  have k1:4*i+1<bs.length:=by omega
  have k2:4*i+2<bs.length:=by omega
  have k3:4*i+3<bs.length:=by omega
  have b0:=Fj k0
  have b1:=Fj k1
  have b2:=Fj k2
  have b3:=Fj k3
  simp -implicitDefEqProofs only [rX,↓rY,isC,Nat.reduceLeDiff,eq_true g0,eq_true g1,eq_true g2,eq_true g3,eq_true j0,eq_true j1,eq_true j2,eq_true j3,t0,t1,t2,t3,eq_true k0,eq_true k1,eq_true k2,eq_true k3,b0,b1,b2,b3,exists_prop,↓s24,↓s16,↓s8,↓Nk,↓Ub,eq_true b8,sp,oM,lT]
  refine ⟨by omega,by omega,by simp only [lo,Fx.hi];omega,?_⟩
  refine hN _ (i+1) (by omega) (by omega) ?_
  rw [show (eB bs i).set i (B32 (bn bs (4*i)) <<< 24 ||| B32 (bn bs (4*i+1)) <<< 16 ||| B32 (bn bs (4*i+2)) <<< 8 ||| B32 (bn bs (4*i+3)))=eB bs (i+1) from xV bs (by omega) _ (by rw [if_pos (by omega)];rfl)]
  exact ⟨by simp -implicitDefEqProofs only [rX,↓reduceIte,Nat.reduceEqDiff,reduceCtorEq,leE];simp,bA _,trivial,by simp -implicitDefEqProofs only [rX,aB,wfE,wfV],⟨dC,dC,trivial⟩⟩
 | false =>
  have h1':=of_decide_eq_false h1
  have:i=16:=by omega
  subst this
  simp -implicitDefEqProofs only [↓rY]
  clear hN N sp lT h1 h1' hi
  refine cD (fun i:Nat=>(⟨[(5,.i i),(3,.ptr 1 0 0),(2,.ptr 0 0 0),(0,byV bs)],[.var (ws z64),.var (ws (eB bs i))],2⟩:St)) (fun i=>16≤i∧i≤64) (fun i=>64-i) 16 (by omega) ?_ ?_
  ·exact ⟨by simp -implicitDefEqProofs only [rX,↓reduceIte,Nat.reduceEqDiff,reduceCtorEq,leE];rfl,bA _,trivial,by simp -implicitDefEqProofs only [rX,aB,wfE,wfV],⟨dC,dC,trivial⟩⟩
  rintro i ⟨hi0,hi⟩ N hN
  have lT:(eB bs i).length=64:=oO bs (by omega)
  simp only [c151l1]
  simp -implicitDefEqProofs only [rX,↓rY,rdK,aA,cells?,splice,↓reduceIte,Nat.reduceEqDiff,Nat.reduceAdd,aL,aM,wfV,aQ,aJ,yah]
  cases h1:decide ((i:Int)<64) with
  | false =>
   have h1':=of_decide_eq_false h1
   have:i=64:=by omega
   subst this
   simp -implicitDefEqProofs only [rX,↓rY,Ls,oM,Uz lW,lW,lH,Lh lH,Uy,dC]
  | true =>
   have h1':=of_decide_eq_true h1
   have sp:∀ x:W,yaf i (ws (eB bs i))++[w x]++yaH (i+1) (ws (eB bs i))=ws ((eB bs i).set i x):=fun x=>Dm (by omega)
   have g15:(ws (eB bs i))[((i:Int)-15).toNat]?=some (w (wn (wds bs i) (i-15))):=by
    rw [show ((i:Int)-15).toNat=i-15 by omega,o4 (by omega),iC bs hi (by omega)]
   have g2:(ws (eB bs i))[((i:Int)-2).toNat]?=some (w (wn (wds bs i) (i-2))):=by
    rw [show ((i:Int)-2).toNat=i-2 by omega,o4 (by omega),iC bs hi (by omega)]
   have g16:(ws (eB bs i))[((i:Int)-16).toNat]?=some (w (wn (wds bs i) (i-16))):=by
    rw [show ((i:Int)-16).toNat=i-16 by omega,o4 (by omega),iC bs hi (by omega)]
   have g7:(ws (eB bs i))[((i:Int)-7).toNat]?=some (w (wn (wds bs i) (i-7))):=by
    rw [show ((i:Int)-7).toNat=i-7 by omega,o4 (by omega),iC bs hi (by omega)]
   have s3:∀ {x:W} {K:V→Prop},bU .shr .u32 (x.toNat:Int) 3 K=K (w (x >>> 3)):=fun {x K}=>pC (n:=3) (by omega)
   have s10:∀ {x:W} {K:V→Prop},bU .shr .u32 (x.toNat:Int) 10 K=K (w (x >>> 10)):=fun {x K}=>pC (n:=10) (by omega)
   have a15:(lo IntKind.i64≤(i:Int)-15∧(i:Int)-15≤Fx.hi IntKind.i64):=by simp only [lo,Fx.hi];omega
   have c15:(0≤(i:Int)-15∧(i:Int)-15<((64:Nat):Int)):=by omega
   have a2:(lo IntKind.i64≤(i:Int)-2∧(i:Int)-2≤Fx.hi IntKind.i64):=by simp only [lo,Fx.hi];omega
   have c2:(0≤(i:Int)-2∧(i:Int)-2<((64:Nat):Int)):=by omega
   have a16:(lo IntKind.i64≤(i:Int)-16∧(i:Int)-16≤Fx.hi IntKind.i64):=by simp only [lo,Fx.hi];omega
   have c16:(0≤(i:Int)-16∧(i:Int)-16<((64:Nat):Int)):=by omega
   have a7:(lo IntKind.i64≤(i:Int)-7∧(i:Int)-7≤Fx.hi IntKind.i64):=by simp only [lo,Fx.hi];omega
   have c7:(0≤(i:Int)-7∧(i:Int)-7<((64:Nat):Int)):=by omega
   simp -implicitDefEqProofs only [rX,↓rY,g15,↓s3,eq_true a15,eq_true a2,eq_true a16,eq_true a7,eq_true c15,eq_true c2,eq_true c16,eq_true c7]
   refine aE (pW (wn (wds bs i) (i-15)) 7 (by omega)) (by simp [aF,aG,aN,bD,wkL,wk,wkR]) rfl trivial ?_
   simp -implicitDefEqProofs only [rX,aA,↓reduceIte,Nat.reduceEqDiff,aJ]
   refine aE (pW (wn (wds bs i) (i-15)) 18 (by omega)) (by simp [aF,aG,aN,bD,wkL,wk,wkR]) rfl trivial ?_
   simp -implicitDefEqProofs only [rX,↓rY,rdK,aA,↓reduceIte,Nat.reduceEqDiff,Nat.reduceAdd,aJ,yah,↓fS,g2,↓s10,eq_true a15,eq_true a2,eq_true a16,eq_true a7,eq_true c15,eq_true c2,eq_true c16,eq_true c7]
   refine aE (pW (wn (wds bs i) (i-2)) 17 (by omega)) (by simp [aF,aG,aN,bD,wkL,wk,wkR]) rfl trivial ?_
   simp -implicitDefEqProofs only [rX,aA,↓reduceIte,Nat.reduceEqDiff,aJ]
   refine aE (pW (wn (wds bs i) (i-2)) 19 (by omega)) (by simp [aF,aG,aN,bD,wkL,wk,wkR]) rfl trivial ?_
   simp -implicitDefEqProofs only [qa,qe,qR,qT,qY,qZ,zi,zj,zm,zq,zr,zv,zX,kQ,kR,kS,kT,kX,aA,cells?,yaC,yar,yaB,splice,kY,yak,yav,↓reduceIte,Nat.reduceEqDiff,yaw,kZ,yap,yay,Nat.reduceAdd,yaF,yaL,isC,yax,yaD,true_and,and_true,and_self,yaG,not_false_eq_true,Nat.reduceLeDiff,lg0,wl,qar,↓qas,↓qau,↓qaw,↓qaA,↓qaC,↓qaD,↓qaH,↓qcn,↓qcp,yaa,aQ,yah,↓fS,↓pD,g16,g7,sp,oM,lT,eq_true a15,eq_true a2,eq_true a16,eq_true a7,eq_true c15,eq_true c2,eq_true c16,eq_true c7]
   refine ⟨by omega,by omega,by simp only [lo,Fx.hi];omega,?_⟩
   refine hN _ (i+1) (by omega) (by omega) ?_
   rw [xV bs (by omega) _ (by rw [if_neg (by omega)];unfold next;rw [fE])]
   exact ⟨by simp -implicitDefEqProofs only [rX,↓reduceIte,Nat.reduceEqDiff,reduceCtorEq,leE];simp,bA _,trivial,by simp -implicitDefEqProofs only [rX,aB,wfE,wfV],⟨dC,dC,trivial⟩⟩
set_option maxRecDepth 20000
def kA:List V:=nQ.map V.v
theorem Sf:yad V.v nQ=kA:=rfl
theorem Sg {i:Nat} (h:i<64):kA[i]?=some (w (kW i)):=by
 have:∀ i:Fin 64,Kf.getD i.val 0<4294967296∧i.val<Kf.length:=by decide +kernel
 obtain ⟨h1,h2⟩:=this ⟨i,h⟩
 simp only at h1 h2
 unfold kA nQ kW
 rw [List.map_map,ybm,yam h2]
 rw [yak,yam h2] at h1 ⊢
 simp only [yaw] at h1
 have h3:(yaW 32 Kf[i]).toNat=Kf[i]:=by rw [ybB];omega
 simp only [ybt,Function.comp,yaw,w]
 rw [h3]
theorem Xr {q:List Blk}:∀ l:List Value,wfL q (l.map V.v)
 | []=>trivial
 | _::r=>⟨trivial,Xr r⟩
theorem Yo {q:List Blk}:wfL q kA:=Xr nQ
attribute [irreducible] kA
def stp (s r:S8) (i:Nat):S8:=⟨if 0<i then s.a+r.a else s.a,if 1<i then s.b+r.b else s.b,if 2<i then s.c+r.c else s.c,if 3<i then s.d+r.d else s.d,if 0<i then s.e+r.e else s.e,if 1<i then s.f+r.f else s.f,if 2<i then s.g+r.g else s.g,if 3<i then s.h+r.h else s.h⟩
theorem acI (s r:S8):stp s r 4=s.add r:=rfl
theorem n0:((0:Nat):Int)=0:=rfl
theorem n1:((1:Nat):Int)=1:=rfl
theorem n2:((2:Nat):Int)=2:=rfl
theorem n3:((3:Nat):Int)=3:=rfl
theorem n8:((8:Nat):Int)=8:=rfl
theorem m64:((64:Nat):Int)=64:=rfl
theorem n4:((4:Nat):Int)=4:=rfl
abbrev z8:List V:=[.v (.int .u32 0),.v (.int .u32 0),.v (.int .u32 0),.v (.int .u32 0),.v (.int .u32 0),.v (.int .u32 0),.v (.int .u32 0),.v (.int .u32 0)]
theorem S8.enc_C (s:S8):s.enc.all isC=true:=rfl
set_option maxHeartbeats 2000000 in
theorem aeG (s:S8) (bs:List UInt8) (hb:bs.length=64):Ok 131 [.agg s.enc,byV bs] (Is (.agg (comp s bs).enc)):=by
 refine ok_of lw131 (by simp) ?_
 unfold c131
 simp -implicitDefEqProofs only [rX,↓rY,aA,cells?,↓reduceIte,Nat.reduceEqDiff,Nat.reduceAdd,reduceCtorEq,aC,aK,S8.enc]
 have lW:(wds bs 64).length=64:=fE bs 64
 refine aE (adY bs hb) (by simp [aF,aG,aN,bD,wkL,wk,wkR,wkB]) (by simp [ren,Pr]) trivial ?_
 simp -implicitDefEqProofs only [rX,↓rY,rdK,aA,cells?,splice,↓reduceIte,Nat.reduceEqDiff,Nat.reduceAdd,reduceCtorEq,aC,dP,isC,Nat.reduceLT,Nat.reduceLeDiff,aQ,aJ,w0,ahV,Sf,oM,lH,lW,Uz lW,Lh lH,Uy,yaK,n8,yaM,Nat.reduceSub]
 refine ⟨?_,?_⟩
 all_goals
  refine cD (fun i:Nat=>(⟨[(22,.i i),(21,.agg kA),(7,.ptr 4 0 0),(6,.ptr 3 0 0),(5,.ptr 2 0 0),(4,.ptr 1 0 0),(2,.ptr 0 0 0)],[.var [w s.a,w s.b,w s.c,w s.d,w s.e,w s.f,w s.g,w s.h],.var z8,.var (ws (wds bs 64)),.var [w (lG (wn (wds bs 64)) s i).a,w (lG (wn (wds bs 64)) s i).b,w (lG (wn (wds bs 64)) s i).c,w (lG (wn (wds bs 64)) s i).d],.var [w (lG (wn (wds bs 64)) s i).e,w (lG (wn (wds bs 64)) s i).f,w (lG (wn (wds bs 64)) s i).g,w (lG (wn (wds bs 64)) s i).h]],5⟩:St)) (fun i=>i≤64) (fun i=>64-i) 0 (yan _) ?_ ?_
  ·refine ⟨by simp -implicitDefEqProofs only [rX,↓reduceIte,Nat.reduceEqDiff,leE];rfl,bA _,trivial,?_,?_⟩
   ·simp -implicitDefEqProofs only [rX,aB,wfE,wfV,Yo]
   ·simp -implicitDefEqProofs only [rX,wfB,wfV,wfL,dC]
  intro i hi N hN
  obtain ⟨r,hr⟩:∃ r,r=lG (wn (wds bs 64)) s i:=⟨_,rfl⟩
  rw [←hr]
  simp only [c131l0]
  simp -implicitDefEqProofs only [rX,↓rY,rdK,aA,↓reduceIte,Nat.reduceEqDiff,Nat.reduceAdd,yaa,aJ,yah]
  cases h1:decide ((i:Int)<64) with
  | false =>
   have h1':=of_decide_eq_false h1
   have:i=64:=by omega
   subst this
   simp -implicitDefEqProofs only [↓rY]
   refine cD (fun i:Nat=>(⟨[(94,.i i),(7,.ptr 4 0 0),(6,.ptr 3 0 0),(4,.ptr 1 0 0),(2,.ptr 0 0 0)],[.var [w (stp s r i).a,w (stp s r i).b,w (stp s r i).c,w (stp s r i).d,w (stp s r i).e,w (stp s r i).f,w (stp s r i).g,w (stp s r i).h],.var z8,.var (ws (wds bs 64)),.var [w r.a,w r.b,w r.c,w r.d],.var [w r.e,w r.f,w r.g,w r.h]],5⟩:St)) (fun i=>i≤4) (fun i=>4-i) 0 (yan _) ?_ ?_
   ·exact ⟨by simp -implicitDefEqProofs only [rX,↓reduceIte,Nat.reduceEqDiff,leE];rfl,bA _,trivial,by simp -implicitDefEqProofs only [rX,aB,wfE,wfV],by simp -implicitDefEqProofs only [rX,wfB,wfV,wfL,dC]⟩
   intro i hi N hN
   have hc:comp s bs=s.add r:=by unfold comp;rw [hr]
   have hcase:i=0∨i=1∨i=2∨i=3∨i=4:=by omega
   rcases hcase with rfl|rfl|rfl|rfl|rfl
   all_goals
    simp only [c131l1]
    simp -implicitDefEqProofs only [qX,qY,qZ,zc,zd,ze,zg,zh,zi,zj,zm,zq,zr,zv,zX,kQ,kR,kS,kT,kX,aA,cells?,yaC,yar,yaB,splice,kY,yak,yav,↓reduceIte,Nat.reduceEqDiff,yaw,kZ,wb,↓wc,↓wd,yaT,yaI,yap,yay,Nat.reduceAdd,yaU,wh,aL,aM,ybu,ybv,wfV,wfL,yaO,yaN,ybe,yaV,yaF,yaL,isC,yax,yaD,true_and,and_true,and_self,yaG,yag,not_false_eq_true,Nat.reduceLT,Nat.reduceLeDiff,yab,lg0,wl,wm,wo,lg1,wt,wu,lg2,wx,wy,lg3,wD,wE,lg4,wI,wJ,lg5,wM,wN,lg6,wQ,wR,lg7,wU,wV,qar,↓qas,↓qau,↓qaw,↓qax,↓qaA,↓qaB,↓qaC,↓qaD,↓qaE,↓qaH,↓qcn,↓qcv,aQ,yah,yaK,Int.reduceAdd,n0,n1,n2,n3,n4,n8,decide_true,decide_false,yaP,yaM,↓pD]
   ·exact ⟨by decide,by decide,hN _ 1 (by omega) (by omega) ⟨by simp -implicitDefEqProofs only [rX,↓reduceIte,Nat.reduceEqDiff,leE];rfl,bA _,trivial,by simp -implicitDefEqProofs only [rX,aB,wfE,wfV],by simp -implicitDefEqProofs only [rX,wfB,wfV,wfL,dC]⟩⟩
   ·exact ⟨by decide,by decide,hN _ 2 (by omega) (by omega) ⟨by simp -implicitDefEqProofs only [rX,↓reduceIte,Nat.reduceEqDiff,leE];rfl,bA _,trivial,by simp -implicitDefEqProofs only [rX,aB,wfE,wfV],by simp -implicitDefEqProofs only [rX,wfB,wfV,wfL,dC]⟩⟩
   ·exact ⟨by decide,by decide,hN _ 3 (by omega) (by omega) ⟨by simp -implicitDefEqProofs only [rX,↓reduceIte,Nat.reduceEqDiff,leE];rfl,bA _,trivial,by simp -implicitDefEqProofs only [rX,aB,wfE,wfV],by simp -implicitDefEqProofs only [rX,wfB,wfV,wfL,dC]⟩⟩
   ·exact ⟨by decide,by decide,hN _ 4 (by omega) (by omega) ⟨by simp -implicitDefEqProofs only [rX,↓reduceIte,Nat.reduceEqDiff,leE];rfl,bA _,trivial,by simp -implicitDefEqProofs only [rX,aB,wfE,wfV],by simp -implicitDefEqProofs only [rX,wfB,wfV,wfL,dC]⟩⟩
   ·rw [hc,acI]
  | true =>
   have h1':=of_decide_eq_true h1
   have gw:(ws (wds bs 64))[i]?=some (w (wn (wds bs 64) i)):=o4 (by omega)
   have ck:(0≤(i:Int)∧(i:Int)<((64:Nat):Int)):=by omega
   simp -implicitDefEqProofs only [yav,kZ,↓wc,yaD,true_and,and_self,Nat.reduceLT,lg0,lg1,lg2,↓qas,eq_true ck,Sg (show i<64 by omega),yaK,n4,yaP,yaM,↓fS,↓Fi,↓abO,gw]
   refine aE (Ya r.e 6 11 25 (by omega) (by omega) (by omega)) (by simp [aF,aG,aN,bD,wkL,wk,wkR]) rfl trivial ?_
   simp -implicitDefEqProofs only [qa,qe,qs,qP,rdK,qQ,qR,qS,qT,qV,zc,zm,zq,zv,zX,kM,kQ,kS,kT,kX,aA,yaC,yar,kY,yak,yav,↓reduceIte,Nat.reduceEqDiff,yaw,kZ,yap,yay,Nat.reduceAdd,yau,yaA,yax,yaD,true_and,and_true,and_self,Nat.reduceLT,lg0,lg1,lg2,qar,↓qas,↓qau,↓qaw,↓qaA,↓qaH,aJ,yah,eq_true ck,yaK,n4,yaP,yaM,↓pD,↓fS,↓Fi]
   refine aE (Ya r.a 2 13 22 (by omega) (by omega) (by omega)) (by simp [aF,aG,aN,bD,wkL,wk,wkR]) rfl trivial ?_
   simp -implicitDefEqProofs only [qa,qe,qR,qT,qY,zc,zi,zj,zm,zq,zr,zv,zG,zX,kQ,kR,kS,kT,kX,aA,cells?,yaC,yar,yaB,splice,kY,yak,yav,↓reduceIte,Nat.reduceEqDiff,yaw,kZ,yaT,yaI,yap,yay,Nat.reduceAdd,yaU,bH,yau,yaA,yaO,yaN,yaV,yaF,yaL,isC,yax,yaD,true_and,and_true,and_self,yaG,yag,not_false_eq_true,Nat.reduceLT,Nat.reduceLeDiff,yab,lg0,wl,wm,wo,lg1,wr,wt,wu,lg2,ww,wx,wy,lg3,wC,wD,qar,↓qas,↓qau,↓qaw,↓qaA,↓qaC,↓qaE,↓qaH,↓qcn,aQ,yah,yaK,n4,yaP,yaM,↓pD,splice]
   refine ⟨by simp only [lo,Fx.hi];omega,hN _ (i+1) (by omega) (by omega) ?_⟩
   have e:lG (wn (wds bs 64)) s (i+1)=r.rnd (kW i) (wn (wds bs 64) i):=by rw [hr];rfl
   simp only [e]
   exact ⟨by simp -implicitDefEqProofs only [rX,↓reduceIte,Nat.reduceEqDiff,leE];simp,bA _,trivial,by simp -implicitDefEqProofs only [rX,aB,wfE,wfV,Yo],by simp -implicitDefEqProofs only [rX,wfB,wfV,wfL,dC]⟩
set_option maxRecDepth 20000
def Stm.enc (S:Stm):List V:=sC S.st S.blk S.n
theorem Tm {s:S8} {f:Nat→Option Nat}:cI f s.enc=s.enc:=rfl
theorem Km {s:S8} {h:List Blk} {g:Nat→Option Nat}:aF h g s.enc:=⟨trivial,trivial,trivial,trivial,trivial,trivial,trivial,trivial,trivial⟩
theorem Wt {s:S8} {h:List Blk} {g:Nat→Option Nat}:wkL s.enc (aN h g s.enc):=⟨rfl,rfl,rfl,rfl,rfl,rfl,rfl,rfl,trivial⟩
theorem enc_len {s:S8}:s.enc.length=8:=rfl
theorem Vi {t:Bs}:eV (sb t)=t.map by1:=rfl
set_option maxHeartbeats 2000000 in
theorem aaF (S:Stm) (m t:Bs) (h:Rp S m) (hm:m.length+t.length≤1152921504606846976):Ok 97 [.agg S.enc,sv t] (IsQ (fun S'=>Rp S' (m++t)) (fun S'=>.agg S'.enc) (fun _=>[])):=by
 refine ok_of lw97 (by simp) ?_
 unfold c97
 simp -implicitDefEqProofs only [rX,↓rY,aA,cells?,↓reduceIte,aC,aJ,aK,Stm.enc]
 refine cD (fun g:Stm × Bs × Bs=>(⟨[(1,sv g.2.2),(4,.ptr 1 0 0),(2,.ptr 0 0 0)],[.var (sC g.1.st g.1.blk g.1.n),.var (sC ⟨0,0,0,0,0,0,0,0⟩ (yaq 64 0) 0)],2⟩:St)) (fun g=>Rp g.1 (m++g.2.1)∧g.2.1++g.2.2=t) (fun g=>g.2.2.length) (S,[],t) ⟨by simpa using h,rfl⟩ ?_ ?_
 ·refine ⟨by simp -implicitDefEqProofs only [rX,↓reduceIte,Nat.reduceEqDiff,reduceCtorEq,leE],⟨aU _,?_,trivial⟩,trivial,by simp -implicitDefEqProofs only [rX,aB,wfE,wfV],⟨j9,j9,trivial⟩⟩
  show aZ _ _
  rw [show sC ⟨0,0,0,0,0,0,0,0⟩ (yaq 64 0) 0=yaq 8 (w 0)++(yaq 64 (u8 0)++[n64 0]) by unfold sC;rfl]
  exact mN _
 rintro ⟨S,c,r⟩ ⟨hR,hcr⟩ N hN
 simp only at hR hcr
 have hl:=hR.len
 have hn:=hR.n
 have hsum:c.length+r.length=t.length:=by rw [←hcr,yag]
 rw [yag] at hn
 obtain ⟨j,hj⟩:∃ j,j=S.n%64:=⟨_,rfl⟩
 have hj64:j<64:=by omega
 obtain ⟨cc,hcc⟩:∃ cc,cc=r.take (64-j):=⟨_,rfl⟩
 have hcl:cc.length=min r.length (64-j):=by rw [hcc,yaE];omega
 have e1:IntKind.i64.wrap (ybw (S.n:Int) 64)=(j:Int):=by
  rw [show ybw (S.n:Int) 64=(j:Int) by rw [hj];simp [Int.tmod_eq_emod]]
  exact dF _ _ ⟨by simp only [lo];omega,by simp only [Fx.hi];omega⟩
 have f1:(yaf (64-j) (eV (sb r))).flatten=cc.map u8:=by
  rw [hcc,Vi,←yaX]
  induction r.take (64-j) with
  | nil=>rfl
  | cons x q ih=>rw [yau,List.flatten_cons,ih];rfl
 have f2:min (eV (sb r)).length (64-j)=cc.length:=by rw [Vi,yai,hcl]
 have e2:IntKind.u64.wrap (cc.length:Int)=(cc.length:Int):=dF _ _ ⟨by simp only [lo];omega,by simp only [Fx.hi];omega⟩
 have e3:IntKind.u64.wrap ((S.n:Int)+(cc.length:Int))=((S.n+cc.length:Nat):Int):=by
  rw [←Int.natCast_add]
  exact dF _ _ ⟨by simp only [lo];omega,by simp only [Fx.hi];omega⟩
 have f3:(sC S.st S.blk S.n).take (8+j)++cc.map u8++(sC S.st S.blk S.n).drop (8+j+cc.length)=sC S.st (mH S.blk cc j) S.n:=Vn hl (by omega)
 have pl:(mH S.blk cc j).length=64:=by rw [Gt (by omega),hl]
 have sx:(sb r).extract cc.length r.length=sb (r.drop cc.length):=by rw [Jf,List.take_length]
 have hst:=hR.step (c:=cc) (by omega)
 simp only [c97l0]
 simp -implicitDefEqProofs only [rX,↓rY,aA,cells?,splice,↓reduceIte,Nat.reduceEqDiff,Nat.reduceAdd,dP,isC,Nat.reduceLeDiff,yaa,aQ,eW,Lw,afG,Lw,Vm hl,eQ hl,e1,f1,f2,f3,e2,Vm pl,eQ pl,e3,Zx pl,sx,yaE,ybo,yaK,m64]
 cases hr:(!r==([]:Bs)) with
 | false =>
  have hr':r=[]:=by simpa using hr
  subst hr'
  rw [yap] at hcr
  subst hcr
  have zl:(yaq 64 (0:UInt8)).length=64:=rfl
  simp -implicitDefEqProofs only [rX,↓rY,lL hl,Vo,eQ zl,yC zl,eQ hl,Nat.min_self]
  refine dT S hR ?_
  simp -implicitDefEqProofs only [rX,↓rY,↓reduceIte,Nat.reduceEqDiff,aL,aM,leH,aD,wfB,wfV,lL hl,eQ hl,j9]
 | true =>
  have hr':r≠[]:=by simpa using hr
  have hrl:0<r.length:=List.length_pos_iff.2 hr'
  simp -implicitDefEqProofs only [↓rY]
  refine ⟨by omega,by omega,by omega,by omega,by omega,⟨by simp only [lo];omega,by simp only [Fx.hi];omega⟩,?_⟩
  have hrd:cc++r.drop cc.length=r:=by
   by_cases h:64-j≤r.length
   ·rw [show cc.length=64-j by omega,hcc,ybW]
   ·rw [hcc,yac (by omega),yaz (by omega),yap]
  rw [←hj] at hst
  have hI:c++cc++r.drop cc.length=t:=by rw [yaJ,hrd,hcr]
  rw [yaJ] at hst
  cases h6:((j:Int)+(cc.length:Int)==64) with
  | true =>
   have h6':j+cc.length=64:=by have:=eq_of_beq h6;omega
   rw [if_pos h6'] at hst
   simp -implicitDefEqProofs only [↓rY,acM]
   refine ⟨by omega,⟨by omega,by omega,by omega⟩,?_⟩
   refine aE (aeG S.st (mH S.blk cc j) pl) ⟨⟨Km,trivial,trivial⟩,Wt,?_,trivial⟩ (by simp only [ren,Tm]) trivial ?_
   ·show wkB (if (decide (8+64≤(sC S.st (mH S.blk cc j) (S.n+cc.length)).length)&&(((sC S.st (mH S.blk cc j) (S.n+cc.length)).drop 8).take 64).all isD)=true then V.bro 1 ((((sC S.st (mH S.blk cc j) (S.n+cc.length)).drop 8).take 64).map fun c=>[c]) else V.any) 1 ((mH S.blk cc j).map by1)
    rw [if_pos (by rw [eQ pl,Qp pl];rfl),Vl pl]
    exact ⟨rfl,rfl⟩
   simp -implicitDefEqProofs only [rX,↓rY,cells?,splice,↓reduceIte,Nat.reduceEqDiff,Nat.reduceLeDiff,aQ,Zw,eQ pl,enc_len,S8.enc_C]
   refine hN _ (⟨comp S.st (mH S.blk cc j),mH S.blk cc j,S.n+cc.length⟩,c++cc,r.drop cc.length) ⟨hst,hI⟩ (by simp only [ybo];omega) ?_
   exact ⟨by simp -implicitDefEqProofs only [rX,↓reduceIte,Nat.reduceEqDiff,leE],bA _,trivial,by simp -implicitDefEqProofs only [rX,aB,wfE,wfV],⟨j9,j9,trivial⟩⟩
  | false =>
   have h6':j+cc.length≠64:=by
    intro h
    have:((j:Int)+(cc.length:Int)==64)=true:=by rw [beq_iff_eq];omega
    rw [this] at h6;cases h6
   rw [if_neg h6'] at hst
   simp -implicitDefEqProofs only [↓rY]
   refine hN _ (⟨S.st,mH S.blk cc j,S.n+cc.length⟩,c++cc,r.drop cc.length) ⟨hst,hI⟩ (by simp only [ybo];omega) ?_
   exact ⟨by simp -implicitDefEqProofs only [rX,↓reduceIte,Nat.reduceEqDiff,leE],bA _,trivial,by simp -implicitDefEqProofs only [rX,aB,wfE,wfV],⟨j9,j9,trivial⟩⟩
set_option maxRecDepth 20000
def us (l:Bs):List V:=l.map u8
theorem fL {l:Bs}:(us l).length=l.length:=by simp [us]
theorem tY {l:Bs}:(us l).all isC=true:=by simp [us,isC,isD]
theorem ahR {l:Bs}:(us l).all isD=true:=by simp [us,isD]
theorem acG {l:Bs}:aZ (us l) (us l):=mN _
theorem cX {l:Bs} {q:List Blk}:wfL q (us l):=by
 unfold us
 induction l with
 | nil=>trivial
 | cons x r ih=>exact ⟨trivial,ih⟩
theorem f9 {l:Bs} {f:Nat→Option Nat}:cI f (us l)=us l:=by
 unfold us
 induction l with
 | nil=>rfl
 | cons x r ih=>exact congrArg (u8 x::·) ih
theorem Vf {l:Bs} {n:Nat}:(us l).take n=us (l.take n):=by simp [us,yaX]
theorem Ix {l:Bs} {i:Nat} {x:UInt8} (hi:i<l.length):(us l).take i++[u8 x]++(us l).drop (i+1)=us (l.set i x):=by
 unfold us
 rw [List.map_set,ybS,if_pos (by simpa using hi)]
 simp
theorem Pz {l:Bs} {i:Nat} (hi:i<l.length):(us l)[i]?=some (u8 (bn l i)):=by
 unfold us bn
 rw [ybm,yam hi,yak,yam hi]
 rfl
attribute [irreducible] us
def z32:Bs:=yaq 32 0
theorem lI:z32.length=32:=rfl
theorem w32:yad V.v (ybF 32 (Value.int IntKind.u8 0)).toList=us z32:=by unfold us;rfl
attribute [irreducible] z32
def pz (k:Nat):Bs:=128::yaq k 0
theorem k6 {k:Nat}:(pz k).length=k+1:=by simp [pz]
theorem Rc {k:Nat}:pz k++[0]=pz (k+1):=by
 unfold pz
 rw [yaI,←List.replicate_succ']
theorem adD:pz 0=[128]:=rfl
attribute [irreducible] pz
theorem rE {M:List Nat}:∀ l:List V,(∀ x∈l,∃ u,x=.v u)→bQ M l=l
 | [],_=>rfl
 | x::r,h=>by
  obtain ⟨u,rfl⟩:=h x ybc
  show V.v u::bQ M r=_
  rw [rE r fun y hy=>h y (ybd _ hy)]
theorem sK {M:List Nat} {l:Bs}:bQ M (us l)=us l:=rE _ (by
 unfold us
 intro x hx
 obtain ⟨b,_,rfl⟩:=ybp.1 hx
 exact ⟨_,rfl⟩)
theorem iW {s:S8} {b:Bs} {n:Nat}:∀ x∈sC s b n,∃ u,x=V.v u:=by
 unfold sC
 intro x hx
 simp only [S8.enc,List.mem_append,ybp,yaY,yaG,or_false] at hx
 rcases hx with (rfl|rfl|rfl|rfl|rfl|rfl|rfl|rfl)|⟨u,_,rfl⟩|rfl<;>exact ⟨_,rfl⟩
theorem Ge {M:List Nat} {s:S8} {b:Bs} {n:Nat}:bQ M (sC s b n)=sC s b n:=rE _ iW
theorem dR {h:List Blk} {g:Nat→Option Nat}:∀ l:List V,(∀ x∈l,∃ u,x=.v u)→aF h g l∧wkL l (aN h g l)
 | [],_=>⟨trivial,trivial⟩
 | x::r,q=>by
  obtain ⟨u,rfl⟩:=q x ybc
  have:=dR (h:=h) (g:=g) r fun y hy=>q y (ybd _ hy)
  exact ⟨⟨trivial,this.1⟩,rfl,this.2⟩
def l8 (n i:Nat):Bs:=(yat i).map fun i=>UInt8.ofNat (8*n/2 ^ (56-8*i))
theorem afD {n i:Nat}:l8 n (i+1)=l8 n i++[UInt8.ofNat (8*n/2 ^ (56-8*i))]:=by simp [l8,ybx]
theorem rU {n i:Nat}:(l8 n i).length=i:=by simp [l8]
theorem f5:∀ l:Bs,bytesOf (l.map by1)=some l
 | []=>rfl
 | b::r=>by
  show (bytesOf (r.map by1)).map (UInt8.ofNat ((b.toNat:Int)).toNat::·)=_
  rw [f5 r]
  simp
theorem vD {l:Bs}:({ data:=l.toArray }:ByteArray)=sb l:=rfl
theorem Jv {n:Nat}:pz (zeros n)++l8 n 8=pad n:=by unfold pz;rfl
def oB (s:S8) (i:Nat):Bs:=(yat i).map (rQ s)++yaq (32-i) 0
theorem Rt {s:S8} {i:Nat} (h:i≤32):(oB s i).length=32:=by simp [oB];omega
theorem aeV {s:S8}:oB s 0=z32:=by unfold z32;rfl
theorem Yj {s:S8}:oB s 32=(yat 32).map (rQ s):=by simp [oB]
theorem Rs {s:S8} {i:Nat} (h:i<32):(oB s i).set i (rQ s i)=oB s (i+1):=by
 unfold oB
 rw [ybq _ _ (by simp),yai,yby,ybr,show 32-i=(32-(i+1))+1 by omega,ybs,yaB,ybx,yaj]
 simp
theorem Vk {s:S8} {b:Bs} {n j:Nat} (h:j<8):(sC s b n)[j]?=some (w (wn s.l j)):=by
 unfold sC
 rw [ybV (by simp [S8.enc];omega)]
 have:j=0∨j=1∨j=2∨j=3∨j=4∨j=5∨j=6∨j=7:=by omega
 rcases this with rfl|rfl|rfl|rfl|rfl|rfl|rfl|rfl<;>rfl
set_option maxHeartbeats 2000000 in
theorem aiM (S:Stm) (m:Bs) (h:Rp S m) (hm:m.length≤576460752303423488):Ok 99 [.agg S.enc] (Is (.agg (us (sha m)))):=by
 refine ok_of lw99 (by simp) ?_
 unfold c99
 have hn:=h.n
 have hl:=h.len
 have e8:IntKind.u64.wrap (8*(S.n:Int))=((8*S.n:Nat):Int):=by
  rw [show (8*(S.n:Int))=((8*S.n:Nat):Int) by omega]
  exact dF _ _ ⟨by simp only [lo];omega,by simp only [Fx.hi];omega⟩
 simp -implicitDefEqProofs only [rX,↓rY,aA,cells?,↓reduceIte,Nat.reduceEqDiff,Nat.reduceAdd,aC,bZ,isD,Nat.reduceLT,aJ,aK,Stm.enc,w32,Vm hl,e8]
 refine cD (fun k:Nat=>(⟨[(4,.sl 2 0 (k+1)),(3,n64 (8*S.n)),(2,.ptr 1 0 0),(1,.ptr 0 0 0)],[.var (sC S.st S.blk S.n),.var (us z32),.arr 1 ((pz k).map by1)],3⟩:St)) (fun k=>k≤zeros m.length) (fun k=>zeros m.length-k) 0 (yan _) ?_ ?_
 ·exact ⟨by simp -implicitDefEqProofs only [rX,↓reduceIte,Nat.reduceEqDiff,leE],⟨aU _,aU _,by rw [adD];exact aU _,trivial⟩,trivial,by simp -implicitDefEqProofs only [rX,aB,wfE,wfV],by simp -implicitDefEqProofs only [rX,wfB,j9,cX]⟩
 intro k hk N hN
 have ei:IntKind.i64.wrap (S.n:Int)=(S.n:Int):=dF _ _ ⟨by simp only [lo];omega,by simp only [Fx.hi];omega⟩
 have hz:=xN m.length
 have hz2:zeros m.length<64:=by unfold zeros;omega
 have tk:yaf (k+1) (yad by1 (pz k))=yad by1 (pz k):=yac (by rw [yai,k6];exact yab _)
 have b0:(yad by1 (pz k))++[[V.v (Value.int IntKind.u8 0)]]=(pz (k+1)).map by1:=by rw [←Rc,yaj];rfl
 simp only [c99l0]
 simp -implicitDefEqProofs only [rX,↓rY,aA,cells?,↓reduceIte,Nat.reduceEqDiff,Nat.reduceAdd,reduceCtorEq,aC,bZ,bO,bE,kill,St.kill,isD,Nat.reduceLT,Nat.reduceLeDiff,aQ,aJ,yah,Vm hl,ei,k6,tk,b0,sK,Ge]
 intro _
 have hmod:((S.n:Int)+((k+1:Nat):Int)).tmod 64=(((m.length+1+k)%64:Nat):Int):=by
  rw [show ((S.n:Int)+((k+1:Nat):Int))=((m.length+1+k:Nat):Int) by omega]
  rfl
 refine ⟨⟨by simp only [lo];omega,by simp only [Fx.hi];omega⟩,by omega,?_⟩
 rw [hmod]
 cases hc:((((m.length+1+k)%64:Nat):Int) != 56) with
 | true =>
  have hc':(m.length+1+k)%64≠56:=by intro h;rw [h] at hc;simp at hc
  have hlt:k<zeros m.length:=by
   rcases Nat.lt_or_ge k (zeros m.length) with h|h
   ·exact h
   ·have:k=zeros m.length:=by omega
    rw [this] at hc';exact absurd hz hc'
  simp -implicitDefEqProofs only [↓rY]
  refine ⟨by omega,hN _ (k+1) (by omega) (by omega) ?_⟩
  exact ⟨by simp -implicitDefEqProofs only [rX,↓reduceIte,Nat.reduceEqDiff,leE],⟨aU _,aU _,aU _,trivial⟩,trivial,by simp -implicitDefEqProofs only [rX,aB,wfE,wfV],by simp -implicitDefEqProofs only [rX,wfB,j9,cX]⟩
 | false =>
  have hc':(m.length+1+k)%64=56:=by
   have h2:¬((((m.length+1+k)%64:Nat):Int)≠56):=fun h=>by rw [bne_iff_ne.2 h] at hc;cases hc
   omega
  have hke:k=zeros m.length:=by omega
  simp -implicitDefEqProofs only [↓rY]
  clear hN N hmod tk b0 hk
  refine cD (fun i:Nat=>(⟨[(23,.i i),(4,.sl 2 0 (k+1+i)),(3,n64 (8*S.n)),(2,.ptr 1 0 0),(1,.ptr 0 0 0)],[.var (sC S.st S.blk S.n),.var (us z32),.arr 1 ((pz k++l8 m.length i).map by1)],3⟩:St)) (fun i=>i≤8) (fun i=>8-i) 0 (yan _) ?_ ?_
  ·exact ⟨by simp -implicitDefEqProofs only [rX,↓reduceIte,Nat.reduceEqDiff,leE];rfl,⟨aU _,aU _,by rw [show l8 m.length 0=[] from rfl,yap];exact aU _,trivial⟩,trivial,by simp -implicitDefEqProofs only [rX,aB,wfE,wfV],by simp -implicitDefEqProofs only [rX,wfB,j9,cX]⟩
  intro i hi N hN
  simp only [c99l1]
  simp -implicitDefEqProofs only [rX,↓rY,aA,cells?,↓reduceIte,Nat.reduceEqDiff,Nat.reduceAdd,reduceCtorEq,aC,bZ,bO,bE,kill,St.kill,isD,Nat.reduceLT,Nat.reduceLeDiff,aQ,aJ,yah]
  cases h1:decide ((i:Int)<8) with
  | true =>
   have h1':=of_decide_eq_true h1
   have sh:∀ {K:V→Prop},bU .shr .u64 ((8*S.n:Nat):Int) (56-8*(i:Int)) K=K (.v (.int .u64 ((8*S.n/2 ^ (56-8*i):Nat):Int))):=by
    intro K
    have h:bU .shr .u64 ((8*S.n:Nat):Int) (56-8*(i:Int)) K=(0≤(56-8*(i:Int))∧K (.v (.int .u64 (ybk ((8*S.n:Nat):Int) (2 ^ (min (56-8*(i:Int)).toNat 64)))))):=rfl
    rw [h,show (56-8*(i:Int)).toNat=56-8*i by omega,ybj (by omega)]
    have h2:(2:Int) ^ (56-8*i)=((2 ^ (56-8*i):Nat):Int):=by simp
    rw [h2,yba _ (yaR _),←ybE]
    exact propext ⟨fun h=>h.2,fun h=>⟨by omega,h⟩⟩
   have cv:IntKind.u8.wrap ((8*S.n/2 ^ (56-8*i):Nat):Int)=((UInt8.ofNat (8*m.length/2 ^ (56-8*i))).toNat:Int):=by
    rw [hn,UInt8.toNat_ofNat']
    simp [IntKind.wrap,IntKind.bits,IntKind.signed]
   simp -implicitDefEqProofs only [rX,↓rY,kill,St.kill,↓sh,cv,sK,Ge,k6,rU]
   have tk2:yaf (k+1+i) (yad by1 (pz k++l8 m.length i))=yad by1 (pz k++l8 m.length i):=yac (by rw [yai,yag,k6,rU];exact yab _)
   rw [tk2]
   refine ⟨⟨by simp only [lo];omega,by simp only [Fx.hi];omega⟩,⟨by simp only [lo];omega,by simp only [Fx.hi];omega⟩,by omega,⟨by simp only [lo];omega,by simp only [Fx.hi];omega⟩,?_⟩
   refine hN _ (i+1) (by omega) (by omega) ?_
   exact ⟨by simp -implicitDefEqProofs only [rX,↓reduceIte,Nat.reduceEqDiff,leE];simp;omega,⟨aU _,aU _,by rw [afD,←yaJ,yaj (l₂:=[_])];exact aU _,trivial⟩,trivial,by simp -implicitDefEqProofs only [rX,aB,wfE,wfV],by simp -implicitDefEqProofs only [rX,wfB,j9,cX]⟩
  | false =>
   have h1':=of_decide_eq_false h1
   have:i=8:=by omega
   subst this
   have tk2:yaf (k+1+8) (yad by1 (pz k++l8 m.length 8))=yad by1 (pz k++l8 m.length 8):=yac (by rw [yai,yag,k6,rU];exact yab _)
   simp -implicitDefEqProofs only [rX,↓rY,tk2,f5,vD,lL hl,eQ hl,k6,rU]
   refine ⟨.inr trivial,?_⟩
   clear hN N
   have hpd:pz k++l8 m.length 8=pad m.length:=by rw [hke];exact Jv
   rw [hpd]
   refine tL _ _ _ (aaF S m (pad m.length) h (by simp [pad,len8];omega)) ⟨⟨(dR _ iW).1,trivial,trivial⟩,(dR _ iW).2,rfl,trivial⟩ (fun g=>by simp only [ren,Stm.enc,w7]) trivial ?_
   intro S' hS'
   have hl':=hS'.len
   have hst':S'.st=acJ m:=hS'.st
   simp -implicitDefEqProofs only [rX,↓rY,aA,cells?,splice,↓reduceIte,Nat.reduceEqDiff,Nat.reduceAdd,aC,aQ,aJ,Stm.enc,lL hl',eQ hl',Vo,eQ hl,yC hl,w32]
   refine cD (fun i:Nat=>(⟨[(40,.i i),(6,.ptr 3 0 0),(2,.ptr 1 0 0),(1,.ptr 0 0 0)],[.var (sC S'.st S'.blk S'.n),.var (us z32),.arr 1 ((pad m.length).map by1),.var (us (oB S'.st i))],4⟩:St)) (fun i=>i≤32) (fun i=>32-i) 0 (yan _) ?_ ?_
   ·exact ⟨by simp -implicitDefEqProofs only [rX,↓reduceIte,Nat.reduceEqDiff,leE];rfl,⟨aU _,aU _,aU _,by rw [aeV];exact aU _,trivial⟩,trivial,by simp -implicitDefEqProofs only [rX,aB,wfE,wfV],by simp -implicitDefEqProofs only [rX,wfB,j9,cX]⟩
   intro i hi N hN
   simp only [c99l2]
   simp -implicitDefEqProofs only [rX,↓rY,aA,cells?,splice,↓reduceIte,Nat.reduceEqDiff,Nat.reduceAdd,aL,aM,wfV,isC,yaa,aQ,yah]
   cases h1:decide ((i:Int)<32) with
   | true =>
    have h1':=of_decide_eq_true h1
    have lo':(oB S'.st i).length=32:=Rt hi
    have ed:Int.tdiv (i:Int) 4=((i/4:Nat):Int):=rfl
    have er:ybw (i:Int) 4=((i%4:Nat):Int):=rfl
    have es:(24-8*((i%4:Nat):Int))=((24-8*(i%4):Nat):Int):=by omega
    have sh:∀ {x:W} {K:V→Prop},bU .shr .u32 (x.toNat:Int) ((24-8*(i%4):Nat):Int) K=K (w (x >>> (24-8*(i%4)))):=fun {x K}=>pC (by omega)
    have cv:IntKind.u8.wrap ((wn S'.st.l (i/4) >>> (24-8*(i%4))).toNat:Int)=((rQ S'.st i).toNat:Int):=by
     unfold rQ
     rw [UInt8.toNat_ofNat',ybC,ybD]
     simp [IntKind.wrap,IntKind.bits,IntKind.signed]
    have sp:∀ x:UInt8,yaf i (us (oB S'.st i))++[u8 x]++yaH (i+1) (us (oB S'.st i))=us ((oB S'.st i).set i x):=fun x=>Ix (by omega)
    simp -implicitDefEqProofs only [rX,↓rY,Nat.reduceLeDiff,yaa,ed,er,es,↓sh,Vk (show i/4<8 by omega),cv,sp,fL,lo']
    refine ⟨by omega,⟨by simp only [lo];omega,by simp only [Fx.hi];omega⟩,by omega,by omega,⟨by simp only [lo];omega,by simp only [Fx.hi];omega⟩,⟨by simp only [lo];omega,by simp only [Fx.hi];omega⟩,by omega,by omega,⟨by simp only [lo];omega,by simp only [Fx.hi];omega⟩,?_⟩
    refine hN _ (i+1) (by omega) (by omega) ?_
    rw [Rs (by omega)]
    exact ⟨by simp -implicitDefEqProofs only [rX,↓reduceIte,Nat.reduceEqDiff,leE];simp,bA _,trivial,by simp -implicitDefEqProofs only [rX,aB,wfE,wfV],by simp -implicitDefEqProofs only [rX,wfB,j9,cX]⟩
   | false =>
    have h1':=of_decide_eq_false h1
    have:i=32:=by omega
    subst this
    have l32:((yat 32).map (rQ S'.st)).length=32:=by simp
    have tk3:(us ((yat 32).map (rQ S'.st))).take 32=us ((yat 32).map (rQ S'.st)):=yac (by rw [fL,l32];exact yab _)
    have dk3:(us z32).drop 32=[]:=yaz (by rw [fL,lI];exact yab _)
    simp -implicitDefEqProofs only [rX,↓rY,Yj,tk3,fL,l32,tY,lI,dk3,cX]
    rw [hst']
    rfl
set_option maxRecDepth 20000
set_option maxHeartbeats 2000000 in
theorem adX (m:Bs) (hm:m.length≤140737488355000):Ok 150 [byV m] (IsA (.sl 0 0 (m.length+(pad m.length).length)) [.arr 1 ((m++pad m.length).map by1)]):=by
 refine ok_of lw150 (by simp) ?_
 unfold c150
 simp -implicitDefEqProofs only [rX,↓rY,aA,cells?,↓reduceIte,Nat.reduceEqDiff,Nat.reduceAdd,reduceCtorEq,aC,bZ,bO,bE,kill,St.kill,isD,Nat.reduceLT,Nat.reduceLeDiff,aQ,aJ,yah,aK]
 have hz:=xN m.length
 have hz2:zeros m.length<64:=by unfold zeros;omega
 refine ⟨.inr trivial,by omega,by omega,?_⟩
 refine cD (fun k:Nat=>(⟨[(3,.sl 0 0 (m.length+1+k)),(0,byV m)],[.arr 1 ((m++pz k).map by1)],3⟩:St)) (fun k=>k≤zeros m.length) (fun k=>zeros m.length-k) 0 (yan _) ?_ ?_
 ·exact ⟨by simp -implicitDefEqProofs only [rX,↓reduceIte,reduceCtorEq,leE],⟨by rw [adD,yaj,yac (by simp)];exact aU _,trivial⟩,trivial,by simp -implicitDefEqProofs only [rX,aB,wfE,wfV],by simp -implicitDefEqProofs only [wfB]⟩
 intro k hk N hN
 have tk:yaf (m.length+1+k) (yad by1 (m++pz k))=yad by1 (m++pz k):=yac (by rw [yai,yag,k6];omega)
 have b0:(yad by1 (m++pz k))++[[V.v (Value.int IntKind.u8 0)]]=(m++pz (k+1)).map by1:=by rw [←Rc,←yaJ,yaj (l₁:=m++pz k)];rfl
 simp only [c150l0]
 simp -implicitDefEqProofs only [rX,↓rY,aA,cells?,↓reduceIte,Nat.reduceEqDiff,reduceCtorEq,aC,bZ,bO,bE,kill,St.kill,isD,Nat.reduceLT,Nat.reduceLeDiff,aQ,aJ,yah,k6,tk,b0]
 intro _
 have hmod:(((m.length+1+k:Nat):Int)).tmod 64=(((m.length+1+k)%64:Nat):Int):=rfl
 refine ⟨by omega,?_⟩
 rw [hmod]
 cases hc:((((m.length+1+k)%64:Nat):Int) != 56) with
 | true =>
  have hc':(m.length+1+k)%64≠56:=by intro h;rw [h] at hc;simp at hc
  have hlt:k<zeros m.length:=by
   rcases Nat.lt_or_ge k (zeros m.length) with h|h
   ·exact h
   ·have:k=zeros m.length:=by omega
    rw [this] at hc';exact absurd hz hc'
  simp -implicitDefEqProofs only [↓rY]
  refine ⟨⟨by omega,by omega⟩,hN _ (k+1) (by omega) (by omega) ?_⟩
  exact ⟨by simp -implicitDefEqProofs only [rX,↓reduceIte,reduceCtorEq,leE];rfl,⟨aU _,trivial⟩,trivial,by simp -implicitDefEqProofs only [rX,aB,wfE,wfV],by simp -implicitDefEqProofs only [wfB]⟩
 | false =>
  have hc':(m.length+1+k)%64=56:=by
   have h2:¬((((m.length+1+k)%64:Nat):Int)≠56):=fun h=>by rw [bne_iff_ne.2 h] at hc;cases hc
   omega
  have hke:k=zeros m.length:=by omega
  simp -implicitDefEqProofs only [↓rY]
  intro _
  clear hN N hmod tk b0 hk
  have e8:IntKind.u64.wrap (8*(IntKind.u64.wrap (m.length:Int)))=((8*m.length:Nat):Int):=by
   rw [dF .u64 (m.length:Int) ⟨by simp only [lo];omega,by simp only [Fx.hi];omega⟩]
   rw [show (8*(m.length:Int))=((8*m.length:Nat):Int) by omega]
   exact dF _ _ ⟨by simp only [lo];omega,by simp only [Fx.hi];omega⟩
  try simp only [e8]
  refine cD (fun i:Nat=>(⟨[(5,.i i),(4,n64 (8*m.length)),(3,.sl 0 0 (m.length+1+k+i)),(0,byV m)],[.arr 1 ((m++pz k++l8 m.length i).map by1)],1⟩:St)) (fun i=>i≤8) (fun i=>8-i) 0 (yan _) ?_ ?_
  ·exact ⟨by simp -implicitDefEqProofs only [rX,↓reduceIte,Nat.reduceEqDiff,reduceCtorEq,leE];rfl,⟨by rw [show l8 m.length 0=[] from rfl,yap];exact aU _,trivial⟩,trivial,by simp -implicitDefEqProofs only [rX,aB,wfE,wfV],by simp -implicitDefEqProofs only [wfB]⟩
  intro i hi N hN
  simp only [c150l1]
  simp -implicitDefEqProofs only [rX,↓rY,aA,cells?,↓reduceIte,Nat.reduceEqDiff,Nat.reduceAdd,reduceCtorEq,aC,bZ,bO,bE,kill,St.kill,isD,Nat.reduceLT,Nat.reduceLeDiff,aQ,aJ,yah]
  cases h1:decide ((i:Int)<8) with
  | true =>
   have h1':=of_decide_eq_true h1
   have sh:∀ {K:V→Prop},bU .shr .u64 ((8*m.length:Nat):Int) (56-8*(i:Int)) K=K (.v (.int .u64 ((8*m.length/2 ^ (56-8*i):Nat):Int))):=by
    intro K
    have h:bU .shr .u64 ((8*m.length:Nat):Int) (56-8*(i:Int)) K=(0≤(56-8*(i:Int))∧K (.v (.int .u64 (ybk ((8*m.length:Nat):Int) (2 ^ (min (56-8*(i:Int)).toNat 64)))))):=rfl
    rw [h,show (56-8*(i:Int)).toNat=56-8*i by omega,ybj (by omega)]
    have h2:(2:Int) ^ (56-8*i)=((2 ^ (56-8*i):Nat):Int):=by simp
    rw [h2,yba _ (yaR _),←ybE]
    exact propext ⟨fun h=>h.2,fun h=>⟨by omega,h⟩⟩
   have cv:IntKind.u8.wrap ((8*m.length/2 ^ (56-8*i):Nat):Int)=((UInt8.ofNat (8*m.length/2 ^ (56-8*i))).toNat:Int):=by
    rw [UInt8.toNat_ofNat']
    simp [IntKind.wrap,IntKind.bits,IntKind.signed]
   simp -implicitDefEqProofs only [rX,↓rY,kill,St.kill,↓sh,cv,k6,rU]
   have tk2:yaf (m.length+1+k+i) (yad by1 (m++pz k++l8 m.length i))=yad by1 (m++pz k++l8 m.length i):=yac (by rw [yai,yag,yag,k6,rU];omega)
   rw [tk2]
   refine ⟨⟨by simp only [lo];omega,by simp only [Fx.hi];omega⟩,⟨by simp only [lo];omega,by simp only [Fx.hi];omega⟩,⟨by omega,by omega⟩,⟨by simp only [lo];omega,by simp only [Fx.hi];omega⟩,?_⟩
   refine hN _ (i+1) (by omega) (by omega) ?_
   exact ⟨by simp -implicitDefEqProofs only [rX,↓reduceIte,Nat.reduceEqDiff,reduceCtorEq,leE];simp;omega,⟨by rw [afD,←yaJ,yaj (l₂:=[_])];exact aU _,trivial⟩,trivial,by simp -implicitDefEqProofs only [rX,aB,wfE,wfV],by simp -implicitDefEqProofs only [wfB]⟩
  | false =>
   have h1':=of_decide_eq_false h1
   have:i=8:=by omega
   subst this
   have hpd:m++pz k++l8 m.length 8=m++pad m.length:=by rw [hke,yaJ,Jv]
   have hpl:m.length+(pad m.length).length=m.length+1+k+8:=by rw [←Jv,yag,k6,rU,←hke];omega
   rw [hpl]
   simp -implicitDefEqProofs only [rX,↓rY,↓reduceIte,aL,aM,leH,leB,aD,aB,wfB,wfV,Nat.reduceLeDiff,cA,hpd]
set_option maxRecDepth 20000
theorem Vu (m:Bs):(m++pad m.length).length%64=0:=by
 have:=xN m.length
 simp only [yag,pad,len8,yar,yaZ,yai,yby]
 omega
theorem aaP:iv.enc=[.v (.int .u32 1779033703),.v (.int .u32 3144134277),.v (.int .u32 1013904242),.v (.int .u32 2773480762),.v (.int .u32 1359893119),.v (.int .u32 2600822924),.v (.int .u32 528734635),.v (.int .u32 1541459225)]:=rfl
theorem n5:((5:Nat):Int)=5:=rfl
theorem n6:((6:Nat):Int)=6:=rfl
theorem n7:((7:Nat):Int)=7:=rfl
def st8 (s r:S8) (i:Nat):S8:=⟨if 0<i then s.a+r.a else s.a,if 1<i then s.b+r.b else s.b,if 2<i then s.c+r.c else s.c,if 3<i then s.d+r.d else s.d,if 4<i then s.e+r.e else s.e,if 5<i then s.f+r.f else s.f,if 6<i then s.g+r.g else s.g,if 7<i then s.h+r.h else s.h⟩
theorem Hq:nQ.length=64:=by decide
theorem afH {i:Nat} (h:i<nQ.length):V.v nQ[i]=w (kW i):=by
 have h1:=Sg (i:=i) (by rw [Hq] at h;exact h)
 rw [←Sf,ybm,yam h] at h1
 exact Option.some.inj h1
theorem Tl {s:S8} {j:Nat} (h:j<8):[w s.a,w s.b,w s.c,w s.d,w s.e,w s.f,w s.g,w s.h][j]?=some (w (wn s.l j)):=by
 have:j=0∨j=1∨j=2∨j=3∨j=4∨j=5∨j=6∨j=7:=by omega
 rcases this with rfl|rfl|rfl|rfl|rfl|rfl|rfl|rfl<;>rfl
set_option maxHeartbeats 4000000 in
theorem aeE (m:Bs) (hm:m.length≤140737488355000):Ok 134 [byV m] (Is (.agg (us (sha m)))):=by
 refine ok_of lw134 (by simp) ?_
 unfold c134
 simp -implicitDefEqProofs only [rX,↓rY,aA,cells?,splice,↓reduceIte,Nat.reduceEqDiff,Nat.reduceAdd,reduceCtorEq,aC,bH,isC,Nat.reduceLeDiff,aQ,aK,w32]
 refine dE _ _ (.sl 2 0 (m.length+(pad m.length).length)) _ [.arr 1 ((m++pad m.length).map by1)] (adX m hm) (by simp [aF,aG,aN,bD,wkL,wk,wkR,wkB]) (by simp [ren]) (by simp [bX]) trivial ?_
 simp -implicitDefEqProofs only [rX,aA,↓reduceIte,Nat.reduceAdd,aJ]
 have hmod:=Vu m
 have hML:m.length+(pad m.length).length=(m++pad m.length).length:=by rw [yag]
 have hS:sha m=(yat 32).map (rQ (blocks iv (m++pad m.length) ((m++pad m.length).length/64))):=rfl
 have hMb:(m++pad m.length).length≤140737488355328:=by
  simp only [yag,pad,len8,yar,yaZ,yai,yby]
  unfold zeros;omega
 rw [hML,hS]
 obtain ⟨M,hM⟩:∃ M,M=m++pad m.length:=⟨_,rfl⟩
 rw [←hM] at hmod hMb ⊢
 clear hML hS
 refine cD (fun q:Nat=>(⟨[(5,.i (64*q:Nat)),(4,.sl 2 0 M.length),(3,.ptr 1 0 0),(2,.ptr 0 0 0)],[.var (us z32),.var [w (blocks iv M q).a,w (blocks iv M q).b,w (blocks iv M q).c,w (blocks iv M q).d,w (blocks iv M q).e,w (blocks iv M q).f,w (blocks iv M q).g,w (blocks iv M q).h],.arr 1 (M.map by1)],3⟩:St)) (fun q=>64*q≤M.length) (fun q=>M.length-64*q) 0 (by omega) ?_ ?_
 ·exact ⟨by simp -implicitDefEqProofs only [rX,↓reduceIte,Nat.reduceEqDiff,leE];rfl,⟨aU _,aU _,aU _,trivial⟩,trivial,by simp -implicitDefEqProofs only [rX,aB,wfE,wfV],by simp -implicitDefEqProofs only [rX,wfB,wfV,wfL,cX]⟩
 intro q hq N hN
 obtain ⟨s,hs⟩:∃ s,s=blocks iv M q:=⟨_,rfl⟩
 rw [←hs]
 simp only [c134l0]
 simp -implicitDefEqProofs only [rX,↓rY,aA,cells?,↓reduceIte,Nat.reduceEqDiff,cR,Nat.reduceAdd,aC,dP,yaa,aJ]
 cases h1:decide (((64*q:Nat):Int)<(M.length:Int)) with
 | false =>
  have h1':=of_decide_eq_false h1
  have hqe:64*q=M.length:=by omega
  simp -implicitDefEqProofs only [↓rY,w32]
  intro _
  have hse:s=blocks iv M (M.length/64):=by rw [hs];congr 1;omega
  rw [←hse]
  clear hN N
  refine cD (fun i:Nat=>(⟨[(13,.i i),(12,.ptr 3 0 0),(3,.ptr 1 0 0),(2,.ptr 0 0 0)],[.var (us z32),.var [w s.a,w s.b,w s.c,w s.d,w s.e,w s.f,w s.g,w s.h],.arr 1 (M.map by1),.var (us (oB s i))],4⟩:St)) (fun i=>i≤32) (fun i=>32-i) 0 (yan _) ?_ ?_
  ·exact ⟨by simp -implicitDefEqProofs only [rX,↓reduceIte,Nat.reduceEqDiff,leE];rfl,⟨aU _,aU _,aU _,by rw [aeV];exact aU _,trivial⟩,trivial,by simp -implicitDefEqProofs only [rX,aB,wfE,wfV],by simp -implicitDefEqProofs only [rX,wfB,wfV,wfL,cX]⟩
  intro i hi N hN
  simp only [c134l3]
  simp -implicitDefEqProofs only [rX,↓rY,aA,cells?,splice,↓reduceIte,Nat.reduceEqDiff,Nat.reduceAdd,aL,aM,wfV,isC,yaa,aQ,yah]
  cases h2:decide ((i:Int)<32) with
  | true =>
   have h2':=of_decide_eq_true h2
   have lo':(oB s i).length=32:=Rt hi
   have ed:Int.tdiv (i:Int) 4=((i/4:Nat):Int):=rfl
   have er:ybw (i:Int) 4=((i%4:Nat):Int):=rfl
   have es:(24-8*((i%4:Nat):Int))=((24-8*(i%4):Nat):Int):=by omega
   have sh:∀ {x:W} {K:V→Prop},bU .shr .u32 (x.toNat:Int) ((24-8*(i%4):Nat):Int) K=K (w (x >>> (24-8*(i%4)))):=fun {x K}=>pC (by omega)
   have cv:IntKind.u8.wrap ((wn s.l (i/4) >>> (24-8*(i%4))).toNat:Int)=((rQ s i).toNat:Int):=by
    unfold rQ
    rw [UInt8.toNat_ofNat',ybC,ybD]
    simp [IntKind.wrap,IntKind.bits,IntKind.signed]
   have sp:∀ x:UInt8,yaf i (us (oB s i))++[u8 x]++yaH (i+1) (us (oB s i))=us ((oB s i).set i x):=fun x=>Ix (by omega)
   simp -implicitDefEqProofs only [rX,↓rY,Nat.reduceLeDiff,yaa,ed,er,es,↓sh,Tl (show i/4<8 by omega),cv,sp,fL,lo']
   refine ⟨by omega,⟨by simp only [lo];omega,by simp only [Fx.hi];omega⟩,by omega,by omega,⟨by simp only [lo];omega,by simp only [Fx.hi];omega⟩,⟨by simp only [lo];omega,by simp only [Fx.hi];omega⟩,by omega,by omega,⟨by simp only [lo];omega,by simp only [Fx.hi];omega⟩,?_⟩
   refine hN _ (i+1) (by omega) (by omega) ?_
   rw [Rs (by omega)]
   exact ⟨by simp -implicitDefEqProofs only [rX,↓reduceIte,Nat.reduceEqDiff,leE];simp,bA _,trivial,by simp -implicitDefEqProofs only [rX,aB,wfE,wfV],by simp -implicitDefEqProofs only [rX,wfB,wfV,wfL,cX]⟩
  | false =>
   have h2':=of_decide_eq_false h2
   have:i=32:=by omega
   subst this
   have l32:((yat 32).map (rQ s)).length=32:=by simp
   have tk3:(us ((yat 32).map (rQ s))).take 32=us ((yat 32).map (rQ s)):=yac (by rw [fL,l32];exact yab _)
   have dk3:(us z32).drop 32=[]:=yaz (by rw [fL,lI];exact yab _)
   simp -implicitDefEqProofs only [rX,↓rY,Yj,tk3,fL,l32,tY,lI,dk3,cX]
 | true =>
  have h1':=of_decide_eq_true h1
  have hq64:64*q+64≤M.length:=by omega
  have a1:(lo IntKind.i64≤((64*q:Nat):Int)+64∧((64*q:Nat):Int)+64≤Fx.hi IntKind.i64):=⟨by simp only [lo];omega,by simp only [Fx.hi];omega⟩
  simp -implicitDefEqProofs only [rX,↓rY,eq_true a1]
  intro _
  have tn:(((64*q:Nat):Int)+64).toNat-64*q=64:=by omega
  rw [tn]
  refine ⟨⟨by omega,by omega,by omega⟩,?_⟩
  have hbl:((M.drop (64*q)).take 64).length=64:=by simp;omega
  obtain ⟨bs,hbs⟩:∃ bs,bs=(M.drop (64*q)).take 64:=⟨_,rfl⟩
  rw [←hbs] at hbl
  have lW:(wds bs 64).length=64:=fE bs 64
  refine aE (adW bs hbl) ⟨⟨?_,trivial⟩,?_,trivial⟩ (by simp [ren,Pr]) trivial ?_
  ·show 64*q+64≤(M.map by1).length
   rw [yai];exact hq64
  ·show wkB (.bro 1 (((M.map by1).drop (64*q)).take 64)) 1 (bs.map by1)
   rw [←ybl,←yaX,←hbs]
   exact ⟨rfl,rfl⟩
  simp -implicitDefEqProofs only [rX,↓rY,aA,cells?,splice,↓reduceIte,Nat.reduceEqDiff,Nat.reduceAdd,aC,isC,aQ,aJ,w0,oM,lH,lW,Uz lW,Lh lH,Uy]
  refine cD (fun i:Nat=>(⟨[(8,.i i),(7,.ptr 4 0 0),(6,.ptr 3 0 0),(5,.i (64*q:Nat)),(4,.sl 2 0 M.length),(3,.ptr 1 0 0),(2,.ptr 0 0 0)],[.var (us z32),.var [w s.a,w s.b,w s.c,w s.d,w s.e,w s.f,w s.g,w s.h],.arr 1 (M.map by1),.var (ws (wds bs 64)),.var [w (lG (wn (wds bs 64)) s i).a,w (lG (wn (wds bs 64)) s i).b,w (lG (wn (wds bs 64)) s i).c,w (lG (wn (wds bs 64)) s i).d,w (lG (wn (wds bs 64)) s i).e,w (lG (wn (wds bs 64)) s i).f,w (lG (wn (wds bs 64)) s i).g,w (lG (wn (wds bs 64)) s i).h]],5⟩:St)) (fun i=>i≤64) (fun i=>64-i) 0 (yan _) ?_ ?_
  ·exact ⟨by simp -implicitDefEqProofs only [rX,↓reduceIte,Nat.reduceEqDiff,leE];rfl,bA _,trivial,by simp -implicitDefEqProofs only [rX,aB,wfE,wfV],by simp -implicitDefEqProofs only [rX,wfB,wfV,wfL,dC,cX]⟩
  intro i hi N1 hN1
  obtain ⟨r,hr⟩:∃ r,r=lG (wn (wds bs 64)) s i:=⟨_,rfl⟩
  rw [←hr]
  simp only [c134l1]
  simp -implicitDefEqProofs only [rX,↓rY,rdK,aA,↓reduceIte,Nat.reduceEqDiff,Nat.reduceAdd,yae,yaa,aJ,yah]
  cases h2:decide ((i:Int)<64) with
  | false =>
   have h2':=of_decide_eq_false h2
   have:i=64:=by omega
   subst this
   simp -implicitDefEqProofs only [↓rY]
   clear hN1 N1
   refine cD (fun j:Nat=>(⟨[(11,.i j),(7,.ptr 4 0 0),(6,.ptr 3 0 0),(5,.i (64*q:Nat)),(4,.sl 2 0 M.length),(3,.ptr 1 0 0),(2,.ptr 0 0 0)],[.var (us z32),.var [w (st8 s r j).a,w (st8 s r j).b,w (st8 s r j).c,w (st8 s r j).d,w (st8 s r j).e,w (st8 s r j).f,w (st8 s r j).g,w (st8 s r j).h],.arr 1 (M.map by1),.var (ws (wds bs 64)),.var [w r.a,w r.b,w r.c,w r.d,w r.e,w r.f,w r.g,w r.h]],5⟩:St)) (fun j=>j≤8) (fun j=>8-j) 0 (yan _) ?_ ?_
   ·exact ⟨by simp -implicitDefEqProofs only [rX,↓reduceIte,Nat.reduceEqDiff,leE];rfl,bA _,trivial,by simp -implicitDefEqProofs only [rX,aB,wfE,wfV],by simp -implicitDefEqProofs only [rX,wfB,wfV,wfL,dC,cX]⟩
   intro j hj N2 hN2
   have hc:blocks iv M (q+1)=s.add r:=by
    rw [blocks,←hs,←hbs];unfold comp;rw [hr]
   have hcase:j=0∨j=1∨j=2∨j=3∨j=4∨j=5∨j=6∨j=7∨j=8:=by omega
   rcases hcase with rfl|rfl|rfl|rfl|rfl|rfl|rfl|rfl|rfl
   all_goals
    simp only [c134l2]
    simp -implicitDefEqProofs only [qX,qY,qZ,zc,zd,ze,zg,zi,zj,zm,zq,zr,zv,zX,kQ,kR,kS,kT,kX,aA,cells?,yaC,yar,yaB,splice,kY,yak,yav,↓reduceIte,Nat.reduceEqDiff,yaw,kZ,wb,↓wc,↓wd,yaT,yaI,yap,yay,Nat.reduceAdd,yaU,yaO,yaN,ybe,yaV,yaF,yaL,isC,yax,yaD,true_and,and_true,and_self,yaG,not_false_eq_true,Nat.reduceLT,Nat.reduceLeDiff,yab,lg0,wl,wm,wo,lg1,wt,wu,lg2,wx,wy,lg3,wD,wE,lg4,wI,wJ,lg5,wM,wN,lg6,wQ,wR,lg7,wU,wV,qar,↓qas,↓qau,↓qaw,↓qax,↓qaA,↓qaC,↓qaD,↓qaE,↓qaH,↓qcn,↓qcv,aQ,yah,yaK,Int.reduceAdd,n0,n1,n2,n3,n4,n5,n6,n7,n8,decide_true,decide_false,yaP,yaM,↓pD]
   ·exact ⟨by decide,hN2 _ 1 (by omega) (by omega) ⟨by simp -implicitDefEqProofs only [rX,↓reduceIte,Nat.reduceEqDiff,leE];rfl,bA _,trivial,by simp -implicitDefEqProofs only [rX,aB,wfE,wfV],by simp -implicitDefEqProofs only [rX,wfB,wfV,wfL,dC,cX]⟩⟩
   ·exact ⟨by decide,hN2 _ 2 (by omega) (by omega) ⟨by simp -implicitDefEqProofs only [rX,↓reduceIte,Nat.reduceEqDiff,leE];rfl,bA _,trivial,by simp -implicitDefEqProofs only [rX,aB,wfE,wfV],by simp -implicitDefEqProofs only [rX,wfB,wfV,wfL,dC,cX]⟩⟩
   ·exact ⟨by decide,hN2 _ 3 (by omega) (by omega) ⟨by simp -implicitDefEqProofs only [rX,↓reduceIte,Nat.reduceEqDiff,leE];rfl,bA _,trivial,by simp -implicitDefEqProofs only [rX,aB,wfE,wfV],by simp -implicitDefEqProofs only [rX,wfB,wfV,wfL,dC,cX]⟩⟩
   ·exact ⟨by decide,hN2 _ 4 (by omega) (by omega) ⟨by simp -implicitDefEqProofs only [rX,↓reduceIte,Nat.reduceEqDiff,leE];rfl,bA _,trivial,by simp -implicitDefEqProofs only [rX,aB,wfE,wfV],by simp -implicitDefEqProofs only [rX,wfB,wfV,wfL,dC,cX]⟩⟩
   ·exact ⟨by decide,hN2 _ 5 (by omega) (by omega) ⟨by simp -implicitDefEqProofs only [rX,↓reduceIte,Nat.reduceEqDiff,leE];rfl,bA _,trivial,by simp -implicitDefEqProofs only [rX,aB,wfE,wfV],by simp -implicitDefEqProofs only [rX,wfB,wfV,wfL,dC,cX]⟩⟩
   ·exact ⟨by decide,hN2 _ 6 (by omega) (by omega) ⟨by simp -implicitDefEqProofs only [rX,↓reduceIte,Nat.reduceEqDiff,leE];rfl,bA _,trivial,by simp -implicitDefEqProofs only [rX,aB,wfE,wfV],by simp -implicitDefEqProofs only [rX,wfB,wfV,wfL,dC,cX]⟩⟩
   ·exact ⟨by decide,hN2 _ 7 (by omega) (by omega) ⟨by simp -implicitDefEqProofs only [rX,↓reduceIte,Nat.reduceEqDiff,leE];rfl,bA _,trivial,by simp -implicitDefEqProofs only [rX,aB,wfE,wfV],by simp -implicitDefEqProofs only [rX,wfB,wfV,wfL,dC,cX]⟩⟩
   ·exact ⟨by decide,hN2 _ 8 (by omega) (by omega) ⟨by simp -implicitDefEqProofs only [rX,↓reduceIte,Nat.reduceEqDiff,leE];rfl,bA _,trivial,by simp -implicitDefEqProofs only [rX,aB,wfE,wfV],by simp -implicitDefEqProofs only [rX,wfB,wfV,wfL,dC,cX]⟩⟩
   ·refine ⟨⟨by simp only [lo];omega,by simp only [Fx.hi];omega⟩,hN _ (q+1) (by omega) (by omega) ?_⟩
    simp only [hc]
    exact ⟨by simp -implicitDefEqProofs only [rX,↓reduceIte,Nat.reduceEqDiff,leE];simp;omega,⟨aU _,aU _,aU _,trivial⟩,trivial,by simp -implicitDefEqProofs only [rX,aB,wfE,wfV],by simp -implicitDefEqProofs only [rX,wfB,wfV,wfL,cX]⟩
  | true =>
   have h2':=of_decide_eq_true h2
   have gw:(ws (wds bs 64))[i]?=some (w (wn (wds bs 64) i)):=o4 (by omega)
   have ck:(0≤(i:Int)∧(i:Int)<((64:Nat):Int)):=by omega
   simp -implicitDefEqProofs only [yav,kZ,↓wc,yaD,true_and,and_self,Nat.reduceLT,lg0,lg1,lg2,lg3,lg4,lg5,lg6,↓qas,eq_true ck,gw,yaK,n8,yaP,yaM,↓fS,↓Wy,↓Fi,ahU,afH]
   refine ⟨by rw [Hq];omega,?_⟩
   refine aE (pW r.e 6 (by omega)) (by simp [aF,aG,aN,bD,wkL,wk,wkR]) rfl trivial ?_
   simp -implicitDefEqProofs only [qS,qV,kM,kQ,kS,kT,kX,aA,↓reduceIte,Nat.reduceEqDiff,yau,yaA,yax,and_true,aJ]
   refine aE (pW r.e 11 (by omega)) (by simp [aF,aG,aN,bD,wkL,wk,wkR]) rfl trivial ?_
   simp -implicitDefEqProofs only [qe,qS,qT,qV,zv,kM,kQ,kS,kT,kX,aA,↓reduceIte,Nat.reduceEqDiff,kZ,yau,yaA,yax,true_and,and_true,aJ,↓fS]
   refine aE (pW r.e 25 (by omega)) (by simp [aF,aG,aN,bD,wkL,wk,wkR]) rfl trivial ?_
   simp -implicitDefEqProofs only [qa,qe,qs,qP,rdK,qQ,qR,qS,qT,qV,zc,zm,zq,zv,zX,kM,kQ,kS,kT,kX,aA,yaC,yar,kY,yak,yav,↓reduceIte,Nat.reduceEqDiff,yaw,kZ,yap,yay,Nat.reduceAdd,yau,yaA,yax,yaD,true_and,and_true,and_self,Nat.reduceLT,lg0,lg1,lg2,lg3,qar,↓qas,↓qau,↓qaw,↓qaA,↓qaH,aJ,yah,yaK,n8,yaP,yaM,↓pD,↓fS,↓Fi]
   refine aE (pW r.a 2 (by omega)) (by simp [aF,aG,aN,bD,wkL,wk,wkR]) rfl trivial ?_
   simp -implicitDefEqProofs only [qS,qV,kM,kQ,kS,kT,kX,aA,↓reduceIte,Nat.reduceEqDiff,yau,yaA,yax,and_true,aJ]
   refine aE (pW r.a 13 (by omega)) (by simp [aF,aG,aN,bD,wkL,wk,wkR]) rfl trivial ?_
   simp -implicitDefEqProofs only [qe,qS,qT,qV,zv,kM,kQ,kS,kT,kX,aA,↓reduceIte,Nat.reduceEqDiff,kZ,yau,yaA,yax,true_and,and_true,aJ,↓fS]
   refine aE (pW r.a 22 (by omega)) (by simp [aF,aG,aN,bD,wkL,wk,wkR]) rfl trivial ?_
   simp -implicitDefEqProofs only [qa,qe,qR,qT,qY,zi,zj,zm,zq,zr,zv,zG,zX,kQ,kR,kS,kT,kX,aA,cells?,yaC,yar,yaB,splice,kY,yak,yav,↓reduceIte,Nat.reduceEqDiff,yaw,kZ,yaT,yaI,yap,yay,Nat.reduceAdd,yaU,bH,yau,yaA,yaO,yaN,yaV,yaF,yaL,isC,yax,yaD,true_and,and_true,and_self,yaG,yag,not_false_eq_true,Nat.reduceLT,Nat.reduceLeDiff,yab,lg0,wl,wm,wo,lg1,wr,wt,wu,lg2,ww,wx,wy,lg3,wC,wD,wE,lg4,wI,wJ,lg5,wM,wN,wQ,wR,wU,qar,↓qas,↓qau,↓qaw,↓qaA,↓qaC,↓qaE,↓qaH,↓qcn,aQ,yah,yaK,n8,yaP,yaM,↓pD,↓fS]
   refine ⟨⟨by simp only [lo];omega,by simp only [Fx.hi];omega⟩,hN1 _ (i+1) (by omega) (by omega) ?_⟩
   have e:lG (wn (wds bs 64)) s (i+1)=r.rnd (kW i) (wn (wds bs 64) i):=by rw [hr];rfl
   simp only [e]
   exact ⟨by simp -implicitDefEqProofs only [rX,↓reduceIte,Nat.reduceEqDiff,leE];simp,bA _,trivial,by simp -implicitDefEqProofs only [rX,aB,wfE,wfV],by simp -implicitDefEqProofs only [rX,wfB,wfV,wfL,dC,cX]⟩
set_option maxRecDepth 20000
theorem iV {m:Bs}:(sha m).length=32:=by simp [sha]
def z16:Bs:=yaq 16 0
theorem gZ:z16.length=16:=rfl
theorem w16:yad V.v (ybF 16 (Value.int IntKind.u8 0)).toList=us z16:=by unfold us;rfl
attribute [irreducible] z16
def cp (l:Bs) (i:Nat):Bs:=l.take i++yaq (16-i) 0
theorem abL {l:Bs} {i:Nat} (h:l.length=32) (hi:i≤16):(cp l i).length=16:=by simp [cp];omega
theorem akP {l:Bs}:cp l 0=z16:=by unfold z16;rfl
theorem afW {l:Bs}:cp l 16=l.take 16:=by simp [cp]
theorem abK {l:Bs} {i:Nat} (h:l.length=32) (hi:i<16):(cp l i).set i (bn l i)=cp l (i+1):=by
 unfold cp bn
 have hl:(l.take i).length=i:=by rw [yaE];omega
 rw [ybq _ _ (by omega),hl,ybr,show 16-i=(16-(i+1))+1 by omega,ybs,yaB,yak,yam (by omega)]
 rw [show l.take (i+1)=l.take i++[l[i]'(by omega)] from (ybI (by omega)).symm,yaJ]
 rfl
set_option maxHeartbeats 1000000 in
theorem aeP (m:Bs) (hm:m.length≤140737488355000):Ok 106 [byV m] (Is (.agg (us ((sha m).take 16)))):=by
 refine ok_of lw106 (by simp) ?_
 unfold c106
 simp -implicitDefEqProofs only [rX,↓rY,aA,cells?,↓reduceIte,reduceCtorEq,aC,aK,w16]
 refine aE (aeE m hm) (by simp [aF,aG,aN,bD,wkL,wk,wkR,wkB]) (by simp [ren,f9]) trivial ?_
 have tks:(us (sha m)).take 32=us (sha m):=yac (by rw [fL,iV];exact yab _)
 have dz:(us z32).drop 32=[]:=yaz (by rw [fL,lI];exact yab _)
 have tkz:(us z16).take 16=us z16:=yac (by rw [fL,gZ];exact yab _)
 have dz6:(us z16).drop 16=[]:=yaz (by rw [fL,gZ];exact yab _)
 simp -implicitDefEqProofs only [rX,↓rY,aA,cells?,splice,↓reduceIte,Nat.reduceEqDiff,Nat.reduceAdd,aC,bH,isC,aQ,aJ,w32,w16,fL,iV,lI,gZ,dz,dz6,tY]
 have h16:us z16=yaq 16 (u8 0):=by unfold us z16;rfl
 refine cD (fun i:Nat=>(⟨[(5,.i i),(4,.ptr 2 0 0),(3,.ptr 1 0 0),(2,.ptr 0 0 0)],[.var (us z16),.var (us (sha m)),.var (us (cp (sha m) i))],3⟩:St)) (fun i=>i≤16) (fun i=>16-i) 0 (yan _) ?_ ?_
 ·exact ⟨by simp -implicitDefEqProofs only [rX,↓reduceIte,Nat.reduceEqDiff,leE];rfl,⟨aU _,aU _,by rw [akP,h16];exact aU (Blk.var (yaq 16 (u8 0))),trivial⟩,trivial,by simp -implicitDefEqProofs only [rX,aB,wfE,wfV],by simp -implicitDefEqProofs only [rX,wfB,cX]⟩
 intro i hi N hN
 simp only [c106l0]
 simp -implicitDefEqProofs only [rX,↓rY,aA,cells?,splice,↓reduceIte,Nat.reduceEqDiff,Nat.reduceAdd,aL,aM,wfV,yaa,aQ,yah]
 cases h1:decide ((i:Int)<16) with
 | true =>
  have h1':=of_decide_eq_true h1
  have lc:(cp (sha m) i).length=16:=abL iV hi
  have gs:(us (sha m))[i]?=some (u8 (bn (sha m) i)):=Pz (by rw [iV];omega)
  have sp:∀ x:UInt8,yaf i (us (cp (sha m) i))++[u8 x]++yaH (i+1) (us (cp (sha m) i))=us ((cp (sha m) i).set i x):=fun x=>Ix (by omega)
  simp -implicitDefEqProofs only [rX,↓rY,isC,Nat.reduceLeDiff,gs,sp,fL,lc]
  refine ⟨by omega,by omega,by omega,⟨by simp only [lo];omega,by simp only [Fx.hi];omega⟩,?_⟩
  refine hN _ (i+1) (by omega) (by omega) ?_
  rw [abK iV (by omega)]
  exact ⟨by simp -implicitDefEqProofs only [rX,↓reduceIte,Nat.reduceEqDiff,leE];simp,bA _,trivial,by simp -implicitDefEqProofs only [rX,aB,wfE,wfV],by simp -implicitDefEqProofs only [rX,wfB,cX]⟩
 | false =>
  have h1':=of_decide_eq_false h1
  have:i=16:=by omega
  subst this
  have l16:((sha m).take 16).length=16:=by rw [yaE,iV];rfl
  have tk3:(us ((sha m).take 16)).take 16=us ((sha m).take 16):=yac (by rw [fL,l16];exact yab _)
  simp -implicitDefEqProofs only [rX,↓rY,afW,tk3,fL,l16,tY,gZ,dz6,cX]
set_option maxRecDepth 20000
def S0:Stm:=⟨iv,yaq 64 0,0⟩
theorem rp0:Rp S0 []:=⟨rfl,rfl,rfl,rfl⟩
theorem abZ:S0.enc=iv.enc++(yaq 64 (u8 0)++[n64 0]):=by unfold Stm.enc sC;rfl
theorem Po:pR.toList.length=73:=rfl
set_option maxHeartbeats 2000000 in
theorem aiO:Ok 96 [] (Is (.agg S0.enc)):=by
 refine ok_of lw96 (by simp) ?_
 unfold c96
 simp -implicitDefEqProofs only [rX,↓rY,aA,cells?,splice,↓reduceIte,Nat.reduceAdd,reduceCtorEq,aC,bH,aL,aM,wfV,isC,Nat.reduceLeDiff,aQ,aK,abZ,aaP,Po]
 refine ⟨yab _,?_,?_⟩
 ·simp [wfL,wfV]
 ·rfl
end Go.Fx.E
namespace Go.Fx.E
open Go Go.Fx
def zz (x:Int):Nat:=if 0≤x then (2*x).toNat else (-2*x-1).toNat
def vi (n:Nat):Bs:=if h:n<128 then [UInt8.ofNat n] else UInt8.ofNat (n%128+128)::vi (n/128)
termination_by n
decreasing_by omega
def nB (x:Int):Bs:=vi (zz x)
def tB (t:Bs):Bs:=nB t.length++t
def lB (l:List Int):Bs:=nB l.length++(l.map nB).flatten
def inB (k:Int) (l:List Bs):Bs:=UInt8.ofNat (k%256).toNat::(l.map tB).flatten
def fR (k:Int) (l:List Bs):Bs:=(sha (inB k l)).take 16
theorem Fv {n:Nat} (h:n<128):vi n=[UInt8.ofNat n]:=by rw [vi,dif_pos h]
theorem Xt {n:Nat} (h:¬n<128):vi n=UInt8.ofNat (n%128+128)::vi (n/128):=by rw [vi,dif_neg h]
theorem xM {x:Int} (hx:-9223372036854775808≤x∧x≤9223372036854775807):zz x<18446744073709551616:=by unfold zz;split<;>omega
theorem wrap64 {x:Int}:IntKind.u64.wrap x=x%18446744073709551616:=by simp [IntKind.wrap,IntKind.bits,IntKind.signed]
theorem Fq {x:Int}:IntKind.u8.wrap x=x%256:=by simp [IntKind.wrap,IntKind.bits,IntKind.signed]
theorem Uq {x:Int} (hx:-9223372036854775808≤x∧x≤9223372036854775807) :
  IntKind.u64.wrap ((yao 64 (IntKind.u64.wrap (IntKind.u64.wrap x*2)) ^^^ yao 64 (IntKind.u64.wrap (x.fdiv 9223372036854775808))).toNat:Int)=(zz x:Int):=by
 rw [wrap64 (x:=((BitVec.toNat _:Nat):Int))]
 have h64:∀ b:BitVec 64,((b.toNat:Nat):Int)%18446744073709551616=(b.toNat:Int):=fun b=>Int.emod_eq_of_lt (yaR _) (by have:=b.isLt;omega)
 rw [h64,wrap64,wrap64,wrap64,yba _ (by omega)]
 unfold zz
 by_cases h:0≤x
 ·rw [if_pos h,show x/9223372036854775808=0 by omega,show x%18446744073709551616*2%18446744073709551616=2*x by omega]
  simp only [Int.zero_emod,BitVec.ofInt_ofNat,BitVec.xor_zero,ybJ]
  omega
 ·rw [if_neg h,show x/9223372036854775808=-1 by omega,show x%18446744073709551616*2%18446744073709551616=2*x+18446744073709551616 by omega,show (-1:Int)%18446744073709551616=18446744073709551615 from rfl]
  have e1:yao 64 18446744073709551615=BitVec.allOnes 64:=ybR (by rw [ybJ,BitVec.toNat_allOnes];omega)
  rw [e1,BitVec.xor_allOnes,BitVec.toNat_not,ybJ]
  omega
theorem adF {n:Nat} (h:n<18446744073709551616):IntKind.u8.wrap ((yao 8 (IntKind.u8.wrap (n:Int)) ||| yao 8 128).toNat:Int)=((UInt8.ofNat (n%128+128)).toNat:Int):=by
 rw [Fq,Fq]
 have h8:∀ b:BitVec 8,((b.toNat:Nat):Int)%256=(b.toNat:Int):=fun b=>Int.emod_eq_of_lt (yaR _) (by have:=b.isLt;omega)
 rw [h8]
 have key:∀ m:Fin 256,(yaW 8 m.val ||| 128#8).toNat=m.val%128+128:=by decide +kernel
 have:=key ⟨n%256,by omega⟩
 simp only at this
 have e:yao 8 ((n:Int)%256)=yaW 8 (n%256):=by
  rw [show ((n:Int)%256)=((n%256:Nat):Int) by omega,ybQ]
 rw [e,show yao 8 128=128#8 by rfl,this,UInt8.toNat_ofNat']
 omega
theorem Zc {n:Nat}:(IntKind.u8.wrap ((n:Int).tmod 128)+128:Int)=((UInt8.ofNat (n%128+128)).toNat:Int):=by
 rw [Fq,UInt8.toNat_ofNat',show (n:Int).tmod 128=((n%128:Nat):Int) from rfl]
 omega
theorem xT {n:Nat} (h:n<128):IntKind.u8.wrap (n:Int)=((UInt8.ofNat n).toNat:Int):=by
 rw [Fq,UInt8.toNat_ofNat'];omega
theorem Lp:∀ (k n:Nat),n<128 ^ (k+1)→(vi n).length≤k+1
 | 0,n,h=>by rw [Fv (by omega)];simp
 | k+1,n,h=>by
  by_cases hn:n<128
  ·rw [Fv hn];simp
  ·rw [Xt hn,yar]
   have:=Lp k (n/128) (by rw [Nat.div_lt_iff_lt_mul (by omega),←Nat.pow_succ];exact h)
   omega
theorem Py {n:Nat} (h:n<18446744073709551616):(vi n).length≤10:=Lp 9 n (by omega)
theorem rR {x:Int} (hx:-9223372036854775808≤x∧x≤9223372036854775807):(nB x).length≤10:=Py (xM hx)
open Go Go.Fx Go.Proofs
set_option maxRecDepth 20000
theorem ahX {a b:Int} {K:V→Prop}:bU .shl .u64 a b K=(0≤b∧K (.v (.int .u64 (IntKind.u64.wrap (a*2 ^ (min b.toNat 64)))))):=rfl
theorem ahW {a b:Int} {K:V→Prop}:bU .shr .u64 a b K=(0≤b∧K (.v (.int .u64 (a.fdiv (2 ^ (min b.toNat 64)))))):=rfl
theorem sri {a b:Int} {K:V→Prop}:bU .shr .i64 a b K=(0≤b∧K (.v (.int .i64 (a.fdiv (2 ^ (min b.toNat 64)))))):=rfl
theorem ahQ {a c:Int} {K:V→Prop} {x:Bool}:cN .xor x .u64 a c K=K (.v (.int .u64 (IntKind.u64.wrap ((yao 64 a ^^^ yao 64 c).toNat:Int)))):=rfl
theorem or8 {a c:Int} {K:V→Prop} {x:Bool}:cN .or x .u8 a c K=K (.v (.int .u8 (IntKind.u8.wrap ((yao 8 a ||| yao 8 c).toNat:Int)))):=rfl
theorem p1:(2:Int) ^ (min (1:Int).toNat 64)=2:=rfl
theorem p63:(2:Int) ^ (min (63:Int).toNat 64)=9223372036854775808:=rfl
theorem p7:(2:Int) ^ (min (7:Int).toNat 64)=128:=rfl
theorem y9 {fx:List Nat} {f:(St→Prop)→St→Prop} {s s0:St} (hgh:eH fx s s0) {G:Type} (pat:G→St) (I:G→Prop) (μ:G→Nat) (g:G) (h0:I g) (h1:leS fx s0 (pat g))
  (h:∀ g,I g→∀ N:St→Prop,(∀ s' g',I g'→μ g'<μ g→leS fx s' (pat g')→N s')→f N (pat g)):Ac fx f s :=
 fX hgh pat I μ g h0 h1 fun g hg=>h g hg _ fun s' g' a b c=>⟨g',⟨a,b⟩,c⟩
theorem afS {n:Nat}:((n:Int).fdiv 128)=((n/128:Nat):Int):=by rw [yba _ (by omega)];rfl
structure VI (x:Nat) (g:Bs × Nat):Prop where
 e:vi x=g.1++vi g.2
 lt:g.2<18446744073709551616
 len:g.1.length≤10
theorem VI.next {x:Nat} {L:Bs} {n:Nat} (h:VI x (L,n)) (hx:x<18446744073709551616) (hn:¬n<128):VI x (L++[UInt8.ofNat (n%128+128)],n/128):=by
 have he:=h.e
 have hl:=Py hx
 have:=h.lt
 simp only at he this
 rw [Xt hn] at he
 refine ⟨by simp only;rw [he];simp,by simp only;omega,?_⟩
 rw [he] at hl
 simp only [yag,yar,yaC] at hl ⊢
 omega
set_option maxHeartbeats 1000000 in
theorem Rq (x:Int) (hx:-9223372036854775808≤x∧x≤9223372036854775807):Ok 102 [.i x] (IsA (.sl 0 0 (nB x).length) [.arr 1 ((nB x).map by1)]):=by
 refine ok_of lw102 (by simp) ?_
 unfold c102
 simp -implicitDefEqProofs only [rX,aA,↓reduceIte,Nat.reduceEqDiff,reduceCtorEq,aJ,aK,↓ahX,↓sri,↓ahQ,p1,p63,Uq hx]
 refine ⟨by omega,by omega,?_⟩
 refine y9 (.virt 1 1 (by decide) (.nilE 4 0 rfl (.refl _))) (fun g:Bs × Nat=>(⟨[(4,.sl 0 0 g.1.length),(3,n64 g.2)],[.arr 1 (g.1.map by1)],0⟩:St)) (VI (zz x)) (fun g=>g.2) ([],zz x) ⟨rfl,xM hx,by simp⟩ ?_ ?_
 ·exact ⟨by simp -implicitDefEqProofs only [rX,↓reduceIte,Nat.reduceEqDiff,leE],bA _,trivial,by simp -implicitDefEqProofs only [rX,aB,wfE,wfV],by simp -implicitDefEqProofs only [wfB]⟩
 rintro ⟨L,n⟩ hI N hN
 have hlt:=hI.lt
 have hlen:=hI.len
 have he:=hI.e
 simp only at hlt hlen he
 have tk:yaf L.length (yad by1 L)=yad by1 L:=yac (by rw [yai];exact yab _)
 simp only [c102l0]
 simp -implicitDefEqProofs only [rX,↓rY,aA,cells?,↓reduceIte,Nat.reduceEqDiff,Nat.reduceAdd,reduceCtorEq,aC,bZ,bO,bE,kill,St.kill,isD,Nat.reduceLT,Nat.reduceLeDiff,aQ,aJ,yah]
 cases h1:decide ((n:Int)>127) with
 | true =>
  have h1':=of_decide_eq_true h1
  simp -implicitDefEqProofs only [rX,↓rY,kill,St.kill,isD,↓or8,↓ahW,p7,adF hlt,afS,tk]
  refine ⟨by omega,by omega,hN _ (L++[UInt8.ofNat (n%128+128)],n/128) (hI.next (xM hx) (by omega)) (by simp only;omega) ?_⟩
  exact ⟨by simp -implicitDefEqProofs only [rX,↓reduceIte,Nat.reduceEqDiff,leE],⟨by rw [yaj];exact aU _,trivial⟩,trivial,by simp -implicitDefEqProofs only [rX,aB,wfE,wfV],by simp -implicitDefEqProofs only [wfB]⟩
 | false =>
  have h1':=of_decide_eq_false h1
  have hv:nB x=L++[UInt8.ofNat n]:=by unfold nB;rw [he,Fv (by omega)]
  simp -implicitDefEqProofs only [↓rY,xT (show n<128 by omega),tk]
  refine ⟨by omega,?_⟩
  simp -implicitDefEqProofs only [rX,↓reduceIte,aL,aM,leH,leB,aD,aB,wfB,wfV,Nat.reduceLeDiff,cA,hv,yaj]
  rfl
theorem Ze {x:Int} (h:0≤x) (h2:x≤9223372036854775807):IntKind.u64.wrap (IntKind.u64.wrap x*2)=(zz x:Int):=by
 unfold zz;rw [wrap64,wrap64,if_pos h];omega
theorem Zf {x:Int} (h:x<0) (h2:-9223372036854775808≤x):IntKind.u64.wrap (IntKind.u64.wrap (IntKind.u64.wrap (-1-x)*2)+1)=(zz x:Int):=by
 unfold zz;rw [wrap64,wrap64,wrap64,if_neg (by omega)];omega
theorem Xq {n:Nat} (h:n<18446744073709551616):IntKind.u64.wrap ((n/128:Nat):Int)=((n/128:Nat):Int):=by rw [wrap64];omega
theorem Xw {n:Nat}:((n:Int).tdiv 128)=((n/128:Nat):Int):=rfl
set_option maxHeartbeats 1000000 in
theorem Ro (x:Int) (hx:-9223372036854775808≤x∧x≤9223372036854775807):Ok 108 [.i x] (IsA (.sl 0 0 (nB x).length) [.arr 1 ((nB x).map by1)]):=by
 refine ok_of lw108 (by simp) ?_
 unfold c108
 simp -implicitDefEqProofs only [rX,↓rY,aA,↓reduceIte,reduceCtorEq,aJ,aK]
 cases h0:decide (x<0) with
 | true =>
  have h0':=of_decide_eq_true h0
  simp -implicitDefEqProofs only [↓rY,Zf h0' hx.1]
  refine ⟨⟨by simp only [lo];omega,by simp only [Fx.hi];omega⟩,?_⟩
  refine y9 (.virt 1 1 (by decide) (.nilE 4 0 rfl (.refl _))) (fun g:Bs × Nat=>(⟨[(4,.sl 0 0 g.1.length),(3,n64 g.2)],[.arr 1 (g.1.map by1)],0⟩:St)) (VI (zz x)) (fun g=>g.2) ([],zz x) ⟨rfl,xM hx,by simp⟩ ?_ ?_
  ·exact ⟨by simp -implicitDefEqProofs only [rX,↓reduceIte,Nat.reduceEqDiff,leE],bA _,trivial,by simp -implicitDefEqProofs only [rX,aB,wfE,wfV],by simp -implicitDefEqProofs only [wfB]⟩
  rintro ⟨L,n⟩ hI N hN
  have hlt:=hI.lt
  have hlen:=hI.len
  have he:=hI.e
  simp only at hlt hlen he
  have tk:yaf L.length (yad by1 L)=yad by1 L:=yac (by rw [yai];exact yab _)
  simp only [c108l0]
  simp -implicitDefEqProofs only [rX,↓rY,aA,cells?,↓reduceIte,Nat.reduceEqDiff,Nat.reduceAdd,reduceCtorEq,aC,bZ,bO,bE,kill,St.kill,isD,Nat.reduceLT,Nat.reduceLeDiff,aQ,aJ,yah]
  cases h1:decide ((n:Int)≥128) with
  | true =>
   have h1':=of_decide_eq_true h1
   simp -implicitDefEqProofs only [↓rY,Zc,Xw,tk,Xq hlt]
   refine ⟨by omega,⟨by simp only [lo];omega,by simp only [Fx.hi];have:=(UInt8.ofNat (n%128+128)).toNat_lt;omega⟩,by omega,by omega,hN _ (L++[UInt8.ofNat (n%128+128)],n/128) (hI.next (xM hx) (by omega)) (by simp only;omega) ?_⟩
   exact ⟨by simp -implicitDefEqProofs only [rX,↓reduceIte,Nat.reduceEqDiff,leE],⟨by rw [yaj];exact aU _,trivial⟩,trivial,by simp -implicitDefEqProofs only [rX,aB,wfE,wfV],by simp -implicitDefEqProofs only [wfB]⟩
  | false =>
   have h1':=of_decide_eq_false h1
   have hv:nB x=L++[UInt8.ofNat n]:=by unfold nB;rw [he,Fv (by omega)]
   simp -implicitDefEqProofs only [↓rY,xT (show n<128 by omega),tk]
   refine ⟨by omega,?_⟩
   simp -implicitDefEqProofs only [rX,↓reduceIte,aL,aM,leH,leB,aD,aB,wfB,wfV,Nat.reduceLeDiff,cA,hv,yaj]
   rfl
 | false =>
  have h0':=of_decide_eq_false h0
  simp -implicitDefEqProofs only [↓rY,Ze (show 0≤x by omega) hx.2]
  refine y9 (.virt 1 1 (by decide) (.nilE 4 0 rfl (.refl _))) (fun g:Bs × Nat=>(⟨[(4,.sl 0 0 g.1.length),(3,n64 g.2)],[.arr 1 (g.1.map by1)],0⟩:St)) (VI (zz x)) (fun g=>g.2) ([],zz x) ⟨rfl,xM hx,by simp⟩ ?_ ?_
  ·exact ⟨by simp -implicitDefEqProofs only [rX,↓reduceIte,Nat.reduceEqDiff,leE],bA _,trivial,by simp -implicitDefEqProofs only [rX,aB,wfE,wfV],by simp -implicitDefEqProofs only [wfB]⟩
  rintro ⟨L,n⟩ hI N hN
  have hlt:=hI.lt
  have hlen:=hI.len
  have he:=hI.e
  simp only at hlt hlen he
  have tk:yaf L.length (yad by1 L)=yad by1 L:=yac (by rw [yai];exact yab _)
  simp only [c108l0]
  simp -implicitDefEqProofs only [rX,↓rY,aA,cells?,↓reduceIte,Nat.reduceEqDiff,Nat.reduceAdd,reduceCtorEq,aC,bZ,bO,bE,kill,St.kill,isD,Nat.reduceLT,Nat.reduceLeDiff,aQ,aJ,yah]
  cases h1:decide ((n:Int)≥128) with
  | true =>
   have h1':=of_decide_eq_true h1
   simp -implicitDefEqProofs only [↓rY,Zc,Xw,tk,Xq hlt]
   refine ⟨by omega,⟨by simp only [lo];omega,by simp only [Fx.hi];have:=(UInt8.ofNat (n%128+128)).toNat_lt;omega⟩,by omega,by omega,hN _ (L++[UInt8.ofNat (n%128+128)],n/128) (hI.next (xM hx) (by omega)) (by simp only;omega) ?_⟩
   exact ⟨by simp -implicitDefEqProofs only [rX,↓reduceIte,Nat.reduceEqDiff,leE],⟨by rw [yaj];exact aU _,trivial⟩,trivial,by simp -implicitDefEqProofs only [rX,aB,wfE,wfV],by simp -implicitDefEqProofs only [wfB]⟩
  | false =>
   have h1':=of_decide_eq_false h1
   have hv:nB x=L++[UInt8.ofNat n]:=by unfold nB;rw [he,Fv (by omega)]
   simp -implicitDefEqProofs only [↓rY,xT (show n<128 by omega),tk]
   refine ⟨by omega,?_⟩
   simp -implicitDefEqProofs only [rX,↓reduceIte,aL,aM,leH,leB,aD,aB,wfB,wfV,Nat.reduceLeDiff,cA,hv,yaj]
   rfl
set_option maxRecDepth 20000
theorem Jb {t:Bs} (h:t.length≤140737488355000):(tB t).length≤t.length+10:=by
 have:=rR (x:=(t.length:Int)) (by omega)
 simp only [tB,yag];omega
set_option maxHeartbeats 1000000 in
theorem aiN (t:Bs) (ht:t.length≤140737488355000):Ok 98 [sv t] (IsA (.sl 1 0 (tB t).length) [.dead,.arr 1 ((tB t).map by1)]):=by
 refine ok_of lw98 (by simp) ?_
 unfold c98
 simp -implicitDefEqProofs only [rX,↓rY,aA,↓reduceIte,reduceCtorEq,eW,aK]
 have hn:-9223372036854775808≤((t.length:Nat):Int)∧((t.length:Nat):Int)≤9223372036854775807:=by omega
 have hl:=rR hn
 have tk:yaf (nB t.length).length (yad by1 (nB t.length))=yad by1 (nB t.length):=yac (by rw [yai];exact yab _)
 refine dE _ _ (.sl 1 0 (nB t.length).length) _ [.arr 1 ((nB t.length).map by1)] (Rq (t.length:Int) hn) (by simp [aF,aG,aN,bD,wkL,wk,wkR,eW]) (by simp [ren]) (by simp [bX]) trivial ?_
 simp -implicitDefEqProofs only [rX,↓rY,↓reduceIte,Nat.reduceEqDiff,Nat.reduceAdd,reduceCtorEq,aL,aM,leH,leB,aD,aB,wfB,wfV,bO,bE,kill,St.kill,Nat.reduceLeDiff,aQ,aJ,yah,Vi,cA,tk,tB,yaj]
 omega
set_option maxHeartbeats 1000000 in
theorem aeD (t:Bs) (ht:t.length≤140737488355000):Ok 135 [sv t] (IsA (.sl 1 0 (tB t).length) [.dead,.arr 1 ((tB t).map by1)]):=by
 refine ok_of lw135 (by simp) ?_
 unfold c135
 simp -implicitDefEqProofs only [rX,↓rY,aA,↓reduceIte,reduceCtorEq,eW,aK]
 have hn:-9223372036854775808≤((t.length:Nat):Int)∧((t.length:Nat):Int)≤9223372036854775807:=by omega
 have hl:=rR hn
 have tk:yaf (nB t.length).length (yad by1 (nB t.length))=yad by1 (nB t.length):=yac (by rw [yai];exact yab _)
 refine dE _ _ (.sl 1 0 (nB t.length).length) _ [.arr 1 ((nB t.length).map by1)] (Ro (t.length:Int) hn) (by simp [aF,aG,aN,bD,wkL,wk,wkR,eW]) (by simp [ren]) (by simp [bX]) trivial ?_
 simp -implicitDefEqProofs only [rX,↓rY,↓reduceIte,Nat.reduceEqDiff,Nat.reduceAdd,reduceCtorEq,aL,aM,leH,leB,aD,aB,wfB,wfV,bO,bE,kill,St.kill,Nat.reduceLeDiff,aQ,aJ,yah,Vi,cA,tk,tB,yaj]
 omega
def i1 (x:Int):List V:=[.i x]
theorem afM {x:Int}:(i1 x)[0]?=some (.i x):=rfl
abbrev bI (l:List Int):V:=.bro 1 (l.map i1)
def In64 (l:List Int):Prop:=∀ x∈l,-9223372036854775808≤x∧x≤9223372036854775807
def lBk (l:List Int) (k:Nat):Bs:=nB l.length++((l.take k).map nB).flatten
theorem Hp {l:List Int}:lBk l 0=nB l.length:=by simp [lBk]
theorem Ho {l:List Int} {k:Nat} (h:k<l.length):lBk l (k+1)=lBk l k++nB l[k]:=by
 unfold lBk
 rw [←ybI h,yaj,ybz,yaJ]
 simp
theorem Ep {l:List Int}:lBk l l.length=lB l:=by simp [lBk,lB]
theorem xF {l:List Int} (hl:In64 l) (hn:l.length≤1000000000000):∀ {k:Nat},k≤l.length→(lBk l k).length≤10+10*k
 | 0,_=>by rw [Hp];exact rR (by omega)
 | k+1,h=>by
  rw [Ho h,yag]
  have:=xF hl hn (k:=k) (by omega)
  have:=rR (hl _ (yas h))
  omega
theorem Se {l:List Int} (hl:In64 l) (hn:l.length≤1000000000000):(lB l).length≤10+10*l.length:=by rw [←Ep];exact xF hl hn (yab _)
attribute [irreducible] lBk
set_option maxHeartbeats 1000000 in
theorem aeT (l:List Int) (hl:In64 l) (hn:l.length≤1000000000000):Ok 101 [bI l,.clo 102 []] (IsA (.sl 0 0 (lB l).length) [.arr 1 ((lB l).map by1)]):=by
 refine ok_of lw101 (by simp) ?_
 unfold c101
 simp -implicitDefEqProofs only [rX,↓rY,aA,↓reduceIte,reduceCtorEq,aK]
 intro _
 refine dE _ _ (.sl 0 0 (nB l.length).length) _ [.arr 1 ((nB l.length).map by1)] (Rq (l.length:Int) (by omega)) (by simp [aF,aG,aN,bD,wkL,wk,wkR,eW]) (by simp [ren]) (by simp [bX]) trivial ?_
 simp -implicitDefEqProofs only [rX,↓rY,aA,↓reduceIte,reduceCtorEq,aJ]
 intro _
 refine cD (fun k:Nat=>(⟨[(13,.i k),(12,.i l.length),(11,bI l),(5,.sl 0 0 (lBk l k).length),(1,.clo 102 [])],[.arr 1 ((lBk l k).map by1)],0⟩:St)) (fun k=>k≤l.length) (fun k=>l.length-k) 0 (yan _) ?_ ?_
 ·exact ⟨by simp -implicitDefEqProofs only [rX,↓reduceIte,Nat.reduceEqDiff,reduceCtorEq,leE,Hp];rfl,⟨by rw [Hp];exact aU _,trivial⟩,trivial,by simp -implicitDefEqProofs only [rX,aB,wfE,wfV,wfL],by simp -implicitDefEqProofs only [wfB]⟩
 intro k hk N hN
 have hbl:=xF hl hn hk
 have tk:yaf (lBk l k).length (yad by1 (lBk l k))=yad by1 (lBk l k):=yac (by rw [yai];exact yab _)
 simp only [c101l0]
 simp -implicitDefEqProofs only [rX,↓rY,↓reduceIte,Nat.reduceEqDiff,yae,yaa]
 cases h1:decide ((k:Int)<(l.length:Int)) with
 | true =>
  have h1':=of_decide_eq_true h1
  have hk':k<l.length:=by omega
  have hx:=hl _ (yas hk')
  have hb2:=rR hx
  simp -implicitDefEqProofs only [↓rY,yam hk',afM]
  refine ⟨by omega,hk',?_⟩
  refine dE _ _ (.sl 2 0 (nB l[k]).length) _ [.arr 1 ((nB l[k]).map by1)] (Rq l[k] hx) (by simp [aF,aG,aN,bD,wkL,wk,wkR,eW]) (by simp [ren]) (by simp [bX]) trivial ?_
  have tk2:yaf (nB l[k]).length (yad by1 (nB l[k]))=yad by1 (nB l[k]):=yac (by rw [yai];exact yab _)
  simp -implicitDefEqProofs only [rX,↓rY,aA,↓reduceIte,Nat.reduceEqDiff,Nat.reduceAdd,reduceCtorEq,bO,bE,kill,bQ,St.kill,aQ,aJ,yah,tk,tk2]
  refine ⟨.inr trivial,by omega,⟨by simp only [lo];omega,by simp only [Fx.hi];omega⟩,hN _ (k+1) (by omega) (by omega) ?_⟩
  exact ⟨by simp -implicitDefEqProofs only [rX,↓reduceIte,Nat.reduceEqDiff,leE,Ho hk'];rfl,⟨by rw [Ho hk',yaj];exact aU _,trivial⟩,trivial,by simp -implicitDefEqProofs only [rX,aB,wfE,wfV,wfL],by simp -implicitDefEqProofs only [wfB]⟩
 | false =>
  have h1':=of_decide_eq_false h1
  have:k=l.length:=by omega
  subst this
  simp -implicitDefEqProofs only [rX,↓rY,↓reduceIte,aL,aM,leH,leB,aD,aB,wfB,wfV,Nat.reduceLeDiff,cA,Ep]
theorem adJ (l:List Int) (hl:In64 l) (hn:l.length≤1000000000000):Ok 72 [bI l] (IsA (.sl 0 0 (lB l).length) [.arr 1 ((lB l).map by1)]):=by
 refine ok_of lw72 (by simp) ?_
 unfold c72
 simp -implicitDefEqProofs only [rX,aA,↓reduceIte,reduceCtorEq,aK]
 refine dE _ _ (.sl 0 0 (lB l).length) _ [.arr 1 ((lB l).map by1)] (aeT l hl hn) (by simp [aF,aG,aN,bD,wkL,wk,wkR,wkB]) (by simp [ren]) (by simp [bX]) trivial ?_
 simp -implicitDefEqProofs only [rX,↓reduceIte,aL,aM,leH,leB,aD,aB,wfB,wfV,Nat.reduceLeDiff,cA]
set_option maxHeartbeats 1000000 in
theorem adH (l:List Int) (hl:In64 l) (hn:l.length≤1000000000000):Ok 76 [bI l] (IsA (.sl 0 0 (lB l).length) [.arr 1 ((lB l).map by1)]):=by
 refine ok_of lw76 (by simp) ?_
 unfold c76
 simp -implicitDefEqProofs only [rX,↓rY,aA,↓reduceIte,reduceCtorEq,aK]
 intro _
 refine dE _ _ (.sl 0 0 (nB l.length).length) _ [.arr 1 ((nB l.length).map by1)] (Ro (l.length:Int) (by omega)) (by simp [aF,aG,aN,bD,wkL,wk,wkR,eW]) (by simp [ren]) (by simp [bX]) trivial ?_
 simp -implicitDefEqProofs only [rX,aA,↓reduceIte,aJ]
 refine cD (fun k:Nat=>(⟨[(4,.i k),(0,bI l),(3,.sl 0 0 (lBk l k).length)],[.arr 1 ((lBk l k).map by1)],0⟩:St)) (fun k=>k≤l.length) (fun k=>l.length-k) 0 (yan _) ?_ ?_
 ·exact ⟨by simp -implicitDefEqProofs only [rX,↓reduceIte,Nat.reduceEqDiff,reduceCtorEq,leE,Hp];rfl,⟨by rw [Hp];exact aU _,trivial⟩,trivial,by simp -implicitDefEqProofs only [rX,aB,wfE,wfV],by simp -implicitDefEqProofs only [wfB]⟩
 intro k hk N hN
 have hbl:=xF hl hn hk
 have tk:yaf (lBk l k).length (yad by1 (lBk l k))=yad by1 (lBk l k):=yac (by rw [yai];exact yab _)
 simp only [c76l0]
 simp -implicitDefEqProofs only [rX,↓rY,↓reduceIte,Nat.reduceEqDiff,reduceCtorEq,yae,yaa]
 intro _
 cases h1:decide ((k:Int)<(l.length:Int)) with
 | true =>
  have h1':=of_decide_eq_true h1
  have hk':k<l.length:=by omega
  have hx:=hl _ (yas hk')
  have hb2:=rR hx
  simp -implicitDefEqProofs only [↓rY,yam hk',afM]
  refine ⟨by omega,hk',?_⟩
  refine dE _ _ (.sl 2 0 (nB l[k]).length) _ [.arr 1 ((nB l[k]).map by1)] (Ro l[k] hx) (by simp [aF,aG,aN,bD,wkL,wk,wkR,eW]) (by simp [ren]) (by simp [bX]) trivial ?_
  have tk2:yaf (nB l[k]).length (yad by1 (nB l[k]))=yad by1 (nB l[k]):=yac (by rw [yai];exact yab _)
  simp -implicitDefEqProofs only [rX,↓rY,aA,↓reduceIte,Nat.reduceEqDiff,Nat.reduceAdd,reduceCtorEq,bO,bE,kill,St.kill,aQ,aJ,yah,tk,tk2]
  refine ⟨.inr trivial,by omega,⟨by simp only [lo];omega,by simp only [Fx.hi];omega⟩,hN _ (k+1) (by omega) (by omega) ?_⟩
  exact ⟨by simp -implicitDefEqProofs only [rX,↓reduceIte,Nat.reduceEqDiff,reduceCtorEq,leE,Ho hk'];rfl,⟨by rw [Ho hk',yaj];exact aU _,trivial⟩,trivial,by simp -implicitDefEqProofs only [rX,aB,wfE,wfV],by simp -implicitDefEqProofs only [wfB]⟩
 | false =>
  have h1':=of_decide_eq_false h1
  have:k=l.length:=by omega
  subst this
  simp -implicitDefEqProofs only [rX,↓rY,↓reduceIte,aL,aM,leH,leB,aD,aB,wfB,wfV,Nat.reduceLeDiff,cA,Ep]
set_option maxRecDepth 20000
def sqL:LCode→LCode
 | .seq a _=>a
 | x=>x
def sqR:LCode→LCode
 | .seq _ b=>b
 | x=>x
def s1 (t:Bs):List V:=[sv t]
theorem acT {t:Bs}:(s1 t)[0]?=some (sv t):=rfl
abbrev bS (l:List Bs):V:=.bro 1 (l.map s1)
def inK (k:Int) (l:List Bs) (n:Nat):Bs:=UInt8.ofNat (k%256).toNat::((l.take n).map tB).flatten
theorem Hs {k:Int} {l:List Bs} {n:Nat} (h:n<l.length):inK k l (n+1)=inK k l n++tB l[n]:=by
 unfold inK
 rw [←ybI h,yaj,ybz,yaI]
 simp
theorem Er {k:Int} {l:List Bs}:inK k l l.length=inB k l:=by simp [inK,inB]
theorem Yq {k:Int} {l:List Bs}:inK k l 0=[UInt8.ofNat (k%256).toNat]:=by simp [inK]
theorem Sl {k:Int} {l:List Bs}:∀ (d n:Nat),n+d=l.length→(inK k l n).length≤(inB k l).length
 | 0,n,h=>by rw [←Er,←h];exact yab _
 | d+1,n,h=>by
  refine ybK ?_ (Sl d (n+1) (by omega))
  rw [Hs (by omega),yag];omega
theorem Ht {k:Int} {l:List Bs} {n:Nat} (h:n<l.length):(inK k l n).length+(tB l[n]).length≤(inB k l).length∧l[n].length≤(inB k l).length:=by
 have:=Sl (k:=k) (l:=l) (l.length-(n+1)) (n+1) (by omega)
 rw [Hs h,yag] at this
 refine ⟨this,ybK ?_ (ybK (Nat.le_add_left _ _) this)⟩
 simp [tB]
attribute [irreducible] inK
theorem rV {k:Int} {l:List Bs}:(fR k l).length=16:=by unfold fR;rw [yaE,iV];rfl
def c70r:LCode:=sqR (sqR c70)
theorem c70_eq:c70=.seq (sqL c70) (.seq (sqL (sqR c70)) c70r):=rfl
theorem Yu {k:Int}:IntKind.u8.wrap k=((UInt8.ofNat (k%256).toNat).toNat:Int):=by rw [Fq,UInt8.toNat_ofNat'];omega
set_option maxHeartbeats 2000000 in
theorem agI (k:Int) (l:List Bs) (hB:(inB k l).length≤1000000000000) (S:Stm) (hS:Rp S (inK k l 0)) (els:List (List V)) (e:Env) (b:Nat) (h1:get e 1=bS l) (h4:get e 4=.ptr 0 0 0) (h5:get e 5=.ptr 2 0 0) :
  aw (cxN Tryz.prog []) c70r (eL [] 0 [gY.cell 4 (some 16)] (Is (.agg (us (fR k l))))) (fun _ _=>False) (eL [] 0 [gY.cell 4 (some 16)] (Is (.agg (us (fR k l))))) ⟨e,[.var (us z16),.arr 1 els,.var S.enc],b⟩:=by
 unfold c70r
 simp -implicitDefEqProofs only [rX,↓rY,c70,sqR,aA,↓reduceIte,Nat.reduceAdd,aJ,h1]
 intro hml
 simp only [maxLen] at hml
 refine cD (fun g:Nat × Stm=>(⟨[(17,.i g.1),(16,.i l.length),(15,bS l),(5,.ptr 2 0 0),(4,.ptr 0 0 0)],[.var (us z16),.dead,.var (sC g.2.st g.2.blk g.2.n)],3⟩:St)) (fun g=>g.1≤l.length∧Rp g.2 (inK k l g.1)) (fun g=>l.length-g.1) (0,S) ⟨yan _,hS⟩ ?_ ?_
 ·exact ⟨by simp -implicitDefEqProofs only [rX,↓reduceIte,Nat.reduceEqDiff,leE,h4,h5];rfl,⟨aU _,trivial,aU _,trivial⟩,trivial,by simp -implicitDefEqProofs only [rX,aB,wfE,wfV],by simp -implicitDefEqProofs only [rX,wfB,j9,cX]⟩
 rintro ⟨n,S⟩ ⟨hn,hS⟩ N hN
 simp only at hn hS
 have hl:=hS.len
 simp only [c70l0]
 simp -implicitDefEqProofs only [rX,↓rY,rdK,↓reduceIte,Nat.reduceEqDiff,Nat.reduceAdd,yae,yaa,aJ]
 cases h1:decide ((n:Int)<(l.length:Int)) with
 | true =>
  have h1':=of_decide_eq_true h1
  have hn':n<l.length:=by omega
  simp -implicitDefEqProofs only [rX,↓rY,yam hn',acT,lL hl,eQ hl]
  have hp:=Ht (k:=k) hn'
  refine ⟨by omega,hn',?_⟩
  refine dE _ _ (.sl 4 0 (tB l[n]).length) _ [.dead,.arr 1 ((tB l[n]).map by1)] (aiN l[n] (by omega)) (by simp [aF,aG,aN,bD,wkL,wk,wkR,eW]) (by simp [ren]) (by simp [bX]) trivial ?_
  have tk:yaf (tB l[n]).length (yad by1 (tB l[n]))=yad by1 (tB l[n]):=yac (by rw [yai];exact yab _)
  simp -implicitDefEqProofs only [rX,↓rY,↓reduceIte,Nat.reduceEqDiff,aJ,tk,f5,vD]
  refine ⟨.inr trivial,?_⟩
  refine tL _ _ _ (aaF S _ (tB l[n]) hS (by omega)) ⟨⟨(dR _ iW).1,trivial,trivial⟩,(dR _ iW).2,rfl,trivial⟩ (fun g=>by simp only [ren,Stm.enc,w7]) trivial ?_
  intro S' hS'
  have hl':=hS'.len
  simp -implicitDefEqProofs only [rX,↓rY,aA,cells?,splice,↓reduceIte,Nat.reduceEqDiff,Nat.reduceAdd,aJ,Stm.enc,lL hl',eQ hl',Vo,eQ hl,yC hl]
  rw [←Hs hn'] at hS'
  refine ⟨⟨by simp only [lo];omega,by simp only [Fx.hi];omega⟩,hN _ (n+1,S') ⟨by simp only;omega,hS'⟩ (by simp only;omega) ?_⟩
  exact ⟨by simp -implicitDefEqProofs only [rX,↓reduceIte,Nat.reduceEqDiff,leE];rfl,⟨aU _,trivial,aU _,trivial⟩,trivial,by simp -implicitDefEqProofs only [rX,aB,wfE,wfV],by simp -implicitDefEqProofs only [rX,wfB,j9,cX]⟩
 | false =>
  have h1':=of_decide_eq_false h1
  have:n=l.length:=by omega
  subst this
  rw [Er] at hS
  simp -implicitDefEqProofs only [rX,↓rY,lL hl,eQ hl]
  refine aE (aiM S _ hS (by omega)) ⟨⟨(dR _ iW).1,trivial⟩,(dR _ iW).2,trivial⟩ (by simp [ren,f9]) trivial ?_
  have tks:(us (sha (inB k l))).take 32=us (sha (inB k l)):=yac (by rw [fL,iV];exact yab _)
  have dz:(us z32).drop 32=[]:=yaz (by rw [fL,lI];exact yab _)
  simp -implicitDefEqProofs only [rX,↓rY,aA,cells?,splice,↓reduceIte,Nat.reduceEqDiff,Nat.reduceAdd,aC,dP,aL,aM,wfV,Nat.reduceLT,Nat.reduceLeDiff,aQ,w32,fL,tY,iV,lI,dz]
  have h16:yaf 16 (yaH (Int.toNat 0) (us (sha (inB k l))))=us (fR k l):=by rw [show Int.toNat 0=0 from rfl,yaO,Vf];rfl
  have l16:=rV (k:=k) (l:=l)
  have dz6:(us z16).drop 16=[]:=yaz (by rw [fL,gZ];exact yab _)
  have tk3:(us (fR k l)).take 16=us (fR k l):=yac (by rw [fL,l16];exact yab _)
  rw [h16,fL,l16,dz6,yap,tk3,gZ]
  exact ⟨⟨⟨by omega,by omega⟩,by omega,by omega⟩,by decide,by decide,rfl,tY,by omega,by simp,cX,rfl⟩
set_option maxHeartbeats 4000000 in
theorem ajE (k:Int) (l:List Bs) (hB:(inB k l).length≤1000000000000):Ok 70 [.i k,bS l] (Is (.agg (us (fR k l)))):=by
 refine ok_of lw70 (by simp) ?_
 have t73:∀ {S:Stm},Rp S (inK k l 0)→(S.enc).length=73∧(S.enc).take 73=S.enc∧S.enc.all isC=true:=fun {S} h=>⟨eQ h.len,lL h.len,Vo⟩
 have d73:(yad V.v pR.toList).drop 73=[]:=rfl
 have hd:UInt8.ofNat (k%256).toNat::[]=inK k l 0:=Yq.symm
 have by0:by1 (UInt8.ofNat (k%256).toNat)=[V.v (.int .u8 ((UInt8.ofNat (k%256).toNat).toNat:Int))]:=rfl
 have bo:bytesOf [[V.v (.int .u8 ((UInt8.ofNat (k%256).toNat).toNat:Int))]]=some (inK k l 0):=by rw [←hd,←by0];exact f5 [_]
 have i0:(inK k l 0).length=1:=by rw [←hd];rfl
 have o97:Ok 97 [.agg S0.enc,sv (inK k l 0)] (IsQ (fun S'=>Rp S' (inK k l 0)) (fun S'=>.agg S'.enc) (fun _=>[])):=by
  have:=aaF S0 [] (inK k l 0) rp0 (by rw [i0];decide)
  simpa using this
 rw [c70_eq]
 simp -implicitDefEqProofs only [rX,↓rY,c70,sqL,sqR,aA,cells?,↓reduceIte,Nat.reduceEqDiff,Nat.reduceAdd,reduceCtorEq,aC,bZ,isD,Nat.reduceLT,aJ,aK,w16,Yu,bo,vD]
 repeat' first
  | exact agI k l hB _ (by assumption) _ _ _ rfl rfl rfl
  | refine And.intro ?_ ?_
  | (refine aE aiO ⟨trivial,trivial⟩ (by simp only [ren,Stm.enc,w7]) trivial ?_
     simp -implicitDefEqProofs only [rX,↓rY,aA,cells?,↓reduceIte,Nat.reduceEqDiff,Nat.reduceAdd,reduceCtorEq,aC,bZ,isD,Nat.reduceLT,aJ,bo,vD])
  | (refine tL _ _ _ o97 ⟨⟨(dR _ iW).1,trivial,trivial⟩,(dR _ iW).2,rfl,trivial⟩ (fun g=>by simp only [ren,Stm.enc,w7]) trivial ?_
     intro S hS
     simp -implicitDefEqProofs only [rX,↓rY,aA,cells?,splice,↓reduceIte,Nat.reduceEqDiff,Nat.reduceAdd,aC,aJ,Po,d73,(t73 hS).1,(t73 hS).2.1,(t73 hS).2.2])
set_option maxRecDepth 20000
set_option maxHeartbeats 1000000 in
theorem aeO (k:Int) (l:List Bs) (hB:(inB k l).length≤1000000000000):Ok 107 [.i k,bS l] (IsA (.sl 0 0 (inB k l).length) [.arr 1 ((inB k l).map by1)]):=by
 refine ok_of lw107 (by simp) ?_
 unfold c107
 have hd:UInt8.ofNat (k%256).toNat::[]=inK k l 0:=Yq.symm
 have by0:by1 (UInt8.ofNat (k%256).toNat)=[V.v (.int .u8 ((UInt8.ofNat (k%256).toNat).toNat:Int))]:=rfl
 have i0:(inK k l 0).length=1:=by rw [←hd];rfl
 simp -implicitDefEqProofs only [rX,↓rY,aA,cells?,↓reduceIte,reduceCtorEq,aC,bZ,isD,Nat.reduceLT,aJ,aK,Yu]
 refine cD (fun n:Nat=>(⟨[(6,.i n),(1,bS l),(5,.sl 0 0 (inK k l n).length)],[.arr 1 ((inK k l n).map by1)],0⟩:St)) (fun n=>n≤l.length) (fun n=>l.length-n) 0 (yan _) ?_ ?_
 ·exact ⟨by simp -implicitDefEqProofs only [rX,↓reduceIte,Nat.reduceEqDiff,reduceCtorEq,leE,i0];rfl,⟨by rw [←hd];exact aU _,trivial⟩,trivial,by simp -implicitDefEqProofs only [rX,aB,wfE,wfV],by simp -implicitDefEqProofs only [wfB]⟩
 intro n hn N hN
 have tk:yaf (inK k l n).length (yad by1 (inK k l n))=yad by1 (inK k l n):=yac (by rw [yai];exact yab _)
 simp only [c107l0]
 simp -implicitDefEqProofs only [rX,↓rY,↓reduceIte,Nat.reduceEqDiff,yae,yaa]
 intro hml
 simp only [maxLen] at hml
 cases h1:decide ((n:Int)<(l.length:Int)) with
 | true =>
  have h1':=of_decide_eq_true h1
  have hn':n<l.length:=by omega
  have hp:=Ht (k:=k) hn'
  simp -implicitDefEqProofs only [↓rY,yam hn',acT]
  refine ⟨by omega,hn',?_⟩
  refine dE _ _ (.sl 3 0 (tB l[n]).length) _ [.dead,.arr 1 ((tB l[n]).map by1)] (aeD l[n] (by omega)) (by simp [aF,aG,aN,bD,wkL,wk,wkR,eW]) (by simp [ren]) (by simp [bX]) trivial ?_
  have tk2:yaf (tB l[n]).length (yad by1 (tB l[n]))=yad by1 (tB l[n]):=yac (by rw [yai];exact yab _)
  simp -implicitDefEqProofs only [rX,↓rY,aA,↓reduceIte,Nat.reduceEqDiff,Nat.reduceAdd,reduceCtorEq,bO,bE,kill,St.kill,aQ,aJ,yah,tk,tk2]
  refine ⟨.inr trivial,by omega,⟨by simp only [lo];omega,by simp only [Fx.hi];omega⟩,hN _ (n+1) (by omega) (by omega) ?_⟩
  exact ⟨by simp -implicitDefEqProofs only [rX,↓reduceIte,Nat.reduceEqDiff,leE,Hs hn'];rfl,⟨by rw [Hs hn',yaj];exact aU _,trivial⟩,trivial,by simp -implicitDefEqProofs only [rX,aB,wfE,wfV],by simp -implicitDefEqProofs only [wfB]⟩
 | false =>
  have h1':=of_decide_eq_false h1
  have:n=l.length:=by omega
  subst this
  simp -implicitDefEqProofs only [rX,↓rY,↓reduceIte,aL,aM,leH,leB,aD,aB,wfB,wfV,Nat.reduceLeDiff,cA,Er]
set_option maxHeartbeats 1000000 in
theorem ajB (k:Int) (l:List Bs) (hB:(inB k l).length≤1000000000000):Ok 75 [.i k,bS l] (Is (.agg (us (fR k l)))):=by
 refine ok_of lw75 (by simp) ?_
 unfold c75
 simp -implicitDefEqProofs only [rX,↓rY,aA,cells?,↓reduceIte,Nat.reduceEqDiff,reduceCtorEq,aC,aK,w16]
 refine dE _ _ (.sl 1 0 (inB k l).length) _ [.arr 1 ((inB k l).map by1)] (aeO k l hB) (by simp [aF,aG,aN,bD,wkL,wk,wkR,wkB]) (by simp [ren]) (by simp [bX]) trivial ?_
 simp -implicitDefEqProofs only [rX,↓reduceIte]
 refine aE (aeP (inB k l) (by omega)) ⟨⟨by show _≤ybL _;rw [yai];exact Nat.le_of_eq (yay _),trivial⟩,⟨rfl,yac (by simp)⟩,trivial⟩ (by simp [ren,f9]) trivial ?_
 have l16:=rV (k:=k) (l:=l)
 have hh:yaf 16 (sha (inB k l))=fR k l:=rfl
 have dz6:(us z16).drop 16=[]:=yaz (by rw [fL,gZ];exact yab _)
 have tk3:(us (fR k l)).take 16=us (fR k l):=yac (by rw [fL,l16];exact yab _)
 simp -implicitDefEqProofs only [rX,↓rY,cells?,splice,↓reduceIte,Nat.reduceEqDiff,aL,aM,wfV,aQ,fL,tY,gZ,hh,l16,tk3,dz6,cX]
set_option maxRecDepth 20000
theorem cal {f:FuncId} {fn:Func} (h:Tryz.prog.funcs[f]?=some fn) (h1:(fn.name == "runtime.NumGoroutine")=false) (h2:fn.body.isNone=false):iL Tryz.prog f:=⟨fn,h,h1,h2⟩
def s1L (l:List Bs):List V:=[.ro 1 (l.map s1)]
theorem Xy {l:List Bs}:(s1L l)[0]?=some (.ro 1 (l.map s1)):=rfl
set_option maxHeartbeats 1000000 in
theorem afP (w:World):Calls Tryz.prog 100 #[.slice none 0 0,.int .i64 0] w fun e w'=>e=.returned (.slice none 0 0)∧w'=w:=by
 go_enter Tryz.func100,Tryz.ntmps100
 go_wp2
 go_ret
 exact ⟨rfl,rfl⟩
set_option maxHeartbeats 1000000 in
theorem afO (n:Nat) (h0:0<n) (hn:n≤4398046511104) (w:World):Calls Tryz.prog 100 #[.slice none 0 0,.int .i64 n] w fun e w'=>∃ G row,n≤G∧G≤9223372036854775807∧row.size=G∧e=.returned (.slice (some ⟨w.heap.size,0,none⟩) 0 G)∧w'=w.drew.alloc (.cells row 9):=by
 have hi0:Tryz.prog.info? 9=some Tryz.t9:=by kernel_rfl
 have hz0:Tryz.t9.zero=some (.string ⟨#[]⟩):=by kernel_rfl
 have hs:Tryz.t9.size=1:=by kernel_rfl
 have hb:Tryz.t9.bytes=16:=by kernel_rfl
 have hold:(Builtin.firstCells Tryz.t9.size 0 (.slice none 0 0)).run Tryz.prog w.drew=.ok ([]:List Value).toArray w.drew:=run_firstCells_none w.drew _ 0 0 0
 have hrz:∀ ty,_:=fun ty=>Lib.run_append_grow_zeros w 93 3 ty 9 Tryz.t9 _ .i64 .i64 Tryz.underlying93 Tryz.underlying3 hi0 hz0 none 0 0 [] hold n (by omega) (by omega) (by omega) (by omega) (by rw [hb];omega) (by rw [hb];exact growslice_fits (by omega) (by omega))
 simp only [yay] at hrz
 obtain ⟨G,hG⟩:∃ G,G=grownCap w n 0 9:=⟨_,rfl⟩
 have hGn:n≤G:=by rw [hG];exact grownCap_ge w _ _ _
 have hG63:G≤9223372036854775807:=by
  have:=grownCap_le_maxLen w n 0 9 (by unfold maxLen;omega)
  rw [←hG] at this
  unfold maxLen at this
  omega
 rw [←hG] at hrz
 generalize hrow:(([]:List Value).toArray++Builtin.zeroCells (Value.string ⟨#[]⟩).cells n++Builtin.zeroCells (Value.string ⟨#[]⟩).cells (G-n))=row at hrz
 have hsz:row.size=G:=by
  rw [←hrow]
  simp [Builtin.zeroCells,Value.cells]
  omega
 clear hold hG hrow
 have h1:¬((n:Int)<0):=by omega
 have h4:(n:Int)-(0-0)>0:=by omega
 have e4:(n:Int)-(0-0)=n:=by omega
 go_enter Tryz.func100,Tryz.ntmps100
 go_wp2_with (at_builtin;refine Lib.wpList_append_run _ rfl _ _ _ _ rfl _ _ rfl rfl _ _ (hrz _) ?_)
 all_goals (go_ret;exact ⟨G,hGn,hG63,row,hsz,rfl,rfl⟩)
theorem aeU (n:Nat) (hn:n≤4398046511104):Ok 100 [.nil,.i n] (IsA (.sl 0 0 0) [.arr 1 []]):=by
 refine ⟨cal Tryz.func100 (by kernel_rfl) (by kernel_rfl),?_⟩
 intro ρ X w vals hr ha
 match vals,ha with
 | [v0,v1],⟨h0,h1,_⟩ =>
 have h0':v0=.slice none 0 0:=h0
 have h1':v1=.int .i64 n:=h1
 subst h0' h1'
 have hno:∀ k,(ρ k).real=false:=fun k=>hr.out k (yan _)
 have hown:∀ b,¬Own ρ b:=by
  rintro b ⟨k,hk,_⟩
  rw [hno k] at hk;cases hk
 rcases Nat.eq_zero_or_pos n with rfl|hp
 ·refine (afP w).mono ?_
  rintro e w' ⟨rfl,rfl⟩
  have hno':∀ k,(({ ρ 0 with sz:=1 }:Loc) |> fun L=>if k=0 then L else ρ k).real=false:=by
   intro k
   show (if k=0 then _ else ρ k:Loc).real=false
   split
   ·exact hno 0
   ·exact hno k
  refine ⟨_,.sl 0 0 0,[.arr 1 []],fun k=>if k=0 then { ρ 0 with sz:=1 } else ρ k,rfl,⟨⟨rfl,rfl⟩,yan _⟩,⟨rfl,rfl,rfl,yab _,fun b hb ho=>⟨rfl,?_⟩⟩,⟨fun j k _ h=>?_,fun k _=>hno' k,fun k b hb=>?_,?_,fun k h=>?_,hr.xlt⟩,⟨0,yab _,yan _,.inl ⟨rfl,_,rfl⟩⟩,fun k hk=>absurd hk (Nat.not_lt_zero _)⟩
  ·rintro ⟨k,hk,_⟩
   have:=hno' k
   simp only at this
   rw [this] at hk;cases hk
  ·have:=hno' j
   simp only at this
   rw [this] at h;cases h
  ·cases k with
   | succ k=>simp at hb
   | zero =>
    simp only [yav,Option.some.injEq] at hb
    subst hb
    exact ⟨⟨rfl,by decide⟩,.inl ⟨hno 0,rfl⟩⟩
  ·rintro b ⟨k,hk,_⟩
   have:=hno' k
   simp only at this
   rw [this] at hk;cases hk
  ·have:=hno' k
   simp only at this
   rw [this] at h;cases h
 ·refine (afO n hp hn w).mono ?_
  rintro e w' ⟨G,row,g1,g2,g3,rfl,rfl⟩
  have hsize:(w.drew.alloc (.cells row 9)).heap.size=w.heap.size+1:=Array.size_push ..
  have hold:∀ b,b<w.heap.size→(w.drew.alloc (.cells row 9)).heap[b]?=w.heap[b]?:=by
   intro b hb
   simp only [World.alloc,World.drew]
   rw [Array.getElem?_push_lt (by simpa using hb),Array.getElem?_eq_getElem (by simpa using hb)]
  have hnew:(w.drew.alloc (.cells row 9)).heap[w.heap.size]?=some (.cells row 9 (0,0)):=by
   simp only [World.alloc,World.drew]
   simp
  let L0:Loc:={ ρ 0 with real:=true,blk:=w.heap.size,off:=0,sz:=1,room:=G }
  have hloc:∀ k,(if k=0 then L0 else ρ k:Loc).real=true→k=0:=by
   intro k hk
   by_cases h:k=0
   ·exact h
   ·rw [if_neg h,hno k] at hk;cases hk
  have hfr:Fr ρ w (fun k=>if k=0 then L0 else ρ k) (w.drew.alloc (.cells row 9)):=by
   refine ⟨rfl,rfl,rfl,by omega,fun b hb ho=>⟨hold b hb,?_⟩⟩
   rintro ⟨k,hk,hb2⟩
   have:=hloc k hk
   subst this
   simp only [if_pos] at hb2
   have:w.heap.size=b:=hb2
   omega
  refine ⟨_,.sl 0 0 0,[.arr 1 []],fun k=>if k=0 then L0 else ρ k,rfl,⟨⟨rfl,rfl⟩,yan _⟩,hfr,⟨fun j k hjk h1 h2=>?_,fun k hk=>?_,fun k b hb=>?_,?_,fun k h=>?_,hr.xfr hfr⟩,⟨G,yan _,by unfold maxLen;omega,.inr ⟨rfl,by simp [L0],by simp [L0]⟩⟩,fun k hk=>absurd hk (Nat.not_lt_zero _)⟩
  ·exact absurd ((hloc j h1).trans (hloc k h2).symm) hjk
  ·have:k≠0:=by simp at hk;omega
   simp only [if_neg this]
   exact hno k
  ·cases k with
   | succ k=>simp at hb
   | zero =>
    simp only [yav,Option.some.injEq] at hb
    subst hb
    exact ⟨⟨rfl,by decide⟩,.inr ⟨rfl,row,9,hnew,g3,by simp [L0],trivial⟩⟩
  ·rintro b ⟨k,hk,hb2⟩ hX
   have:=hloc k hk
   subst this
   simp only [if_pos] at hb2
   have h3:w.heap.size=b:=hb2
   have:=hr.xlt.1 b hX
   omega
  ·have:=hloc k h
   subst this
   show w.heap.size<_
   omega
theorem Db {L:List (List Bs)} {k:Nat} (h:k<L.length):(L.take (k+1)).flatten=(L.take k).flatten++L[k]:=by
 rw [List.take_add_one,yam h,ybz];simp
theorem xJ {L:List (List Bs)} {k:Nat}:(L.take k).flatten.length≤L.flatten.length:=by
 conv=>rhs;rw [←ybW k L,ybz,yag]
 omega
theorem ajD (L:List (List Bs)) (hL:L.flatten.length≤4398046511104):Ok 71 [.bro 1 (L.map s1L)] (IsA (.sl 0 0 L.flatten.length) [.arr 1 (L.flatten.map s1)]):=by
 refine ok_of lw71 (by simp) ?_
 unfold c71
 simp -implicitDefEqProofs only [rX,↓rY,aA,↓reduceIte,reduceCtorEq,aJ,aK]
 intro hm
 refine aT (fun k:Nat=>⟨[(11,.i k),(10,.i L.length),(9,.bro 1 (L.map s1L)),(3,.i (L.take k).flatten.length),(0,.bro 1 (L.map s1L))],[],0⟩) (fun k=>k≤L.length) (fun k=>L.length-k) 0 (by omega) ?_ ?_
 ·simp -implicitDefEqProofs only [rX,↓reduceIte,Nat.reduceEqDiff,reduceCtorEq,leE,leH,aD,wfE,wfB,wfV,yal,List.flatten_nil]
 rintro k hk
 have hle:=xJ (L:=L) (k:=k)
 unfold c71l0
 simp -implicitDefEqProofs only [rX,↓rY,aA,↓reduceIte,Nat.reduceEqDiff,reduceCtorEq,leE,leH,aD,wfE,wfB,wfV,yae,yaa,Xy]
 simp only [br,decide_eq_true_eq,decide_eq_false_iff_not]
 refine ⟨fun h=>?_,fun h=>?_⟩
 ·have hk':k<L.length:=by omega
  have hle2:=xJ (L:=L) (k:=k+1)
  have hf:=Db hk'
  refine ⟨⟨by omega,h⟩,hk',?_⟩
  intro hm2
  have hfl:(L.take (k+1)).flatten.length=(L.take k).flatten.length+L[k].length:=by rw [hf,yag]
  refine ⟨by simp only [lo,hi];omega,fun hneg=>absurd hneg (by omega),fun _=>⟨by simp only [lo,hi,maxLen] at *;omega,k+1,⟨by omega,by omega⟩,?_⟩⟩
  rw [hfl]
  simp
 ·rw [yac (by omega)]
  refine dE [.nil,.i L.flatten.length] (.sl 0 0 0) (.sl 0 0 0) [.arr 1 []] [.arr 1 []] (aeU _ hL) ⟨⟨trivial,trivial,trivial⟩,rfl,rfl,trivial⟩ (by simp [ren]) (by simp [bX]) trivial ?_
  simp -implicitDefEqProofs only [rX,↓rY,aA,↓reduceIte,reduceCtorEq,aJ]
  intro hm2
  refine aT (fun k:Nat=>⟨[(27,.i k),(26,.i L.length),(25,.bro 1 (L.map s1L)),(6,.sl 0 0 (L.take k).flatten.length)],[.arr 1 ((L.take k).flatten.map s1)],0⟩) (fun k=>k≤L.length) (fun k=>L.length-k) 0 (by omega) ?_ ?_
  ·simp -implicitDefEqProofs only [rX,↓reduceIte,Nat.reduceEqDiff,leE,leH,leB,aD,aB,wfE,wfB,wfV,yal,List.flatten_nil]
  rintro k hk
  have hle:=xJ (L:=L) (k:=k)
  unfold c71l1
  simp -implicitDefEqProofs only [rX,↓rY,aA,↓reduceIte,Nat.reduceEqDiff,Nat.reduceAdd,aL,aM,leE,leH,leB,aD,aB,wfE,wfB,wfV,bO,bE,kill,St.kill,Nat.reduceLeDiff,yae,yaa,aQ,aJ,Xy,cA]
  simp only [br,decide_eq_true_eq,decide_eq_false_iff_not]
  refine ⟨fun h=>?_,fun h=>?_⟩
  ·have hk':k<L.length:=by omega
   have hle2:=xJ (L:=L) (k:=k+1)
   have hf:=Db hk'
   have hfl:(L.take (k+1)).flatten.length=(L.take k).flatten.length+L[k].length:=by rw [hf,yag]
   refine ⟨⟨by omega,h⟩,hk',by simp,by omega,by simp only [lo,hi,maxLen] at *;omega,k+1,⟨by omega,by omega⟩,?_⟩
   have htk:yaf (L.take k).flatten.length ((L.take k).flatten.map s1)=(L.take k).flatten.map s1:=yac (by rw [yai];exact yab _)
   rw [htk,hfl,hf,yaj]
   exact ⟨⟨by simp,rfl⟩,rfl⟩
  ·rw [yac (by omega)]
   exact ⟨rfl,rfl⟩
theorem abU {cx:Cx} {xs:List Nat} {c:LCode} {N R:St→Prop} {X:Nat→St→Prop} {e:Env} {h:List Blk} {b:Nat}:aw cx (.frz xs c) N X R ⟨e,h,b⟩=mR cx.fx xs ⟨e,h,b⟩ fun s'=>aw cx c N X R s':=rfl
def Ox (fx:List Nat) (v:V) (r:List Nat) (s:St) (K:St→Prop):Prop :=
 match v with
 | .sl k _ _=>Ev fx k (blk s.h k) s fun s'=>mR fx r s' K
 | _=>mR fx r s K
theorem An {fx:List Nat} {s:St} {K:St→Prop}:mR fx [] s K=K s:=rfl
theorem Ao {fx:List Nat} {x:Nat} {r:List Nat} {e:Env} {h:List Blk} {b:Nat} {K:St→Prop}:mR fx (x::r) ⟨e,h,b⟩ K=Ox fx (get e x) r ⟨e,h,b⟩ K:=rfl
theorem So {fx:List Nat} {k i n:Nat} {r:List Nat} {e:Env} {h:List Blk} {b:Nat} {K:St→Prop}:Ox fx (.sl k i n) r ⟨e,h,b⟩ K=Ev fx k (blk h k) ⟨e,h,b⟩ fun s'=>mR fx r s' K:=rfl
theorem Ss {fx:List Nat} {k sz:Nat} {els:List (List V)} {e:Env} {h:List Blk} {b:Nat} {K:St→Prop}:Ev fx k (.arr sz els) ⟨e,h,b⟩ K=(k∉fx∧K ⟨Bu k sz els e,(h.map (r5 k sz els)).set k .dead,b⟩):=rfl
@[congr] theorem alI {fx:List Nat} {v v':V} {r:List Nat} {s:St} {K:St→Prop} (q:v=v'):Ox fx v r s K=Ox fx v' r s K:=by rw [q]
@[congr] theorem alK {fx:List Nat} {k:Nat} {B B':Blk} {s:St} {K:St→Prop} (q:B=B'):Ev fx k B s K=Ev fx k B' s K:=by rw [q]
@[congr] theorem alJ {fx xs:List Nat} {s s':St} {K:St→Prop} (q:s=s'):mR fx xs s K=mR fx xs s' K:=by rw [q]
theorem s4 {cx:Cx} {e:Env} {h:List Blk} {b:Nat} {K:V→St→Prop} {xs:List Nat} {j sz n:Nat} {z:List Value} {ps:List (Nat × Operand)}:aOp cx (.litsf xs j sz n z ps) ⟨e,h,b⟩ K =
  mR (cx.fx++cx.bn) xs ⟨e,h,b⟩ fun s=>bZ s.e sz (yaq n (z.map .v)) ps fun els=>aC s.h (s.b+j)∧K (.sl (s.b+j) 0 n) { s with h:=s.h.set (s.b+j) (.arr sz els) }:=rfl
theorem aaZ {fx:List Nat} {k:Nat} {l:List (List V)} {r:List Nat} {s:St} {K:St→Prop}:Ox fx (.ro k l) r s K=mR fx r s K:=rfl
theorem Kh {fx:List Nat} {l:List V} {r:List Nat} {s:St} {K:St→Prop}:Ox fx (.agg l) r s K=mR fx r s K:=rfl
set_option maxRecDepth 20000
structure Ky where
 party:Int
 serial:Int
 sec:Bs
 fr:Int
 to:Int
def Ky.enc (k:Ky):List V:=[.i k.party,.i k.serial,sv k.sec,.i k.fr,.i k.to]
theorem Ah {k:Ky}:k.enc.length=5:=rfl
theorem s7 {k:Ky}:yaf 5 k.enc=k.enc:=rfl
theorem afF {k:Ky}:k.enc.all isC=true:=rfl
abbrev rS (l:List Bs):V:=.ro 1 (l.map s1)
def fQ (k:Ky) (tag:Int) (l:List Bs):Bs:=fR tag (k.sec::(l++[k.sec]))
theorem dA {k:Ky} {tag:Int} {l:List Bs}:(fQ k tag l).length=16:=rV
def Xj (k:Ky) (l:List Bs):Prop:=(inB 0 (k.sec::(l++[k.sec]))).length≤1000000000000∧l.length≤1000000
theorem Mv {a b:Int} {l:List Bs}:(inB a l).length=(inB b l).length:=rfl
theorem Du {l:Bs} (h:l.length=16):(us l).length=16∧(us l).take 16=us l∧(us l).drop 16=[]:=⟨by rw [fL,h],yac (by rw [fL,h];exact yab _),yaz (by rw [fL,h];exact yab _)⟩
theorem Fy {k n:Nat} {els:List (List V)}:∀ l:List V,(∀ x∈l,∃ u,x=.v u)→r4 k n els l=l
 | [],_=>rfl
 | x::r,h=>by
  obtain ⟨u,rfl⟩:=h x ybc
  show V.v u::r4 k n els r=_
  rw [Fy r fun y hy=>h y (ybd _ hy)]
theorem nA {l:Bs}:∀ x∈us l,∃ u,x=V.v u:=by
 unfold us
 intro x hx
 obtain ⟨b,_,rfl⟩:=ybp.1 hx
 exact ⟨_,rfl⟩
theorem Zr {k n:Nat} {els:List (List V)} {l:Bs}:r4 k n els (us l)=us l:=Fy _ nA
set_option maxHeartbeats 1000000 in
theorem adO (k:Ky) (tag:Int) (l:List Bs) (hS:Xj k l):Ok 40 [.agg k.enc,.i tag,rS l] (Is (.agg (us (fQ k tag l)))):=by
 refine ok_of lw40 (by simp) ?_
 unfold c40 Ky.enc
 simp -implicitDefEqProofs only [rX,↓rY,aA,cells?,↓reduceIte,Nat.reduceEqDiff,Nat.reduceAdd,reduceCtorEq,aC,bZ,isD,Nat.reduceLT,aQ,aJ,aK,w16,s4,An,Ao,So,aaZ,Ss,Bu,nS,r4,r5,Zr]
 have hLf:[[k.sec],l,[k.sec]].flatten=k.sec::(l++[k.sec]):=by simp
 have hll:(k.sec::(l++[k.sec])).length=l.length+2:=by simp
 have h71:=ajD [[k.sec],l,[k.sec]] (by rw [hLf,hll];have:=hS.2;omega)
 rw [hLf] at h71
 refine dE [.bro 1 ([[k.sec],l,[k.sec]].map s1L)] _ (.sl 5 0 (k.sec::(l++[k.sec])).length) _ [.arr 1 ((k.sec::(l++[k.sec])).map s1)] h71 ⟨⟨yab 3,trivial⟩,⟨rfl,rfl⟩,trivial⟩ (by simp [ren]) (by simp [bX]) trivial ?_
 simp -implicitDefEqProofs only [rX,↓reduceIte,Nat.reduceEqDiff]
 refine aE (ajE tag (k.sec::(l++[k.sec])) (by rw [Mv (b:=0)];exact hS.1)) ⟨⟨trivial,by show _≤ybL _;simp,trivial⟩,rfl,⟨rfl,yac (by simp)⟩,trivial⟩ (by simp [ren,f9]) trivial ?_
 obtain ⟨u1,u2,u3⟩:=Du (dA (k:=k) (tag:=tag) (l:=l))
 obtain ⟨z1,z2,z3⟩:=Du gZ
 have hh:fR tag (k.sec::(l++[k.sec]))=fQ k tag l:=rfl
 simp -implicitDefEqProofs only [rX,↓rY,cells?,splice,↓reduceIte,Nat.reduceEqDiff,aL,aM,wfV,aQ,hh,u1,u2,z1,z3,tY,cX]
set_option maxHeartbeats 1000000 in
theorem ajQ (k:Ky) (tag:Int) (l:List Bs) (hS:Xj k l):Ok 48 [.agg k.enc,.i tag,bS l] (Is (.agg (us (fQ k tag l)))):=by
 refine ok_of lw48 (by simp) ?_
 unfold c48 Ky.enc
 simp -implicitDefEqProofs only [rX,↓rY,aA,cells?,↓reduceIte,Nat.reduceEqDiff,Nat.reduceAdd,reduceCtorEq,aC,bZ,bO,bE,kill,bQ,St.kill,isD,Nat.reduceLT,aQ,aJ,aK,w16,sK]
 have hl2:=hS.2
 have tk:yaf (1+l.length) ([V.v (Value.string (sb k.sec))]::yad s1 l)=(k.sec::l).map s1:=by
  rw [show ([V.v (Value.string (sb k.sec))]::yad s1 l)=(k.sec::l).map s1 from rfl,yac (by simp;omega)]
 rw [tk,show [[V.v (Value.string (sb k.sec))]]=[k.sec].map s1 from rfl,←yaj,yaI]
 have hll:1+l.length+1=(k.sec::(l++[k.sec])).length:=by simp;omega
 refine ⟨.inr trivial,by omega,⟨by omega,by omega⟩,?_⟩
 rw [hll]
 refine aE (ajB tag (k.sec::(l++[k.sec])) (by rw [Mv (b:=0)];exact hS.1)) ⟨⟨trivial,by show _≤ybL _;simp,trivial⟩,rfl,⟨rfl,yac (by simp)⟩,trivial⟩ (by simp [ren,f9]) trivial ?_
 obtain ⟨u1,u2,u3⟩:=Du (dA (k:=k) (tag:=tag) (l:=l))
 obtain ⟨z1,z2,z3⟩:=Du gZ
 have hh:fR tag (k.sec::(l++[k.sec]))=fQ k tag l:=rfl
 simp -implicitDefEqProofs only [rX,↓rY,cells?,splice,↓reduceIte,Nat.reduceEqDiff,aL,aM,wfV,aQ,hh,u1,u2,z1,z3,tY,cX]
end Go.Fx.E
namespace Go.Fx.P
open Go Go.Fx Go.Fx.E Go.Proofs
structure Arc where
 from_:Int
 to:Int
 cap:Int
 cost:Int
 deriving Inhabited
def Arc.enc (a:Arc):List V:=[.i a.from_,.i a.to,.i a.cap,.i a.cost]
def encI (x:Int):List V:=[.i x]
def v6 (x:Bool):List V:=[.b x]
def net (n:Int) (arcs:List Arc):V:=.agg [.i n,.ro 4 (arcs.map Arc.enc)]
def li (l:List Int):V:=.ro 1 (l.map encI)
structure Fr where
 sent:Int
 cost:Int
 flow:List Int
 price:List Int
 cut:List Int
def Fr.enc (f:Fr):V:=.agg [.i f.sent,.i f.cost,li f.flow,li f.price,li f.cut]
structure tS where
 gate:Int
 origin:Int
 n:Int
 deriving Inhabited,DecidableEq
def tS.enc (a:tS):List V:=[.i a.gate,.i a.origin,.i a.n]
structure aH where
 kind:Int
 num:Int
 cap:Int
 deriving Inhabited,DecidableEq
def aH.enc (a:aH):List V:=[.i a.kind,.i a.num,.i a.cap]
structure Road where
 from_:Int
 to:Int
 cap:Int
 cost:Int
 deriving Inhabited
def Road.enc (a:Road):List V:=[.i a.from_,.i a.to,.i a.cap,.i a.cost]
def sps (l:List aH):V:=.ro 3 (l.map aH.enc)
def rds (l:List Road):V:=.ro 4 (l.map Road.enc)
def bF (ps:List aH) (rs:List Road):V:=.agg [sps ps,rds rs]
abbrev Ok (f:FuncId) (xs:List V) (R:V→List Blk→Prop):Prop:=OkN Tryz.prog f xs [] [] R
theorem ok_of {f:FuncId} {l0 l:LCode} {rs:List gY} {nt:Nat} (hl:rlF Tryz.prog f l0=some (l,rs,nt)) {args:List V} {R:V→List Blk→Prop} (hlen:args.length≤nt)
  (h:aw (cxN Tryz.prog []) l (eL [] 0 rs R) (fun _ _=>False) (eL [] 0 rs R) ⟨aK 0 args,[],0⟩):Ok f args R :=
 eR pol [] hl hlen trivial (fun k hk=>by simp at hk) h
theorem enc_len (a:Arc):a.enc.length=4:=rfl
theorem eE (a:Arc):yaf 4 a.enc=a.enc:=rfl
theorem lO (a:Arc):a.enc[0]?=some (.i a.from_):=rfl
theorem lN (a:Arc):a.enc[1]?=some (.i a.to):=rfl
theorem oF (a:Arc):a.enc[2]?=some (.i a.cap):=rfl
theorem p6 (a:Arc):a.enc[3]?=some (.i a.cost):=rfl
theorem e7 (a:Arc):a.enc.all isC=true:=rfl
theorem Fb (a:Arc):a.enc.all isD=true:=rfl
theorem Kz (a:tS):a.enc.length=3:=rfl
theorem Fl (a:tS):yaf 3 a.enc=a.enc:=rfl
theorem abX (a:tS):a.enc[0]?=some (.i a.gate):=rfl
theorem abW (a:tS):a.enc[1]?=some (.i a.origin):=rfl
theorem abV (a:tS):a.enc[2]?=some (.i a.n):=rfl
theorem Lc (a:tS):a.enc.all isC=true:=rfl
theorem La (a:tS):a.enc.all isD=true:=rfl
theorem nH (a:aH):a.enc.length=3:=rfl
theorem iU (a:aH):yaf 3 a.enc=a.enc:=rfl
theorem uA (a:aH):a.enc[0]?=some (.i a.kind):=rfl
theorem Qh (a:aH):a.enc[1]?=some (.i a.num):=rfl
theorem vY (a:aH):a.enc[2]?=some (.i a.cap):=rfl
theorem oP (a:aH):a.enc.all isC=true:=rfl
theorem Je (a:aH):a.enc.all isD=true:=rfl
theorem rN (a:Road):a.enc.length=4:=rfl
theorem nK (a:Road):yaf 4 a.enc=a.enc:=rfl
theorem Oh (a:Road):a.enc[0]?=some (.i a.from_):=rfl
theorem Og (a:Road):a.enc[1]?=some (.i a.to):=rfl
theorem Of (a:Road):a.enc[2]?=some (.i a.cap):=rfl
theorem Oe (a:Road):a.enc[3]?=some (.i a.cost):=rfl
theorem uI (a:Road):a.enc.all isC=true:=rfl
theorem Js (a:Road):a.enc.all isD=true:=rfl
theorem Ax (x:Int):(encI x).length=1:=rfl
theorem bW (x:Int):(encI x)[0]?=some (.i x):=rfl
theorem fG (x:Int):yaH 1 (encI x)=[]:=rfl
theorem i6 (x:Bool):yaH 1 (v6 x)=[]:=rfl
theorem Ay (x:Bool):(v6 x).length=1:=rfl
theorem uU (x:Bool):(v6 x)[0]?=some (.b x):=rfl
end Go.Fx.P
namespace Go.Fx.P
open Go Go.Fx Go.Fx.E Go.Proofs
set_option maxRecDepth 20000
theorem En:∀ h:List Blk,leH h h
 | []=>trivial
 | b::h=>by
  refine ⟨?_,En h⟩
  cases b<;>simp [leB]
  ·rename_i cs
   induction cs with
   | nil=>trivial
   | cons x cs ih=>exact ⟨by cases x<;>simp [leV],ih⟩
def lF (x:aH):Prop:=(0≤x.cap∧x.cap≤1073741824)∧((x.kind=1∧0≤x.num∧x.num<64)∨((x.kind=2∨x.kind=3)∧1≤x.num∧x.num≤1073741824))
instance (x:aH):Decidable (lF x):=by unfold lF;infer_instance
def gC (x:aH):Bool:=decide (lF x)
theorem Cn {x:aH} {t:Bool}:(t=true↔lF x)→t=gC x:=fun h=>by
 rw [Bool.eq_iff_iff,h];simp [gC]
theorem aiX (x:aH):Ok 86 [.agg x.enc] (Is (.b (gC x))):=by
 refine ok_of lw86 (by simp) ?_
 unfold c86 aH.enc
 simp -implicitDefEqProofs only [rX,↓rY,aA,cells?,↓reduceIte,Nat.reduceEqDiff,aC,aL,aM,wfV,cxN,aK]
 simp only [br,decide_eq_true_eq,decide_eq_false_iff_not,beq_iff_eq,beq_eq_false_iff_ne]
 have e:∀ t:Bool,(t=true↔lF x)→t=gC x:=fun t=>Cn
 simp only [lF] at e
 repeat' (first|(refine ⟨(0:_),?_⟩)|(refine ⟨by omega,?_⟩)|(refine And.intro ?_ ?_)|(refine (fun _=>?_)))
 all_goals (apply e;first|omega|(simp only [yaQ,false_iff,decide_eq_true_eq];omega))
theorem ajH (x:aH):Ok 67 [.agg x.enc] (Is (.b (gC x))):=by
 refine ok_of lw67 (by simp) ?_
 unfold c67 aH.enc
 simp -implicitDefEqProofs only [rX,↓rY,aA,cells?,↓reduceIte,Nat.reduceEqDiff,aC,aL,aM,wfV,cxN,aK]
 simp only [br,decide_eq_true_eq,decide_eq_false_iff_not,beq_iff_eq,beq_eq_false_iff_ne]
 have e:∀ t:Bool,(t=true↔lF x)→t=gC x:=fun t=>Cn
 simp only [lF] at e
 repeat' (first|(refine ⟨(0:_),?_⟩)|(refine ⟨by omega,?_⟩)|(refine And.intro ?_ ?_)|(refine (fun _=>?_)))
 all_goals (apply e;first|omega|(simp only [yaQ,false_iff,decide_eq_true_eq];omega))
def iQ (ps:List aH) (r:Road):Prop:=∃ (h1:0≤r.from_∧r.from_<ps.length) (h2:0≤r.to∧r.to<ps.length),r.from_≠r.to∧(0≤r.cap∧r.cap≤1073741824)∧(0≤r.cost∧r.cost≤1048576)∧(ps[r.from_.toNat]'(by omega)).kind≠3∧(ps[r.to.toNat]'(by omega)).kind≠1
open Classical in
noncomputable def nI (ps:List aH) (r:Road):Bool:=decide (iQ ps r)
theorem Nu {ps:List aH} {x:Road} {t:Bool}:(t=true↔iQ ps x)→t=nI ps x:=fun h=>by
 rw [Bool.eq_iff_iff,h];simp [nI]
theorem ajG (ps:List aH) (rs:List Road) (r:Road):Ok 68 [bF ps rs,.agg r.enc] (Is (.b (nI ps r))):=by
 refine ok_of lw68 (by simp) ?_
 unfold c68 bF sps rds Road.enc
 simp -implicitDefEqProofs only [rX,↓rY,aA,cells?,↓reduceIte,Nat.reduceEqDiff,Nat.reduceAdd,reduceCtorEq,aC,aL,aM,wfV,yae,uA,cxN,aK]
 simp only [br,decide_eq_true_eq,decide_eq_false_iff_not,beq_iff_eq,beq_eq_false_iff_ne]
 have e:∀ t:Bool,(t=true↔iQ ps r)→t=nI ps r:=fun t=>Nu
 have bad:¬iQ ps r→false=nI ps r:=fun h=>by simp [nI,h]
 repeat' (first|(refine ⟨(0:_),?_⟩)|(refine ⟨by omega,?_⟩)|(refine And.intro ?_ ?_)|(refine (fun _=>?_)))
 all_goals first
  | omega
  | (apply bad;rintro ⟨h1,h2,h3,h4,h5,h6,h7⟩;omega)
  | skip
 ·rename_i h1 h2 h3 h4 h5 h6 h7 h8 h9 h10 h11
  apply e
  simp only [bne_iff_ne] at *
  exact ⟨fun h=>⟨⟨by omega,by omega⟩,⟨by omega,by omega⟩,by omega,⟨by omega,by omega⟩,⟨by omega,by omega⟩,by assumption,h⟩,fun ⟨_,_,_,_,_,_,h⟩=>h⟩
 ·rename_i hb
  apply bad
  rintro ⟨_,_,_,_,_,h,_⟩
  simp only [bne_eq_false_iff_eq] at hb
  exact h hb
end Go.Fx.P
namespace Go.Fx.P
open Go Go.Fx Go.Fx.E Go.Proofs
set_option maxRecDepth 20000
def iO (f:Nat→Int):Nat→Nat→Int
 | 0,_=>0
 | n+1,k=>if f k=0 then iO f n (k+1) else f k
theorem As {f:Nat→Int}:∀ {n k:Nat},(∀ j,k≤j→j<k+n→f j=0)→iO f n k=0
 | 0,_,_=>rfl
 | n+1,k,h=>by
  rw [iO,if_pos (h k (by omega) (by omega))]
  exact As fun j h1 h2=>h j (by omega) (by omega)
theorem i5 {f:Nat→Int}:∀ {n k i:Nat},k≤i→i<k+n→(∀ j,k≤j→j<i→f j=0)→f i≠0→iO f n k=f i
 | 0,_,_,h1,h2,_,_=>by omega
 | n+1,k,i,h1,h2,h,hi=>by
  rw [iO]
  by_cases hk:k=i
  ·subst hk;rw [if_neg hi]
  ·rw [if_pos (h k (by omega) (by omega))]
   exact i5 (by omega) (by omega) (fun j h3 h4=>h j (by omega) h4) hi
def oQ (x y:aH):Bool:=x.kind==y.kind&&x.num==y.num
def twB (l:List aH) (x:aH):Bool:=l.any (oQ x)
def eAt (ps:List aH) (i:Nat):Int :=
 match ps[i]? with
 | some x=>if gC x=false then 400 else if twB (ps.take i) x then 6 else 0
 | none=>0
theorem Fc {ps:List aH} {i:Nat} (h:i<ps.length):eAt ps i=if gC ps[i]=false then 400 else if twB (ps.take i) ps[i] then 6 else 0:=by
 rw [eAt,yam h]
open Classical in
noncomputable def fI (ps:List aH) (rs:List Road):Int :=
 if 100<ps.length∨1500<rs.length then 2 else if iO (eAt ps) ps.length 0≠0 then iO (eAt ps) ps.length 0 else if ∀ r∈rs,iQ ps r then 0 else 400
structure PInv (ps:List aH) (k:Nat):Prop where
 h:∀ j,j<k→eAt ps j=0
structure RInv (ps:List aH) (rs:List Road) (k:Nat):Prop where
 h:∀ j (h:j<rs.length),j<k→iQ ps rs[j]
theorem Nh {ps:List aH} {rs:List Road} (h:100<ps.length∨1500<rs.length):fI ps rs=2:=by rw [fI,if_pos h]
theorem Ng {ps:List aH} {rs:List Road} (h1:¬100<ps.length) (h2:¬1500<rs.length) {k:Nat} (hk:k<ps.length) (hv:PInv ps k) (h:eAt ps k≠0):fI ps rs=eAt ps k:=by
 have:iO (eAt ps) ps.length 0=eAt ps k:=i5 (by omega) (by omega) (fun j _ hj=>hv.h j hj) h
 rw [fI,if_neg (by omega),this,if_pos h]
theorem Yv {ps:List aH} {rs:List Road} (h1:¬100<ps.length) (h2:¬1500<rs.length) (hv:PInv ps ps.length) {k:Nat} (hk:k<rs.length) (h:¬iQ ps rs[k]):fI ps rs=400:=by
 have:iO (eAt ps) ps.length 0=0:=As fun j _ hj=>hv.h j (by omega)
 rw [fI,if_neg (by omega),this,if_neg (by simp),if_neg]
 intro h3
 exact h (h3 _ (yas hk))
theorem Yw {ps:List aH} {rs:List Road} (h1:¬100<ps.length) (h2:¬1500<rs.length) (hv:PInv ps ps.length) (hr:RInv ps rs rs.length):fI ps rs=0:=by
 have:iO (eAt ps) ps.length 0=0:=As fun j _ hj=>hv.h j (by omega)
 rw [fI,if_neg (by omega),this,if_neg (by simp),if_pos]
 intro r hr2
 obtain ⟨j,hj,rfl⟩:=ybf hr2
 exact hr.h j hj hj
theorem PInv.next {ps:List aH} {k:Nat} (hv:PInv ps k) (h:eAt ps k=0):PInv ps (k+1):=⟨fun j hj=>by
 by_cases h2:j=k
 ·subst h2;exact h
 ·exact hv.h j (by omega)⟩
theorem RInv.next {ps:List aH} {rs:List Road} {k:Nat} (hv:RInv ps rs k) (hk:k<rs.length) (h:iQ ps rs[k]):RInv ps rs (k+1):=⟨fun j hj hjk=>by
 by_cases h2:j=k
 ·subst h2;exact h
 ·exact hv.h j hj (by omega)⟩
def aaO (x:aH):Value:=.agg #[.int .i64 x.kind,.int .i64 x.num,.int .i64 0]
def vZ:List aH→Nat→List (Value × V × Nat)
 | [],_=>[]
 | x::l,i=>(aaO x,.b true,i)::vZ l (i+1)
theorem Ib:∀ {l:List aH} {i:Nat} {x:aH},vZ (l++[x]) i=vZ l i++[(aaO x,.b true,i+l.length)]
 | [],i,x=>rfl
 | y::l,i,x=>by
  simp only [yaI,vZ,Ib,yar]
  rw [show i+1+l.length=i+(l.length+1) by omega]
abbrev spK:List (Nat × TypeDesc):=[(0,.int .i64),(1,.int .i64),(2,.int .i64)]
theorem uR:∀ {l:List aH} {i:Nat},pX spK (vZ l i)
 | [],_=>fun e he=>by cases he
 | x::l,i=>fun e he=>by
  rcases yaY.1 he with rfl|he
  ·exact ⟨_,rfl,rfl,rfl⟩
  ·exact uR e he
theorem Mq:∀ {l:List aH} {x:aH} {i j:Nat},fJ [.int .i64 x.kind,.int .i64 x.num,.int .i64 0] (vZ l i) j=if twB l x then some (j+l.findIdx (oQ x),.b true) else none
 | [],x,i,j=>rfl
 | y::l,x,i,j=>by
  simp only [vZ,fJ,aaO,Mq]
  have key:(List.zip [Value.int .i64 x.kind,.int .i64 x.num,.int .i64 0] (#[Value.int .i64 y.kind,.int .i64 y.num,.int .i64 0]:Array Value).toList).all (fun p=>eqK p.1 p.2)=oQ x y:=by
   simp [eqK,oQ]
  rw [key]
  cases h:oQ x y with
  | true=>simp [twB,h,List.findIdx_cons]
  | false =>
   simp only [twB,List.any_cons,h,Bool.false_or,List.findIdx_cons,yaQ,if_false,cond_false]
   by_cases h2:l.any (oQ x)=true
   ·simp only [h2,if_true];congr 2;omega
   ·simp only [h2,yaQ,if_false]
theorem Na {h:List Blk}:∀ {l:List aH} {i:Nat},wfL h ((vZ l i).map fun x=>x.2.1)
 | [],_=>by simp [vZ,wfL]
 | x::l,i=>by
  simp only [vZ,yau,wfL]
  exact ⟨by simp [wfV],Na⟩
theorem adK (ps:List aH) (rs:List Road):Ok 65 [bF ps rs] (Is (.i (fI ps rs))):=by
 refine ok_of lw65 (by simp) ?_
 unfold c65 bF sps rds
 simp -implicitDefEqProofs only [rX,↓rY,aA,cells?,↓reduceIte,Nat.reduceEqDiff,Nat.reduceAdd,aC,aL,aM,wfV,cxN,aK]
 simp only [br,decide_eq_true_eq,decide_eq_false_iff_not]
 refine fun hm=>⟨fun h=>(Nh (.inl (by omega))).symm,fun h1 hm2=>⟨fun h=>(Nh (.inr (by omega))).symm,fun h2=>?_⟩⟩
 intro _
 refine aT (fun k:Nat=>⟨[(22,.i k),(21,.i ps.length),(20,.ro 3 (ps.map aH.enc)),(3,.mp 1),(1,.ptr 0 0 0)],[.var [.ro 3 (ps.map aH.enc),.ro 4 (rs.map Road.enc)],.map (vZ (ps.take k) 0) k],0⟩) (fun k=>k≤ps.length∧PInv ps k) (fun k=>ps.length-k) 0 ⟨by omega,⟨by simp⟩⟩ ?_ ?_
 ·simp -implicitDefEqProofs only [rX,↓reduceIte,Nat.reduceEqDiff,leE,leH,leB,leV,aZ,aD,aB,wfE,wfB,wfV,wfL,yal,vZ]
 rintro k ⟨hk,hv⟩
 unfold c65l0
 simp -implicitDefEqProofs only [rX,↓rY,aA,cells?,splice,↓reduceIte,Nat.reduceEqDiff,Nat.reduceAdd,aC,yae,nH,iU,oP,yaa]
 simp only [br,decide_eq_true_eq,decide_eq_false_iff_not,yaa]
 refine ⟨fun h=>?_,fun h=>?_⟩
 ·have hk:k<ps.length:=by omega
  refine ⟨⟨by omega,by omega⟩,hk,?_⟩
  refine aE (aiX ps[k]) (by simp [aF,aG,aN,bD,wkL,wk,aH.enc,wkR]) rfl trivial ?_
  have he:=Fc hk
  cases hr:gC ps[k] with
  | false =>
   rw [if_pos hr] at he
   simp -implicitDefEqProofs only [rX,↓rY,aA,↓reduceIte,Nat.reduceAdd,aL,aM,wfV]
   rw [Ng (by omega) (by omega) hk hv (by omega),he]
  | true =>
   rw [if_neg (by simp [hr])] at he
   simp -implicitDefEqProofs only [rX,↓rY,aA,cells?,splice,↓reduceIte,Nat.reduceEqDiff,Nat.reduceAdd,aL,aM,leE,leH,leB,leV,aZ,aD,aB,wfE,wfB,wfV,wfL,isC,Nat.reduceLeDiff,aH.enc]
   simp only [Mq]
   refine ⟨rfl,uR,?_⟩
   cases ht:twB (ps.take k) ps[k] with
   | true =>
    rw [if_pos ht] at he
    have hc:6=fI ps rs:=by rw [Ng (by omega) (by omega) hk hv (by omega),he]
    simp [d0,brV,br,hc]
   | false =>
    rw [if_neg (by simp [ht])] at he
    simp only [yaQ,if_false,d0,aA,brV,br,false_implies,true_implies,true_and,gM]
    refine ⟨rfl,uR,by simp only [lo,hi,maxLen] at *;omega,k+1,⟨⟨by omega,hv.next he⟩,by omega⟩,by omega,?_,Na⟩
    rw [ybg hk,Ib,yaE]
    rw [show 0+min k ps.length=k by omega]
    rfl
 have hk:k=ps.length:=by omega
 subst hk
 intro hm3
 refine aT (fun k:Nat=>⟨[(39,.i k),(38,.i rs.length),(37,.ro 4 (rs.map Road.enc)),(1,.ptr 0 0 0)],[.var [.ro 3 (ps.map aH.enc),.ro 4 (rs.map Road.enc)]],0⟩) (fun k=>k≤rs.length∧RInv ps rs k) (fun k=>rs.length-k) 0 ⟨by omega,⟨by simp⟩⟩ ?_ ?_
 ·simp -implicitDefEqProofs only [rX,↓reduceIte,Nat.reduceEqDiff,leE,leH,leB,leV,aZ,aD,aB,wfE,wfB,wfV,wfL,yal]
 rintro k ⟨hk,hw⟩
 unfold c65l1
 simp -implicitDefEqProofs only [rX,↓rY,aA,cells?,splice,↓reduceIte,Nat.reduceEqDiff,Nat.reduceAdd,aC,aL,aM,leE,leH,leB,leV,aZ,aD,aB,wfE,wfB,wfV,wfL,yae,uA,rN,nK,Oh,Og,Of,Oe,uI,yaa]
 simp only [br,decide_eq_true_eq,decide_eq_false_iff_not,yaa]
 refine ⟨fun h=>?_,fun h=>?_⟩
 ·have hkl:k<rs.length:=by omega
  have bad:¬iQ ps rs[k]→400=fI ps rs:=fun h=>(Yv (by omega) (by omega) hv hkl h).symm
  simp only [beq_iff_eq,beq_eq_false_iff_ne,lo,hi,maxLen] at *
  repeat' (first|(refine ⟨(k+1:_),?_⟩)|(refine ⟨by omega,?_⟩)|(refine And.intro ?_ ?_)|(refine (fun _=>?_)))
  all_goals first
   | omega
   | (apply bad;rintro ⟨⟨_,_⟩,⟨_,_⟩,_,⟨_,_⟩,⟨_,_⟩,_,_⟩;first|omega|contradiction)
   | skip
  exact hw.next hkl ⟨⟨by omega,by omega⟩,⟨by omega,by omega⟩,by assumption,⟨by omega,by omega⟩,⟨by omega,by omega⟩,by assumption,by assumption⟩
 ·have hkl:k=rs.length:=by omega
  subst hkl
  exact (Yw (by omega) (by omega) hv hw).symm
end Go.Fx.P
namespace Go.Fx.P
open Go Go.Fx Go.Fx.E Go.Proofs
set_option maxRecDepth 20000
structure abY (ps:List aH) (n k:Nat):Prop where
 h:∀ j (hn:n<ps.length) (h:j<ps.length),j<k→oQ ps[n] ps[j]=false
theorem Qa {ps:List aH} {n:Nat} (hn:n<ps.length) (h:abY ps n n):twB (ps.take n) ps[n]=false:=by
 rw [twB,List.any_eq_false]
 intro y hy
 obtain ⟨j,hj,rfl⟩:=ybf hy
 have:=yaE (l:=ps) (i:=n)
 rw [ybH,h.h j hn (by omega) (by omega)]
 simp
theorem Vg {ps:List aH} {n k:Nat} (hn:n<ps.length) (hk:k<n) (h:oQ ps[n] ps[k]=true):twB (ps.take n) ps[n]=true:=by
 rw [twB,List.any_eq_true]
 have h2:k<(ps.take n).length:=by rw [yaE];omega
 exact ⟨(ps.take n)[k],yas h2,by rw [ybH];exact h⟩
theorem adR (ps:List aH) (rs:List Road):Ok 32 [bF ps rs] (Is (.i (fI ps rs))):=by
 refine ok_of lw32 (by simp) ?_
 unfold c32 bF sps rds
 simp -implicitDefEqProofs only [rX,↓rY,aA,cells?,↓reduceIte,Nat.reduceEqDiff,aC,aL,aM,wfV,cxN,aK]
 simp only [br,decide_eq_true_eq,decide_eq_false_iff_not]
 refine fun hm=>⟨fun h=>(Nh (.inl (by omega))).symm,fun h1 hm2=>⟨fun h=>(Nh (.inr (by omega))).symm,fun h2=>?_⟩⟩
 refine aT (fun k:Nat=>⟨[(3,.i k),(1,.ptr 0 0 0)],[.var [.ro 3 (ps.map aH.enc),.ro 4 (rs.map Road.enc)]],0⟩) (fun k=>k≤ps.length∧PInv ps k) (fun k=>ps.length-k) 0 ⟨by omega,⟨by simp⟩⟩ ?_ ?_
 ·simp -implicitDefEqProofs only [rX,↓reduceIte,Nat.reduceEqDiff,leE,leH,leB,leV,aZ,aD,aB,wfE,wfB,wfV,wfL,yal]
 rintro n ⟨hn,hv⟩
 unfold c32l0
 simp -implicitDefEqProofs only [rX,↓rY,aA,↓reduceIte,Nat.reduceEqDiff,yae,nH,iU,yaa]
 simp only [br,decide_eq_true_eq,decide_eq_false_iff_not,yaa]
 refine fun _=>⟨fun h=>?_,fun h=>?_⟩
 ·have hnl:n<ps.length:=by omega
  refine ⟨⟨by omega,by omega⟩,hnl,?_⟩
  refine aE (ajH ps[n]) (by simp [aF,aG,aN,bD,wkL,wk,aH.enc,wkR]) rfl trivial ?_
  have he:=Fc hnl
  cases hr:gC ps[n] with
  | false =>
   rw [if_pos hr] at he
   simp -implicitDefEqProofs only [rX,↓rY,aA,↓reduceIte,aL,aM,wfV]
   rw [Ng (by omega) (by omega) hnl hv (by omega),he]
  | true =>
   rw [if_neg (by simp [hr])] at he
   simp -implicitDefEqProofs only [rX,↓rY,aA,↓reduceIte]
   refine aT (fun k:Nat=>⟨[(5,.i k),(3,.i n),(1,.ptr 0 0 0)],[.var [.ro 3 (ps.map aH.enc),.ro 4 (rs.map Road.enc)]],0⟩) (fun k=>k≤n∧abY ps n k) (fun k=>n-k) 0 ⟨by omega,⟨by simp⟩⟩ ?_ ?_
   ·simp -implicitDefEqProofs only [rX,↓reduceIte,Nat.reduceEqDiff,leE,leH,leB,leV,aZ,aD,aB,wfE,wfB,wfV,wfL,yal]
   rintro k ⟨hk,hw⟩
   unfold c32l1
   simp -implicitDefEqProofs only [rX,↓rY,aA,↓reduceIte,Nat.reduceEqDiff,aL,aM,leE,leH,leB,leV,aZ,aD,aB,wfE,wfB,wfV,wfL,yae,uA,Qh,yaa]
   simp only [br,decide_eq_true_eq,decide_eq_false_iff_not,yaa]
   refine ⟨fun h2=>?_,fun h2=>?_⟩
   ·have hkn:k<n:=by omega
    have bad:oQ ps[n] ps[k]=true→6=fI ps rs:=fun h3=>by
     rw [if_pos (Vg hnl hkn h3)] at he
     rw [Ng (by omega) (by omega) hnl hv (by omega),he]
    have good:oQ ps[n] ps[k]=false→abY ps n (k+1):=by
     intro h3
     refine ⟨fun j h5 h6 h7=>?_⟩
     by_cases h8:j=k
     ·subst h8;exact h3
     ·exact hw.h j h5 h6 (by omega)
    simp only [oQ] at bad good
    simp only [beq_iff_eq,beq_eq_false_iff_ne,ybb,Bool.and_eq_false_iff,lo,hi,maxLen] at *
    repeat' (first|(refine ⟨(k+1:_),?_⟩)|(refine ⟨by omega,?_⟩)|(refine And.intro ?_ ?_)|(refine (fun _=>?_)))
    all_goals first
     | omega
     | (apply bad;exact ⟨by omega,by omega⟩)
     | skip
    all_goals (apply good;first|(left;omega)|(right;omega))
   ·have hkn:k=n:=by omega
    subst hkn
    rw [if_neg (by simp [Qa hnl hw])] at he
    exact ⟨by simp only [lo,hi,maxLen] at *;omega,k+1,⟨⟨by omega,hv.next he⟩,by omega⟩,by omega⟩
 have hk:n=ps.length:=by omega
 subst hk
 refine aT (fun k:Nat=>⟨[(6,.i k),(1,.ptr 0 0 0)],[.var [.ro 3 (ps.map aH.enc),.ro 4 (rs.map Road.enc)]],0⟩) (fun k=>k≤rs.length∧RInv ps rs k) (fun k=>rs.length-k) 0 ⟨by omega,⟨by simp⟩⟩ ?_ ?_
 ·simp -implicitDefEqProofs only [rX,↓reduceIte,Nat.reduceEqDiff,leE,leH,leB,leV,aZ,aD,aB,wfE,wfB,wfV,wfL,yal]
 rintro k ⟨hk,hw⟩
 unfold c32l2
 simp -implicitDefEqProofs only [rX,↓rY,aA,↓reduceIte,Nat.reduceEqDiff,Nat.reduceAdd,aL,aM,wfV,yae,rN,nK,yaa]
 simp only [br,decide_eq_true_eq,decide_eq_false_iff_not,yaa]
 refine fun _=>⟨fun h=>?_,fun h=>?_⟩
 ·have hkl:k<rs.length:=by omega
  refine ⟨⟨by omega,by omega⟩,hkl,?_⟩
  refine aE (ajG ps rs rs[k]) (by simp [bF,sps,rds,aF,aG,aN,bD,wkL,wk,Road.enc,wkR]) rfl trivial ?_
  cases hs:nI ps rs[k] with
  | true =>
   have hS:iQ ps rs[k]:=by simpa [nI] using hs
   simp -implicitDefEqProofs only [rX,↓rY,aA,↓reduceIte,Nat.reduceEqDiff,leE,leH,leB,leV,aZ,aD,aB,wfE,wfB,wfV,wfL]
   exact ⟨by simp only [lo,hi,maxLen] at *;omega,k+1,⟨⟨by omega,hw.next hkl hS⟩,by omega⟩,by omega⟩
  | false =>
   have hS:¬iQ ps rs[k]:=by simpa [nI] using hs
   simp -implicitDefEqProofs only [rX,↓rY,aA,↓reduceIte,aL,aM,wfV]
   exact (Yv (by omega) (by omega) hv hkl hS).symm
 ·have hkl:k=rs.length:=by omega
  subst hkl
  exact (Yw (by omega) (by omega) hv hw).symm
end Go.Fx.P
namespace Go.Fx.P
open Go Go.Fx Go.Fx.E Go.Proofs
set_option maxRecDepth 20000
def isK (ps:List aH) (kind:Int) (i:Nat):Bool :=
 match ps[i]? with
 | some x=>x.kind==kind
 | none=>false
theorem Eq {ps:List aH} {kind:Int} {i:Nat} (h:i<ps.length):isK ps kind i=(ps[i].kind==kind):=by
 rw [isK,yam h]
def ofN (ps:List aH) (kind:Int) (n:Nat):List Nat:=(yat n).filter (isK ps kind)
theorem mJ {ps:List aH} {kind:Int} {n:Nat}:ofN ps kind (n+1)=ofN ps kind n++(if isK ps kind n then [n] else []):=by
 rw [ofN,ybx,List.filter_append]
 by_cases h:isK ps kind n=true<;>simp [ofN,h]
theorem fF {ps:List aH} {kind:Int} {n:Nat}:(ofN ps kind n).length≤n:=by
 have:=List.length_filter_le (isK ps kind) (yat n)
 rw [yby] at this
 exact this
theorem s5 {ps:List aH} {kind:Int} {n i:Nat} (h:i∈ofN ps kind n):i<n:=by
 have:=(List.mem_filter.1 h).1
 exact List.mem_range.1 this
def nE (n:Nat):List V:=[.i n]
theorem aaM (x:Nat):(nE x)[0]?=some (.i x):=rfl
def Ot (l:List Nat):V:=.ro 1 (l.map nE)
theorem aaG (ps:List aH) (rs:List Road) (kind:Int) (hl:ps.length≤100):Ok 77 [bF ps rs,.i kind] (Is (Ot (ofN ps kind ps.length))):=by
 refine y0 (R:=fun r hs=>wk (Ot (ofN ps kind ps.length)) (gvV (fun _=>true) hs r)) ?_ fun _ _ h=>h
 refine ok_of lw77 (by simp) ?_
 unfold c77 bF sps rds
 simp -implicitDefEqProofs only [rX,↓rY,aA,cells?,↓reduceIte,Nat.reduceEqDiff,aC,cxN,aK]
 intro hm
 refine fX (.virt 1 1 (by decide) (.nilE 5 1 rfl (.refl _))) (fun k:Nat=>⟨[(11,.i k),(10,.i ps.length),(9,.ro 3 (ps.map aH.enc)),(5,.sl 1 0 (ofN ps kind k).length),(2,.ptr 0 0 0),(1,.i kind)],[.var [.ro 3 (ps.map aH.enc),.ro 4 (rs.map Road.enc)],.arr 1 ((ofN ps kind k).map nE)],0⟩) (fun k=>k≤ps.length) (fun k=>ps.length-k) 0 (by omega) ?_ ?_
 ·simp -implicitDefEqProofs only [rX,↓reduceIte,Nat.reduceEqDiff,reduceCtorEq,leE,leH,leB,leV,aZ,aD,aB,wfE,wfB,wfV,wfL,yal,ofN,ybA,List.filter_nil]
 rintro k hk
 unfold c77l0
 simp -implicitDefEqProofs only [rX,↓rY,aA,cells?,splice,↓reduceIte,Nat.reduceEqDiff,Nat.reduceAdd,reduceCtorEq,aC,bZ,leE,leH,leB,leV,aZ,aD,aB,wfE,wfB,wfV,wfL,bO,bE,kill,bQ,St.kill,isD,Nat.reduceLT,yae,nH,iU,uA,oP,yaa]
 simp only [br,yaa,decide_eq_true_eq,decide_eq_false_iff_not]
 refine ⟨fun h=>⟨⟨by omega,h⟩,by omega,?_⟩,fun h=>?_⟩
 ·have hk:k<ps.length:=by omega
  have hs:=mJ (ps:=ps) (kind:=kind) (n:=k)
  have hl2:=fF (ps:=ps) (kind:=kind) (n:=k)
  rw [Eq hk] at hs
  refine ⟨fun h3=>⟨by omega,by simp only [lo,hi,maxLen] at *;omega,k+1,⟨by omega,by omega⟩,⟨by omega,?_⟩,?_⟩,fun h3=>⟨by simp only [lo,hi,maxLen] at *;omega,k+1,⟨by omega,by omega⟩,⟨by omega,?_⟩,?_⟩⟩
  ·rw [hs,h3];simp
  ·rw [hs,h3,yac (by simp)];simp [nE]
  ·rw [hs,h3];simp
  ·rw [hs,h3];simp
 ·have hk:k=ps.length:=by omega
  subst hk
  simp [qa,qb,qc,qd,qe,qf,qg,qh,qi,qj,qk,ql,qm,qn,qo,qp,qq,qr,qs,qt,qu,qv,qw,qx,qy,qz,qA,qB,qC,qD,qE,qF,qG,qH,qI,qJ,qK,qL,qM,qN,qO,qP,rdK,qQ,qR,qS,qT,qU,qV,qW,qX,qY,qZ,zb,zc,zd,ze,zf,zg,zh,zi,zj,zk,zm,zn,zo,zp,zq,zr,zt,zu,zv,zw,zx,zy,zA,zB,zC,zD,zE,zF,zG,zH,zI,zJ,zK,zL,zM,zN,zO,zP,zQ,zR,zS,zT,zU,zV,zW,zX,zY,zZ,ka,kb,kc,kg,kh,ki,kj,kk,kn,ko,kq,kr,kw,kx,ky,kz,kB,kC,kD,kF,kG,kH,kI,kJ,kK,kL,kM,kN,kO,kP,kQ,kR,kS,kT,kU,kV,kX,aA,cells?,yaC,yar,yaB,splice,kY,yak,yav,↓reduceIte,Nat.reduceEqDiff,yaw,kZ,wa,cR,wb,ybM,ybN,↓wc,↓wd,we,wg,yaT,yaI,yap,yay,Nat.reduceAdd,yaU,reduceCtorEq,aC,ybt,ybO,dP,ybP,bH,bZ,wh,aL,aM,ybu,ybv,wj,leE,leH,leB,leV,aZ,aD,aB,wfE,wfB,wfV,wfL,bO,bE,kill,bQ,St.kill,yau,yaA,yaO,yaN,ybe,yaV,yaF,yaL,isD,isC,yax,yaD,true_and,and_true,and_self,V.v.injEq,Value.int.injEq,Value.bool.injEq,yaY,yaG,or_false,false_or,yag,yai,yaZ,not_false_eq_true,yaQ,Nat.reduceLT,Nat.reduceLeDiff,yab,lg0,wl,wm,wo,wq,lg1,wr,wt,wu,wv,lg2,ww,wx,wy,wz,lg3,wC,wD,wE,wF,lg4,wG,wI,wJ,wK,lg5,wL,wM,wN,wO,lg6,wP,wQ,wR,wS,lg7,wT,wU,wV,wW,lg8,wX,wY,wZ,ja,lg9,jb,jc,jd,je,jf,jg,jh,ji,jj,jk,jl,jm,jn,jo,jp,jq,jr,jt,ju,jv,jx,jy,jz,jA,jB,jC,jD,jE,jF,jG,jH,jI,jJ,jK,jL,jM,jN,jO,jP,jQ,jR,jS,jT,jU,jV,jW,jX,jY,jZ,qaa,qab,qac,qad,qae,qaf,qag,qah,qai,qaj,qak,qal,qam,qan,qao,qap,qaq,qar,↓qas,↓qat,↓qau,↓qav,↓qaw,↓qax,↓qay,↓qaz,↓qaA,↓qaB,↓qaC,↓qaD,↓qaE,↓qaF,↓qaG,↓qaH,↓qaI,↓qaJ,↓qaK,↓qaL,↓qaM,↓qaN,↓qaO,↓qaP,↓qaQ,↓qaR,↓qaS,↓qaT,↓qaU,↓qaV,↓qaW,↓qaX,↓qaY,↓qaZ,↓qba,↓qbb,↓qbc,↓qbd,↓qbe,↓qbf,↓qbg,↓qbh,↓qbi,↓qbj,↓qbk,↓qbl,↓qbm,↓qbn,↓qbo,↓qbp,↓qbq,↓qbr,↓qbs,↓qbt,↓qbu,↓qbv,↓qbw,↓qbx,↓qby,↓qbz,↓qbA,↓qbB,↓qbC,↓qbD,↓qbE,↓qbF,↓qbG,↓qbH,↓qbI,↓qbJ,↓qbK,↓qbL,↓qbM,↓qbN,↓qbO,↓qbP,↓qbQ,↓qbR,↓qbS,↓qbT,↓qbU,↓qbV,↓qbW,↓qbX,↓qbY,↓qbZ,↓qca,↓qcb,↓qcc,↓qcd,↓qce,↓qcf,↓qcg,↓qch,↓qci,↓qcj,↓qck,↓qcl,↓qcm,↓qcn,↓qco,↓qcp,↓qcq,↓qcr,↓qcs,↓qct,↓qcu,↓qcv,↓qcw,↓qcx,↓qcy,↓qcz,↓qcA,↓qcB,yai,yae,Kz,Fl,abX,abW,abV,Lc,La,nH,iU,uA,Qh,vY,oP,Je,rN,nK,Oh,Og,Of,Oe,uI,Js,enc_len,eE,lO,lN,oF,p6,e7,Fb,Ax,bW,Ay,uU,yaa,fG,i6,cxN,fO]
  exact ⟨_,⟨En _,by simp,by simp [wfB,wfL,wfV]⟩,by simp [gvV,gvL,wk,wkR,blk,Ot];exact yac (by simp)⟩
def tJ (ps:List aH) (i:Nat):Int :=
 match ps[i]? with
 | some x=>x.cap
 | none=>0
theorem iK {ps:List aH} {i:Nat} (h:i<ps.length):tJ ps i=ps[i].cap:=by
 rw [tJ,yam h]
def nD (ps:List aH) (l:List Nat):Int:=(l.map (tJ ps)).sum
theorem xY {ps:List aH} {l m:List Nat}:nD ps (l++m)=nD ps l+nD ps m:=by simp [nD]
def Bo (ps:List aH):Prop:=∀ i (h:i<ps.length),0≤ps[i].cap∧ps[i].cap≤1073741824
theorem xL {ps:List aH} (h:Bo ps) (i:Nat):0≤tJ ps i∧tJ ps i≤1073741824:=by
 by_cases hi:i<ps.length
 ·rw [iK hi];exact h i hi
 ·rw [tJ,List.getElem?_eq_none (by omega)];exact ⟨Int.le_refl _,by decide⟩
theorem xX {ps:List aH} (h:Bo ps):∀ l:List Nat,0≤nD ps l∧nD ps l≤1073741824*l.length
 | []=>by simp [nD]
 | i::l=>by
  have h1:=xL h i
  have h2:=xX h l
  simp only [nD,yau,List.sum_cons,yar] at *
  omega
def dem (ps:List aH):Int:=nD ps (ofN ps 1 ps.length)
theorem aaH (ps:List aH) (rs:List Road) (hl:ps.length≤100) (hc:Bo ps):Ok 55 [bF ps rs] (Is (.i (dem ps))):=by
 refine ok_of lw55 (by simp) ?_
 unfold c55 bF sps rds
 simp -implicitDefEqProofs only [rX,↓rY,aA,cells?,↓reduceIte,Nat.reduceEqDiff,Nat.reduceAdd,aC,cxN,aK]
 refine aE (aaG ps rs 1 hl) (by simp [bF,sps,rds,aF,aG,aN,bD,wkL,wk,wkR]) rfl trivial ?_
 unfold Ot
 simp -implicitDefEqProofs only [rX,↓rY,aA,↓reduceIte]
 intro hm
 refine aT (fun k:Nat=>⟨[(9,.i k),(8,.i (ofN ps 1 ps.length).length),(7,.ro 1 ((ofN ps 1 ps.length).map nE)),(3,.i (nD ps ((ofN ps 1 ps.length).take k))),(1,.ptr 0 0 0)],[.var [.ro 3 (ps.map aH.enc),.ro 4 (rs.map Road.enc)]],0⟩) (fun k=>k≤(ofN ps 1 ps.length).length) (fun k=>(ofN ps 1 ps.length).length-k) 0 (by omega) ?_ ?_
 ·simp -implicitDefEqProofs only [rX,↓reduceIte,Nat.reduceEqDiff,leE,leH,leB,leV,aZ,aD,aB,wfE,wfB,wfV,wfL,yal,nD,List.sum_nil]
 rintro k hk
 have hl2:=fF (ps:=ps) (kind:=1) (n:=ps.length)
 simp -implicitDefEqProofs only [rX,↓rY,aA,↓reduceIte,Nat.reduceEqDiff,aL,aM,leE,leH,leB,leV,aZ,aD,aB,wfE,wfB,wfV,wfL,yae,vY,yaa,aaM]
 simp only [br,yaa,decide_eq_true_eq,decide_eq_false_iff_not]
 refine ⟨fun h=>⟨⟨by omega,h⟩,by omega,?_⟩,fun h=>?_⟩
 ·have hkl:k<(ofN ps 1 ps.length).length:=by omega
  have hi:(ofN ps 1 ps.length)[k]<ps.length:=s5 (yas hkl)
  have hs:nD ps ((ofN ps 1 ps.length).take (k+1))=nD ps ((ofN ps 1 ps.length).take k)+ps[(ofN ps 1 ps.length)[k]].cap:=by
   rw [ybg hkl,xY]
   simp [nD,iK hi]
  have hb:=xX hc ((ofN ps 1 ps.length).take k)
  have hb2:=hc _ hi
  rw [yaE] at hb
  refine ⟨⟨by omega,by omega⟩,hi,by simp only [lo,Fx.hi,maxLen] at *;omega,by simp only [lo,Fx.hi,maxLen] at *;omega,k+1,⟨by omega,by omega⟩,by omega,by rw [hs]⟩
 ·have hk:k=(ofN ps 1 ps.length).length:=by omega
  subst hk
  simp [dem]
theorem akD (ps:List aH) (rs:List Road) (hl:ps.length≤100) (hc:Bo ps):Ok 28 [bF ps rs] (Is (.i (dem ps))):=by
 refine ok_of lw28 (by simp) ?_
 unfold c28 bF sps rds
 simp -implicitDefEqProofs only [rX,↓rY,aA,cells?,↓reduceIte,aC,cxN,aK]
 refine aT (fun k:Nat=>⟨[(4,.i k),(3,.i (nD ps (ofN ps 1 k))),(1,.ptr 0 0 0)],[.var [.ro 3 (ps.map aH.enc),.ro 4 (rs.map Road.enc)]],0⟩) (fun k=>k≤ps.length) (fun k=>ps.length-k) 0 (by omega) ?_ ?_
 ·simp -implicitDefEqProofs only [rX,↓reduceIte,Nat.reduceEqDiff,leE,leH,leB,leV,aZ,aD,aB,wfE,wfB,wfV,wfL,yal,ofN,ybA,List.filter_nil,nD,List.sum_nil]
 rintro k hk
 unfold c28l0
 simp -implicitDefEqProofs only [rX,↓rY,aA,↓reduceIte,Nat.reduceEqDiff,aL,aM,leE,leH,leB,leV,aZ,aD,aB,wfE,wfB,wfV,wfL,yae,uA,vY,yaa]
 simp only [br,yaa,decide_eq_true_eq,decide_eq_false_iff_not]
 refine fun _=>⟨fun h=>⟨⟨by omega,h⟩,by omega,?_⟩,fun h=>?_⟩
 ·have hk:k<ps.length:=by omega
  have hs:=mJ (ps:=ps) (kind:=1) (n:=k)
  rw [Eq hk] at hs
  have hl2:=fF (ps:=ps) (kind:=1) (n:=k)
  have hb:=xX hc (ofN ps 1 k)
  have hb2:=hc k hk
  have h1:nD ps [k]=ps[k].cap:=by simp [nD,iK hk]
  have h0:nD ps []=0:=rfl
  refine ⟨fun h3=>⟨⟨by omega,h⟩,hk,by simp only [lo,hi,maxLen] at *;omega,by simp only [lo,hi,maxLen] at *;omega,k+1,⟨by omega,by omega⟩,by omega,?_⟩,fun h3=>⟨by simp only [lo,hi,maxLen] at *;omega,k+1,⟨by omega,by omega⟩,by omega,?_⟩⟩
  ·rw [hs,h3,xY];simp [h1]
  ·rw [hs,h3,xY];simp [h0]
 ·have hk:k=ps.length:=by omega
  subst hk
  rfl
end Go.Fx.P
namespace Go.Fx.P
open Go Go.Fx Go.Fx.E Go.Proofs
set_option maxRecDepth 20000
def aP (ps:List aH) (i:Nat):Arc:=⟨2+2*i,3+2*i,tJ ps i,0⟩
def aS (ps:List aH) (i:Nat):Arc:=⟨0,2+2*i,tJ ps i,0⟩
def aO (ps:List aH) (i:Nat):Arc:=⟨3+2*i,1,tJ ps i,0⟩
def aR (r:Road):Arc:=⟨3+2*r.from_,2+2*r.to,r.cap,r.cost⟩
def nA1 (ps:List aH) (n:Nat):List Arc:=(yat n).map (aP ps)
def nA2 (ps:List aH) (l:List Nat):List Arc:=nA1 ps ps.length++l.map (aS ps)
def nA3 (ps:List aH) (l:List Nat):List Arc:=nA2 ps (ofN ps 1 ps.length)++l.map (aO ps)
def nA4 (ps:List aH) (l:List Road):List Arc:=nA3 ps (ofN ps 3 ps.length)++l.map aR
def cK (ps:List aH) (rs:List Road):List Arc:=nA4 ps rs
def nodes (ps:List aH):Int:=2+2*(ps.length:Int)
theorem Ej {ps:List aH} {n:Nat}:(nA1 ps n).length=n:=by simp [nA1]
theorem xD {ps:List aH} {l:List Nat}:(nA2 ps l).length=ps.length+l.length:=by simp [nA2,Ej]
theorem Ei {ps:List aH} {l:List Nat}:(nA3 ps l).length≤2*ps.length+l.length:=by
 have:=fF (ps:=ps) (kind:=1) (n:=ps.length)
 simp only [nA3,yag,xD,yai];omega
theorem xC {ps:List aH} {l:List Road}:(nA4 ps l).length≤3*ps.length+l.length:=by
 have:=fF (ps:=ps) (kind:=3) (n:=ps.length)
 have:=Ei (ps:=ps) (l:=ofN ps 3 ps.length)
 simp only [nA4,yag,yai];omega
def hN (ps:List aH) (rs:List Road) (l:List Arc):List Blk :=
 [.var [.ro 3 (ps.map aH.enc),.ro 4 (rs.map Road.enc)],.var [.i 0,.nil],.var [.i (nodes ps),.sl 3 0 l.length],.arr 4 (l.map Arc.enc)]
theorem lM (l:List Arc) (a:Arc) (m:List Arc) (h:m=l++[a]):V.sl 3 0 (l.length+1)=V.sl 3 0 m.length∧Blk.arr 4 (yaf l.length (l.map Arc.enc)++[[V.v (Value.int .i64 a.from_),V.v (Value.int .i64 a.to),V.v (Value.int .i64 a.cap),V.v (Value.int .i64 a.cost)]])=Blk.arr 4 (m.map Arc.enc):=by
 subst h
 refine ⟨by simp,?_⟩
 rw [yac (by simp),yaj]
 rfl
theorem Yl {ps:List aH} {k:Nat} (hk:k<ps.length):nA1 ps (k+1)=nA1 ps k++[⟨2+2*k,3+2*k,ps[k].cap,0⟩]:=by
 rw [nA1,ybx,yaj];simp [nA1,aP,iK hk]
theorem aeZ {ps:List aH} {l:List Nat} {k:Nat} (hl:k<l.length) (hk:l[k]<ps.length):nA2 ps (l.take (k+1))=nA2 ps (l.take k)++[⟨0,2+2*(l[k]:Nat),ps[l[k]].cap,0⟩]:=by
 rw [ybg hl,nA2,yaj];simp [nA2,aS,iK hk]
theorem aeX {ps:List aH} {l:List Nat} {k:Nat} (hl:k<l.length) (hk:l[k]<ps.length):nA3 ps (l.take (k+1))=nA3 ps (l.take k)++[⟨3+2*(l[k]:Nat),1,ps[l[k]].cap,0⟩]:=by
 rw [ybg hl,nA3,yaj];simp [nA3,aO,iK hk]
theorem Yk {ps:List aH} {l:List Road} {k:Nat} (hl:k<l.length):nA4 ps (l.take (k+1))=nA4 ps (l.take k)++[⟨3+2*l[k].from_,2+2*l[k].to,l[k].cap,l[k].cost⟩]:=by
 rw [ybg hl,nA4,yaj];simp [nA4,aR]
theorem aaJ (ps:List aH) (rs:List Road) (hl:ps.length≤100) (hr:rs.length≤1500) (hv:RInv ps rs rs.length):Ok 51 [bF ps rs] (Is (net (nodes ps) (cK ps rs))):=by
 refine y0 (R:=fun r hs=>wk (net (nodes ps) (cK ps rs)) (gvV (fun _=>true) hs r)) ?_ fun _ _ h=>h
 refine ok_of lw51 (by simp) ?_
 unfold c51 bF sps rds
 simp -implicitDefEqProofs only [rX,↓rY,aA,cells?,splice,↓reduceIte,Nat.reduceEqDiff,Nat.reduceAdd,aC,bH,isC,Nat.reduceLeDiff,cxN,aK]
 intro hm
 refine ⟨by simp only [lo,hi,maxLen] at *;omega,by simp only [lo,hi,maxLen] at *;omega,?_⟩
 intro _
 refine fX (.virt 1 4 (by decide) (.nilB 2 [.i (nodes ps),.nil] [.i (nodes ps),.sl 3 0 0] rfl ⟨rfl,fun i a b h1 h2=>?_⟩ (.refl _))) (fun k:Nat=>⟨[(21,.i k),(20,.i ps.length),(19,.ro 3 (ps.map aH.enc)),(3,.ptr 2 0 0),(2,.ptr 1 0 0),(1,.ptr 0 0 0)],hN ps rs (nA1 ps k),0⟩) (fun k=>k≤ps.length) (fun k=>ps.length-k) 0 (by omega) ?_ ?_
 ·match i,h1,h2 with
  | 0,h1,h2=>cases h1;cases h2;exact .inl rfl
  | 1,h1,h2=>cases h1;cases h2;exact .inr ⟨rfl,3,rfl⟩
  | n+2,h1,h2=>cases h1
 ·simp -implicitDefEqProofs only [rX,↓reduceIte,Nat.reduceEqDiff,leE,leH,leB,leV,aZ,aD,aB,wfE,wfB,wfV,wfL,yal,nA1,ybA,hN,nodes]
 ·rintro k hk
  unfold c51l0 hN
  simp -implicitDefEqProofs only [rX,↓rY,aA,cells?,splice,↓reduceIte,Nat.reduceEqDiff,Nat.reduceAdd,reduceCtorEq,aC,bH,bZ,leE,leH,leB,leV,aZ,aD,aB,wfE,wfB,wfV,wfL,bO,bE,kill,bQ,St.kill,isD,isC,Nat.reduceLT,Nat.reduceLeDiff,yae,nH,iU,vY,oP,yaa]
  simp only [br,yaa,decide_eq_true_eq,decide_eq_false_iff_not]
  refine ⟨fun h=>?_,fun h=>?_⟩
  ·have hk:k<ps.length:=by omega
   refine ⟨⟨by omega,h⟩,hk,?_⟩
   have:=Ej (ps:=ps) (n:=k)
   simp only [lo,hi,maxLen] at *
   refine ⟨by omega,by omega,by omega,by omega,by omega,by omega,k+1,⟨by omega,by omega⟩,by omega,?_⟩
   exact lM _ _ _ (Yl hk)
  have hk:k=ps.length:=by omega
  subst hk
  refine aE (aaG ps rs 1 hl) (by simp [bF,sps,rds,aF,aG,aN,bD,wkL,wk,wkR]) rfl trivial ?_
  have hz2:nA1 ps ps.length=nA2 ps ((ofN ps 1 ps.length).take 0):=by simp [nA2]
  rw [hz2]
  have hq:=fF (ps:=ps) (kind:=1) (n:=ps.length)
  have hm1:=fun i (h:i<(ofN ps 1 ps.length).length)=>s5 (yas h)
  generalize hL:ofN ps 1 ps.length=L at *
  unfold Ot
  simp -implicitDefEqProofs only [rX,↓rY,aA,↓reduceIte]
  intro _
  refine aT (fun k:Nat=>⟨[(44,.i k),(43,.i L.length),(42,.ro 1 (L.map nE)),(3,.ptr 2 0 0),(2,.ptr 1 0 0),(1,.ptr 0 0 0)],hN ps rs (nA2 ps (L.take k)),0⟩) (fun k=>k≤L.length) (fun k=>L.length-k) 0 (by omega) ?_ ?_
  ·simp -implicitDefEqProofs only [rX,↓reduceIte,Nat.reduceEqDiff,leE,leH,leB,leV,aZ,aD,aB,wfE,wfB,wfV,wfL,yal,hN]
  rintro k hk
  unfold c51l1 hN
  simp -implicitDefEqProofs only [rX,↓rY,rdK,aA,cells?,splice,↓reduceIte,Nat.reduceEqDiff,Nat.reduceAdd,reduceCtorEq,aC,bH,bZ,leE,leH,leB,leV,aZ,aD,aB,wfE,wfB,wfV,wfL,bO,bE,kill,bQ,St.kill,isD,isC,Nat.reduceLT,Nat.reduceLeDiff,yae,vY,yaa,aaM]
  simp only [br,yaa,decide_eq_true_eq,decide_eq_false_iff_not]
  refine ⟨fun h=>?_,fun h=>?_⟩
  ·have hkl:k<L.length:=by omega
   have hi:=hm1 k hkl
   have hlen:=xD (ps:=ps) (l:=L.take k)
   rw [yaE] at hlen
   refine ⟨⟨by omega,h⟩,hkl,?_⟩
   simp only [lo,Fx.hi,maxLen] at *
   refine ⟨by omega,by omega,⟨by omega,by omega⟩,hi,by omega,by omega,k+1,⟨by omega,by omega⟩,by omega,?_⟩
   exact lM _ _ _ (aeZ hkl hi)
  have hk:k=L.length:=by omega
  subst hk
  refine aE (aaG ps rs 3 hl) (by simp [bF,sps,rds,aF,aG,aN,bD,wkL,wk,wkR]) rfl trivial ?_
  subst hL
  have hz3:nA2 ps ((ofN ps 1 ps.length).take (ofN ps 1 ps.length).length)=nA3 ps ((ofN ps 3 ps.length).take 0):=by simp [nA3]
  rw [hz3]
  have hq:=fF (ps:=ps) (kind:=3) (n:=ps.length)
  have hm1:=fun i (h:i<(ofN ps 3 ps.length).length)=>s5 (yas h)
  generalize hL:ofN ps 3 ps.length=L at *
  unfold Ot
  simp -implicitDefEqProofs only [rX,↓rY,aA,↓reduceIte]
  intro _
  refine aT (fun k:Nat=>⟨[(67,.i k),(66,.i L.length),(65,.ro 1 (L.map nE)),(3,.ptr 2 0 0),(2,.ptr 1 0 0),(1,.ptr 0 0 0)],hN ps rs (nA3 ps (L.take k)),0⟩) (fun k=>k≤L.length) (fun k=>L.length-k) 0 (by omega) ?_ ?_
  ·simp -implicitDefEqProofs only [rX,↓reduceIte,Nat.reduceEqDiff,leE,leH,leB,leV,aZ,aD,aB,wfE,wfB,wfV,wfL,yal,hN]
  rintro k hk
  unfold c51l2 hN
  simp -implicitDefEqProofs only [rX,↓rY,rdK,aA,cells?,splice,↓reduceIte,Nat.reduceEqDiff,Nat.reduceAdd,reduceCtorEq,aC,bH,bZ,leE,leH,leB,leV,aZ,aD,aB,wfE,wfB,wfV,wfL,bO,bE,kill,bQ,St.kill,isD,isC,Nat.reduceLT,Nat.reduceLeDiff,yae,vY,yaa,aaM]
  simp only [br,yaa,decide_eq_true_eq,decide_eq_false_iff_not]
  refine ⟨fun h=>?_,fun h=>?_⟩
  ·have hkl:k<L.length:=by omega
   have hi:=hm1 k hkl
   have hlen:=Ei (ps:=ps) (l:=L.take k)
   rw [yaE] at hlen
   refine ⟨⟨by omega,h⟩,hkl,?_⟩
   simp only [lo,Fx.hi,maxLen] at *
   refine ⟨by omega,by omega,⟨by omega,by omega⟩,hi,by omega,by omega,k+1,⟨by omega,by omega⟩,by omega,?_⟩
   exact lM _ _ _ (aeX hkl hi)
  have hk:k=L.length:=by omega
  subst hk
  subst hL
  have hz4:nA3 ps ((ofN ps 3 ps.length).take (ofN ps 3 ps.length).length)=nA4 ps (rs.take 0):=by simp [nA4]
  rw [hz4]
  intro _
  refine aT (fun k:Nat=>⟨[(90,.i k),(89,.i rs.length),(88,.ro 4 (rs.map Road.enc)),(3,.ptr 2 0 0),(2,.ptr 1 0 0),(1,.ptr 0 0 0)],hN ps rs (nA4 ps (rs.take k)),0⟩) (fun k=>k≤rs.length) (fun k=>rs.length-k) 0 (by omega) ?_ ?_
  ·simp -implicitDefEqProofs only [rX,↓reduceIte,Nat.reduceEqDiff,leE,leH,leB,leV,aZ,aD,aB,wfE,wfB,wfV,wfL,yal,hN]
  rintro k hk
  unfold c51l3 hN
  simp -implicitDefEqProofs only [rX,↓rY,aA,cells?,splice,↓reduceIte,Nat.reduceEqDiff,Nat.reduceAdd,reduceCtorEq,aC,bH,bZ,leE,leH,leB,leV,aZ,aD,aB,wfE,wfB,wfV,wfL,bO,bE,kill,bQ,St.kill,isD,isC,Nat.reduceLT,Nat.reduceLeDiff,yae,rN,nK,Oh,Og,Of,Oe,uI,yaa]
  simp only [br,yaa,decide_eq_true_eq,decide_eq_false_iff_not]
  refine ⟨fun h=>?_,fun h=>?_⟩
  ·have hkl:k<rs.length:=by omega
   obtain ⟨hs1,hs2,_⟩:=hv.h k hkl hkl
   have hlen:=xC (ps:=ps) (l:=rs.take k)
   rw [yaE] at hlen
   refine ⟨⟨by omega,h⟩,hkl,?_⟩
   simp only [lo,Fx.hi,maxLen] at *
   refine ⟨by omega,by omega,by omega,by omega,by omega,by omega,k+1,⟨by omega,by omega⟩,by omega,?_⟩
   exact lM _ _ _ (Yk hkl)
  have hk:k=rs.length:=by omega
  subst hk
  simp [qa,qb,qc,qd,qe,qf,qg,qh,qi,qj,qk,ql,qm,qn,qo,qp,qq,qr,qs,qt,qu,qv,qw,qx,qy,qz,qA,qB,qC,qD,qE,qF,qG,qH,qI,qJ,qK,qL,qM,qN,qO,qP,rdK,qQ,qR,qS,qT,qU,qV,qW,qX,qY,qZ,zb,zc,zd,ze,zf,zg,zh,zi,zj,zk,zm,zn,zo,zp,zq,zr,zt,zu,zv,zw,zx,zy,zA,zB,zC,zD,zE,zF,zG,zH,zI,zJ,zK,zL,zM,zN,zO,zP,zQ,zR,zS,zT,zU,zV,zW,zX,zY,zZ,ka,kb,kc,kg,kh,ki,kj,kk,kn,ko,kq,kr,kw,kx,ky,kz,kB,kC,kD,kF,kG,kH,kI,kJ,kK,kL,kM,kN,kO,kP,kQ,kR,kS,kT,kU,kV,kX,aA,cells?,yaC,yar,yaB,splice,kY,yak,yav,↓reduceIte,Nat.reduceEqDiff,yaw,kZ,wa,cR,wb,ybM,ybN,↓wc,↓wd,we,wg,yaT,yaI,yap,yay,Nat.reduceAdd,yaU,reduceCtorEq,aC,ybt,ybO,dP,ybP,bH,bZ,wh,aL,aM,ybu,ybv,wj,leE,leH,leB,leV,aZ,aD,aB,wfE,wfB,wfV,wfL,bO,bE,kill,bQ,St.kill,yau,yaA,yaO,yaN,ybe,yaV,yaF,yaL,isD,isC,yax,yaD,true_and,and_true,and_self,V.v.injEq,Value.int.injEq,Value.bool.injEq,yaY,yaG,or_false,false_or,yag,yai,yaZ,not_false_eq_true,yaQ,Nat.reduceLT,Nat.reduceLeDiff,yab,lg0,wl,wm,wo,wq,lg1,wr,wt,wu,wv,lg2,ww,wx,wy,wz,lg3,wC,wD,wE,wF,lg4,wG,wI,wJ,wK,lg5,wL,wM,wN,wO,lg6,wP,wQ,wR,wS,lg7,wT,wU,wV,wW,lg8,wX,wY,wZ,ja,lg9,jb,jc,jd,je,jf,jg,jh,ji,jj,jk,jl,jm,jn,jo,jp,jq,jr,jt,ju,jv,jx,jy,jz,jA,jB,jC,jD,jE,jF,jG,jH,jI,jJ,jK,jL,jM,jN,jO,jP,jQ,jR,jS,jT,jU,jV,jW,jX,jY,jZ,qaa,qab,qac,qad,qae,qaf,qag,qah,qai,qaj,qak,qal,qam,qan,qao,qap,qaq,qar,↓qas,↓qat,↓qau,↓qav,↓qaw,↓qax,↓qay,↓qaz,↓qaA,↓qaB,↓qaC,↓qaD,↓qaE,↓qaF,↓qaG,↓qaH,↓qaI,↓qaJ,↓qaK,↓qaL,↓qaM,↓qaN,↓qaO,↓qaP,↓qaQ,↓qaR,↓qaS,↓qaT,↓qaU,↓qaV,↓qaW,↓qaX,↓qaY,↓qaZ,↓qba,↓qbb,↓qbc,↓qbd,↓qbe,↓qbf,↓qbg,↓qbh,↓qbi,↓qbj,↓qbk,↓qbl,↓qbm,↓qbn,↓qbo,↓qbp,↓qbq,↓qbr,↓qbs,↓qbt,↓qbu,↓qbv,↓qbw,↓qbx,↓qby,↓qbz,↓qbA,↓qbB,↓qbC,↓qbD,↓qbE,↓qbF,↓qbG,↓qbH,↓qbI,↓qbJ,↓qbK,↓qbL,↓qbM,↓qbN,↓qbO,↓qbP,↓qbQ,↓qbR,↓qbS,↓qbT,↓qbU,↓qbV,↓qbW,↓qbX,↓qbY,↓qbZ,↓qca,↓qcb,↓qcc,↓qcd,↓qce,↓qcf,↓qcg,↓qch,↓qci,↓qcj,↓qck,↓qcl,↓qcm,↓qcn,↓qco,↓qcp,↓qcq,↓qcr,↓qcs,↓qct,↓qcu,↓qcv,↓qcw,↓qcx,↓qcy,↓qcz,↓qcA,↓qcB,yai,yae,Kz,Fl,abX,abW,abV,Lc,La,nH,iU,uA,Qh,vY,oP,Je,rN,nK,Oh,Og,Of,Oe,uI,Js,enc_len,eE,lO,lN,oF,p6,e7,Fb,Ax,bW,Ay,uU,yaa,fG,i6,cxN,fO]
  exact ⟨_,⟨En _,by simp,by simp [wfB,wfL,wfV,aB]⟩,by simp [gvV,gvL,wk,wkR,wkL,blk,net,cK];exact yac (by simp)⟩
end Go.Fx.P
namespace Go.Fx.P
open Go Go.Fx Go.Fx.E Go.Proofs
set_option maxRecDepth 20000
theorem afA {ps:List aH} {l:List Nat} {k:Nat} (hk:k<ps.length):nA2 ps (l++[k])=nA2 ps l++[⟨0,2+2*(k:Nat),ps[k].cap,0⟩]:=by
 rw [nA2,yaj];simp [nA2,aS,iK hk]
theorem aeY {ps:List aH} {l:List Nat} {k:Nat} (hk:k<ps.length):nA3 ps (l++[k])=nA3 ps l++[⟨3+2*(k:Nat),1,ps[k].cap,0⟩]:=by
 rw [nA3,yaj];simp [nA3,aO,iK hk]
theorem adT (ps:List aH) (rs:List Road) (hl:ps.length≤100) (hr:rs.length≤1500) (hv:RInv ps rs rs.length):Ok 25 [bF ps rs] (Is (net (nodes ps) (cK ps rs))):=by
 refine y0 (R:=fun r hs=>wk (net (nodes ps) (cK ps rs)) (gvV (fun _=>true) hs r)) ?_ fun _ _ h=>h
 refine ok_of lw25 (by simp) ?_
 unfold c25 bF sps rds
 simp -implicitDefEqProofs only [rX,↓rY,aA,cells?,splice,↓reduceIte,Nat.reduceEqDiff,Nat.reduceAdd,aC,bH,isC,Nat.reduceLeDiff,cxN,aK]
 intro hm
 refine ⟨by simp only [lo,hi,maxLen] at *;omega,by simp only [lo,hi,maxLen] at *;omega,?_⟩
 refine fX (.virt 1 4 (by decide) (.nilB 2 [.i (nodes ps),.nil] [.i (nodes ps),.sl 3 0 0] rfl ⟨rfl,fun i a b h1 h2=>?_⟩ (.refl _))) (fun k:Nat=>⟨[(4,.i k),(3,.ptr 2 0 0),(2,.ptr 1 0 0),(1,.ptr 0 0 0)],hN ps rs (nA1 ps k),0⟩) (fun k=>k≤ps.length) (fun k=>ps.length-k) 0 (by omega) ?_ ?_
 ·match i,h1,h2 with
  | 0,h1,h2=>cases h1;cases h2;exact .inl rfl
  | 1,h1,h2=>cases h1;cases h2;exact .inr ⟨rfl,3,rfl⟩
  | n+2,h1,h2=>cases h1
 ·simp -implicitDefEqProofs only [rX,↓reduceIte,Nat.reduceEqDiff,leE,leH,leB,leV,aZ,aD,aB,wfE,wfB,wfV,wfL,yal,nA1,ybA,hN,nodes]
 rintro k hk
 unfold c25l0 hN
 simp -implicitDefEqProofs only [rX,↓rY,rdK,aA,cells?,splice,↓reduceIte,Nat.reduceEqDiff,Nat.reduceAdd,reduceCtorEq,aC,bH,bZ,leE,leH,leB,leV,aZ,aD,aB,wfE,wfB,wfV,wfL,bO,bE,kill,bQ,St.kill,isD,isC,Nat.reduceLT,Nat.reduceLeDiff,yae,vY,yaa]
 simp only [br,yaa,decide_eq_true_eq,decide_eq_false_iff_not]
 refine fun _=>⟨fun h=>?_,fun h=>?_⟩
 ·have hk:k<ps.length:=by omega
  have:=Ej (ps:=ps) (n:=k)
  simp only [lo,hi,maxLen] at *
  refine ⟨by omega,by omega,by omega,by omega,⟨by omega,by omega⟩,hk,by omega,by omega,k+1,⟨by omega,by omega⟩,by omega,?_⟩
  exact lM _ _ _ (Yl hk)
 have hk:k=ps.length:=by omega
 subst hk
 have hz2:nA1 ps ps.length=nA2 ps (ofN ps 1 0):=by simp [nA2,ofN]
 rw [hz2]
 refine aT (fun k:Nat=>⟨[(5,.i k),(3,.ptr 2 0 0),(2,.ptr 1 0 0),(1,.ptr 0 0 0)],hN ps rs (nA2 ps (ofN ps 1 k)),0⟩) (fun k=>k≤ps.length) (fun k=>ps.length-k) 0 (by omega) ?_ ?_
 ·simp -implicitDefEqProofs only [rX,↓reduceIte,Nat.reduceEqDiff,leE,leH,leB,leV,aZ,aD,aB,wfE,wfB,wfV,wfL,yal,hN]
 rintro k hk
 unfold c25l1 hN
 simp -implicitDefEqProofs only [rX,↓rY,rdK,aA,cells?,splice,↓reduceIte,Nat.reduceEqDiff,Nat.reduceAdd,reduceCtorEq,aC,bH,bZ,leE,leH,leB,leV,aZ,aD,aB,wfE,wfB,wfV,wfL,bO,bE,kill,bQ,St.kill,isD,isC,Nat.reduceLT,Nat.reduceLeDiff,yae,uA,vY,yaa]
 simp only [br,yaa,decide_eq_true_eq,decide_eq_false_iff_not]
 refine fun _=>⟨fun h=>?_,fun h=>?_⟩
 ·have hk:k<ps.length:=by omega
  have hs:=mJ (ps:=ps) (kind:=1) (n:=k)
  rw [Eq hk] at hs
  have hl2:=fF (ps:=ps) (kind:=1) (n:=k)
  have hlen:=xD (ps:=ps) (l:=ofN ps 1 k)
  simp only [lo,hi,maxLen] at *
  refine ⟨⟨by omega,h⟩,hk,fun h3=>?_,fun h3=>?_⟩
  ·rw [h3,if_pos rfl] at hs
   refine ⟨by omega,by omega,⟨by omega,by omega⟩,hk,by omega,by omega,k+1,⟨by omega,by omega⟩,by omega,?_⟩
   rw [hs]
   exact lM _ _ _ (afA hk)
  ·rw [h3,if_neg (by simp),yap] at hs
   refine ⟨by omega,k+1,⟨by omega,by omega⟩,by omega,?_⟩
   rw [hs];exact ⟨rfl,rfl⟩
 have hk:k=ps.length:=by omega
 subst hk
 have hz3:nA2 ps (ofN ps 1 ps.length)=nA3 ps (ofN ps 3 0):=by simp [nA3,ofN]
 rw [hz3]
 refine aT (fun k:Nat=>⟨[(6,.i k),(3,.ptr 2 0 0),(2,.ptr 1 0 0),(1,.ptr 0 0 0)],hN ps rs (nA3 ps (ofN ps 3 k)),0⟩) (fun k=>k≤ps.length) (fun k=>ps.length-k) 0 (by omega) ?_ ?_
 ·simp -implicitDefEqProofs only [rX,↓reduceIte,Nat.reduceEqDiff,leE,leH,leB,leV,aZ,aD,aB,wfE,wfB,wfV,wfL,yal,hN]
 rintro k hk
 unfold c25l2 hN
 simp -implicitDefEqProofs only [rX,↓rY,rdK,aA,cells?,splice,↓reduceIte,Nat.reduceEqDiff,Nat.reduceAdd,reduceCtorEq,aC,bH,bZ,leE,leH,leB,leV,aZ,aD,aB,wfE,wfB,wfV,wfL,bO,bE,kill,bQ,St.kill,isD,isC,Nat.reduceLT,Nat.reduceLeDiff,yae,uA,vY,yaa]
 simp only [br,yaa,decide_eq_true_eq,decide_eq_false_iff_not]
 refine fun _=>⟨fun h=>?_,fun h=>?_⟩
 ·have hk:k<ps.length:=by omega
  have hs:=mJ (ps:=ps) (kind:=3) (n:=k)
  rw [Eq hk] at hs
  have hl2:=fF (ps:=ps) (kind:=3) (n:=k)
  have hlen:=Ei (ps:=ps) (l:=ofN ps 3 k)
  simp only [lo,hi,maxLen] at *
  refine ⟨⟨by omega,h⟩,hk,fun h3=>?_,fun h3=>?_⟩
  ·rw [h3,if_pos rfl] at hs
   refine ⟨by omega,by omega,⟨by omega,by omega⟩,hk,by omega,by omega,k+1,⟨by omega,by omega⟩,by omega,?_⟩
   rw [hs]
   exact lM _ _ _ (aeY hk)
  ·rw [h3,if_neg (by simp),yap] at hs
   refine ⟨by omega,k+1,⟨by omega,by omega⟩,by omega,?_⟩
   rw [hs];exact ⟨rfl,rfl⟩
 have hk:k=ps.length:=by omega
 subst hk
 have hz4:nA3 ps (ofN ps 3 ps.length)=nA4 ps (rs.take 0):=by simp [nA4]
 rw [hz4]
 refine aT (fun k:Nat=>⟨[(7,.i k),(3,.ptr 2 0 0),(2,.ptr 1 0 0),(1,.ptr 0 0 0)],hN ps rs (nA4 ps (rs.take k)),0⟩) (fun k=>k≤rs.length) (fun k=>rs.length-k) 0 (by omega) ?_ ?_
 ·simp -implicitDefEqProofs only [rX,↓reduceIte,Nat.reduceEqDiff,leE,leH,leB,leV,aZ,aD,aB,wfE,wfB,wfV,wfL,yal,hN]
 rintro k hk
 unfold c25l3 hN
 simp -implicitDefEqProofs only [rX,↓rY,aA,cells?,splice,↓reduceIte,Nat.reduceEqDiff,Nat.reduceAdd,reduceCtorEq,aC,bH,bZ,leE,leH,leB,leV,aZ,aD,aB,wfE,wfB,wfV,wfL,bO,bE,kill,bQ,St.kill,isD,isC,Nat.reduceLT,Nat.reduceLeDiff,yae,rN,nK,Oh,Og,Of,Oe,uI,yaa]
 simp only [br,yaa,decide_eq_true_eq,decide_eq_false_iff_not]
 refine fun _=>⟨fun h=>?_,fun h=>?_⟩
 ·have hkl:k<rs.length:=by omega
  obtain ⟨hs1,hs2,_⟩:=hv.h k hkl hkl
  have hlen:=xC (ps:=ps) (l:=rs.take k)
  rw [yaE] at hlen
  refine ⟨⟨by omega,h⟩,hkl,?_⟩
  simp only [lo,Fx.hi,maxLen] at *
  refine ⟨by omega,by omega,by omega,by omega,by omega,by omega,k+1,⟨by omega,by omega⟩,by omega,?_⟩
  exact lM _ _ _ (Yk hkl)
 have hk:k=rs.length:=by omega
 subst hk
 simp [qa,qb,qc,qd,qe,qf,qg,qh,qi,qj,qk,ql,qm,qn,qo,qp,qq,qr,qs,qt,qu,qv,qw,qx,qy,qz,qA,qB,qC,qD,qE,qF,qG,qH,qI,qJ,qK,qL,qM,qN,qO,qP,rdK,qQ,qR,qS,qT,qU,qV,qW,qX,qY,qZ,zb,zc,zd,ze,zf,zg,zh,zi,zj,zk,zm,zn,zo,zp,zq,zr,zt,zu,zv,zw,zx,zy,zA,zB,zC,zD,zE,zF,zG,zH,zI,zJ,zK,zL,zM,zN,zO,zP,zQ,zR,zS,zT,zU,zV,zW,zX,zY,zZ,ka,kb,kc,kg,kh,ki,kj,kk,kn,ko,kq,kr,kw,kx,ky,kz,kB,kC,kD,kF,kG,kH,kI,kJ,kK,kL,kM,kN,kO,kP,kQ,kR,kS,kT,kU,kV,kX,aA,cells?,yaC,yar,yaB,splice,kY,yak,yav,↓reduceIte,Nat.reduceEqDiff,yaw,kZ,wa,cR,wb,ybM,ybN,↓wc,↓wd,we,wg,yaT,yaI,yap,yay,Nat.reduceAdd,yaU,reduceCtorEq,aC,ybt,ybO,dP,ybP,bH,bZ,wh,aL,aM,ybu,ybv,wj,leE,leH,leB,leV,aZ,aD,aB,wfE,wfB,wfV,wfL,bO,bE,kill,bQ,St.kill,yau,yaA,yaO,yaN,ybe,yaV,yaF,yaL,isD,isC,yax,yaD,true_and,and_true,and_self,V.v.injEq,Value.int.injEq,Value.bool.injEq,yaY,yaG,or_false,false_or,yag,yai,yaZ,not_false_eq_true,yaQ,Nat.reduceLT,Nat.reduceLeDiff,yab,lg0,wl,wm,wo,wq,lg1,wr,wt,wu,wv,lg2,ww,wx,wy,wz,lg3,wC,wD,wE,wF,lg4,wG,wI,wJ,wK,lg5,wL,wM,wN,wO,lg6,wP,wQ,wR,wS,lg7,wT,wU,wV,wW,lg8,wX,wY,wZ,ja,lg9,jb,jc,jd,je,jf,jg,jh,ji,jj,jk,jl,jm,jn,jo,jp,jq,jr,jt,ju,jv,jx,jy,jz,jA,jB,jC,jD,jE,jF,jG,jH,jI,jJ,jK,jL,jM,jN,jO,jP,jQ,jR,jS,jT,jU,jV,jW,jX,jY,jZ,qaa,qab,qac,qad,qae,qaf,qag,qah,qai,qaj,qak,qal,qam,qan,qao,qap,qaq,qar,↓qas,↓qat,↓qau,↓qav,↓qaw,↓qax,↓qay,↓qaz,↓qaA,↓qaB,↓qaC,↓qaD,↓qaE,↓qaF,↓qaG,↓qaH,↓qaI,↓qaJ,↓qaK,↓qaL,↓qaM,↓qaN,↓qaO,↓qaP,↓qaQ,↓qaR,↓qaS,↓qaT,↓qaU,↓qaV,↓qaW,↓qaX,↓qaY,↓qaZ,↓qba,↓qbb,↓qbc,↓qbd,↓qbe,↓qbf,↓qbg,↓qbh,↓qbi,↓qbj,↓qbk,↓qbl,↓qbm,↓qbn,↓qbo,↓qbp,↓qbq,↓qbr,↓qbs,↓qbt,↓qbu,↓qbv,↓qbw,↓qbx,↓qby,↓qbz,↓qbA,↓qbB,↓qbC,↓qbD,↓qbE,↓qbF,↓qbG,↓qbH,↓qbI,↓qbJ,↓qbK,↓qbL,↓qbM,↓qbN,↓qbO,↓qbP,↓qbQ,↓qbR,↓qbS,↓qbT,↓qbU,↓qbV,↓qbW,↓qbX,↓qbY,↓qbZ,↓qca,↓qcb,↓qcc,↓qcd,↓qce,↓qcf,↓qcg,↓qch,↓qci,↓qcj,↓qck,↓qcl,↓qcm,↓qcn,↓qco,↓qcp,↓qcq,↓qcr,↓qcs,↓qct,↓qcu,↓qcv,↓qcw,↓qcx,↓qcy,↓qcz,↓qcA,↓qcB,yai,yae,Kz,Fl,abX,abW,abV,Lc,La,nH,iU,uA,Qh,vY,oP,Je,rN,nK,Oh,Og,Of,Oe,uI,Js,enc_len,eE,lO,lN,oF,p6,e7,Fb,Ax,bW,Ay,uU,yaa,fG,i6,cxN,fO]
 exact ⟨_,⟨En _,by simp,by simp [wfB,wfL,wfV,aB]⟩,by simp [gvV,gvL,wk,wkR,wkL,blk,net,cK];exact yac (by simp)⟩
end Go.Fx.P
namespace Go.Fx.P
open Go Go.Fx Go.Fx.E Go.Proofs
set_option maxRecDepth 20000
theorem iJ {ps:List aH} {rs:List Road} (h:fI ps rs=0):(ps.length≤100∧rs.length≤1500)∧Bo ps∧RInv ps rs rs.length:=by
 unfold fI at h
 by_cases h1:100<ps.length∨1500<rs.length
 ·rw [if_pos h1] at h;cases h
 rw [if_neg h1] at h
 by_cases h2:iO (eAt ps) ps.length 0≠0
 ·rw [if_pos h2] at h;exact absurd h h2
 rw [if_neg h2] at h
 by_cases h3:∀ r∈rs,iQ ps r
 ·refine ⟨by omega,?_,⟨fun j hj _=>h3 _ (yas hj)⟩⟩
  have key:∀ n i,i≤n→i<ps.length→eAt ps i=0:=by
   intro n
   induction n with
   | zero =>
    intro i hi hil
    by_cases h4:eAt ps i=0
    ·exact h4
    ·exact absurd (i5 (n:=ps.length) (k:=0) (by omega) (by omega) (fun j _ hj=>by omega) h4) (by simp only [ne_eq,Classical.not_not] at h2;rw [h2];exact fun h5=>h4 h5.symm)
   | succ n ih =>
    intro i hi hil
    by_cases h4:eAt ps i=0
    ·exact h4
    ·exact absurd (i5 (n:=ps.length) (k:=0) (by omega) (by omega) (fun j _ hj=>ih j (by omega) (by omega)) h4) (by simp only [ne_eq,Classical.not_not] at h2;rw [h2];exact fun h5=>h4 h5.symm)
  intro i hi
  have:=key i i (by omega) hi
  rw [Fc hi] at this
  by_cases h4:gC ps[i]=false
  ·rw [if_pos h4] at this;cases this
  ·have h5:lF ps[i]:=by simpa [gC] using h4
   exact h5.1
 ·rw [if_neg h3] at h;cases h
abbrev tPl:Fx.T:=.st [.sl 3 (.st [.int .i64,.int .i64,.int .i64]),.sl 4 (.st [.int .i64,.int .i64,.int .i64,.int .i64])]
theorem exM {α β:Type} {g:α→β}:∀ {els:List β},(∀ x∈els,∃ a,x=g a)→∃ l:List α,els=l.map g
 | [],_=>⟨[],rfl⟩
 | x::r,h=>by
  obtain ⟨a,rfl⟩:=h x ybc
  obtain ⟨l,rfl⟩:=exM (els:=r) fun y hy=>h y (ybd _ hy)
  exact ⟨a::l,rfl⟩
theorem wf_sp {x:List V} (h:WfT (.st [.int .i64,.int .i64,.int .i64]) x):∃ a:aH,x=a.enc:=by
 simp only [WfT,nY] at h
 obtain ⟨_,_,rfl,⟨a,rfl,_⟩,_,_,rfl,⟨b,rfl,_⟩,_,_,rfl,⟨c,rfl,_⟩,rfl⟩:=h
 exact ⟨⟨a,b,c⟩,rfl⟩
theorem wf_rd {x:List V} (h:WfT (.st [.int .i64,.int .i64,.int .i64,.int .i64]) x):∃ a:Road,x=a.enc:=by
 simp only [WfT,nY] at h
 obtain ⟨_,_,rfl,⟨a,rfl,_⟩,_,_,rfl,⟨b,rfl,_⟩,_,_,rfl,⟨c,rfl,_⟩,_,_,rfl,⟨d,rfl,_⟩,rfl⟩:=h
 exact ⟨⟨a,b,c,d⟩,rfl⟩
theorem wf_plant {x:V} (h:WfV tPl x):∃ ps rs,x=bF ps rs:=by
 simp only [WfV] at h
 obtain ⟨cs,h,rfl⟩:=h
 rw [nY.eq_2] at h
 obtain ⟨a,b,rfl,h1,h2⟩:=h
 rw [nY.eq_2] at h2
 obtain ⟨c,d,rfl,h3,h4⟩:=h2
 rw [nY.eq_1] at h4
 subst h4
 rw [WfT] at h1
 obtain ⟨els,rfl,_,he⟩:=h1
 obtain ⟨ps,rfl⟩:=exM (fun x hx=>wf_sp (he x hx))
 rw [WfT] at h3
 obtain ⟨els,rfl,_,he⟩:=h3
 obtain ⟨rs,rfl⟩:=exM (fun x hx=>wf_rd (he x hx))
 exact ⟨ps,rs,rfl⟩
end Go.Fx.P
namespace Go.Fx.P.K
open Go Go.Fx Go.Fx.E Go.Proofs
set_option maxRecDepth 20000
def iE (n k:Int):Bool:=decide (0≤k∧k<n)
theorem aeF (n:Int) (arcs:List Arc) (k:Int):Ok 132 [net n arcs,.i k] (Is (.b (iE n k))):=by
 refine ok_of lw132 (by simp) ?_
 unfold c132 net
 simp -implicitDefEqProofs only [rX,↓rY,aA,cells?,↓reduceIte,Nat.reduceEqDiff,reduceCtorEq,aC,aL,aM,wfV,cxN,aK]
 simp only [br,decide_eq_true_eq,decide_eq_false_iff_not,iE]
 grind
def nb (n:Int) (arcs:List Arc):Blk:=.var [.i n,.ro 4 (arcs.map Arc.enc)]
theorem Yf (n:Int) (arcs:List Arc) (k:Int):OkN Tryz.prog 121 [.i k,.ptr 0 0 0] [nb n arcs] [] (IsA (.b (iE n k)) [nb n arcs]):=by
 refine eR pol [0] lw121 (by simp) ⟨trivial,trivial⟩ (by simp) ?_
 unfold c121 nb
 simp -implicitDefEqProofs only [rX,↓rY,aA,↓reduceIte,Nat.reduceEqDiff,reduceCtorEq,aL,aM,leH,leB,leV,aZ,aD,aB,wfB,wfV,wfL,cxN,aK,cA]
 simp only [br,decide_eq_true_eq,decide_eq_false_iff_not,iE]
 grind
def Gc (n f t am:Int):Bool:=decide ((0≤f∧f<n)∧(0≤t∧t<n)∧f≠t∧0≤am∧am≤2199023255552)
theorem aiV (n:Int) (arcs:List Arc) (f t am:Int):Ok 88 [net n arcs,.i f,.i t,.i am] (Is (.b (Gc n f t am))):=by
 refine ok_of lw88 (by simp) ?_
 unfold c88 net
 simp -implicitDefEqProofs only [rX,↓rY,aA,cells?,↓reduceIte,Nat.reduceEqDiff,Nat.reduceAdd,reduceCtorEq,aC,aL,aM,wfV,cxN,aK]
 simp only [br,decide_eq_true_eq,decide_eq_false_iff_not,Gc]
 grind
end Go.Fx.P.K
namespace Go.Fx.P.K
open Go Go.Fx Go.Fx.E Go.Proofs
set_option maxRecDepth 20000
def f8 (n:Int) (a:Arc):Bool:=iE n a.from_&&(iE n a.to&&decide (a.from_≠a.to∧0≤a.cap∧a.cap≤1073741824∧0≤a.cost∧a.cost≤1048576))
def iP (n:Int) (arcs:List Arc):Int:=if 256<n∨2048<arcs.length then 2 else if n<1 then 1 else if arcs.all (f8 n) then 0 else 1
theorem Ii {n:Int} {arcs:List Arc} (h:256<n∨2048<arcs.length):iP n arcs=2:=by simp only [iP,if_pos h]
theorem Ua {n:Int} {arcs:List Arc} (h:¬(256<n∨2048<arcs.length)) (h1:n<1):iP n arcs=1:=by simp only [iP,if_neg h,if_pos h1]
theorem Ij {n:Int} {arcs:List Arc} (h:¬(256<n∨2048<arcs.length)) (h1:¬n<1) (h2:∀ k (h:k<arcs.length),f8 n arcs[k]=true):iP n arcs=0:=by
 have:arcs.all (f8 n)=true:=by
  rw [List.all_eq_true]
  intro a ha
  obtain ⟨j,hj,rfl⟩:=ybf ha
  exact h2 j hj
 simp only [iP,if_neg h,if_neg h1,this,if_true]
theorem Tz {n:Int} {arcs:List Arc} (h:¬(256<n∨2048<arcs.length)) (h1:¬n<1) {k:Nat} (hk:k<arcs.length) (h2:f8 n arcs[k]=false):iP n arcs=1:=by
 have:arcs.all (f8 n)=false:=by
  rw [List.all_eq_false]
  exact ⟨_,yas hk,by simp [h2]⟩
 simp only [iP,if_neg h,if_neg h1,this]
 rfl
structure Xh (n:Int) (arcs:List Arc) (k:Nat):Prop where
 h:∀ j (h:j<arcs.length),j<k→f8 n arcs[j]=true
theorem Xh.next {n:Int} {arcs:List Arc} {k:Nat} (h:Xh n arcs k) (hk:k<arcs.length) (hv:f8 n arcs[k]=true):Xh n arcs (k+1):=by
 refine ⟨fun j hj h2=>?_⟩
 by_cases h3:j=k
 ·subst h3;exact hv
 ·exact h.h j hj (by omega)
theorem aiW (n:Int) (arcs:List Arc):Ok 87 [net n arcs] (Is (.i (iP n arcs))):=by
 refine ok_of lw87 (by simp) ?_
 unfold c87 net
 simp -implicitDefEqProofs only [rX,↓rY,aA,cells?,↓reduceIte,Nat.reduceEqDiff,aC,aL,aM,wfV,cxN,aK]
 simp only [br,decide_eq_true_eq,decide_eq_false_iff_not]
 refine ⟨fun h=>?_,fun h1 hm=>⟨fun h=>?_,fun h2=>⟨fun h=>?_,fun h3=>?_⟩⟩⟩
 ·exact (Ii (.inl h)).symm
 ·exact (Ii (.inr (by omega))).symm
 ·exact (Ua (by omega) h).symm
 intro _
 refine aT (fun k:Nat=>⟨[(22,.i k),(21,.i arcs.length),(20,.ro 4 (arcs.map Arc.enc)),(3,.clo 121 [.ptr 0 0 0]),(1,.ptr 0 0 0)],[.var [.i n,.ro 4 (arcs.map Arc.enc)]],0⟩) (fun k=>k≤arcs.length∧Xh n arcs k) (fun k=>arcs.length-k) 0 ⟨by omega,⟨by simp⟩⟩ ?_ ?_
 ·simp -implicitDefEqProofs only [rX,↓reduceIte,Nat.reduceEqDiff,leE,leH,leB,leV,aZ,aD,aB,wfE,wfB,wfV,wfL,aZ,leV,yal]
 rintro k ⟨hk,hv⟩
 simp -implicitDefEqProofs only [rX,↓rY,aA,cells?,splice,↓reduceIte,Nat.reduceEqDiff,Nat.reduceAdd,aC,aL,aM,wfV,yae,enc_len,eE,lO,e7,yaa]
 simp only [br,decide_eq_true_eq,decide_eq_false_iff_not]
 refine ⟨fun h=>⟨⟨by omega,h⟩,⟨by omega,?_⟩⟩,fun h=>(Ij (by omega) h3 fun j hj=>hv.h j hj (by omega)).symm⟩
 have hk:k<arcs.length:=by omega
 have bad:=fun (h:f8 n arcs[k]=false)=>(Tz (n:=n) (arcs:=arcs) (by omega) h3 hk h).symm
 have good:=fun (h:f8 n arcs[k]=true)=>hv.next hk h
 refine cY [0] [.i arcs[k].from_,.ptr 0 0 0] (.b (iE n arcs[k].from_)) (.b (iE n arcs[k].from_)) [nb n arcs] [nb n arcs] _ (Yf n arcs arcs[k].from_) ⟨by simp,by simp⟩ rfl ?_ (by simp) rfl rfl trivial ?_
 ·simp [aF,aG,aN,bD,wkL,wk,pos]
 cases hf:iE n arcs[k].from_ with
 | false =>
  simp -implicitDefEqProofs only [rX,↓rY,aA,↓reduceIte,Nat.reduceEqDiff,Nat.reduceAdd,aL,aM,wfV]
  exact bad (by simp [f8,hf])
 | true =>
  simp -implicitDefEqProofs only [rX,↓rY,↓reduceIte,Nat.reduceEqDiff,Nat.reduceAdd,lN,bM,bX,cI,ren,nb]
  refine cY [0] [.i arcs[k].to,.ptr 0 0 0] (.b (iE n arcs[k].to)) (.b (iE n arcs[k].to)) [nb n arcs] [nb n arcs] _ (Yf n arcs arcs[k].to) ⟨by simp,by simp⟩ rfl ?_ (by simp) rfl rfl trivial ?_
  ·simp [aF,aG,aN,bD,wkL,wk,pos]
  cases ht:iE n arcs[k].to with
  | false =>
   simp -implicitDefEqProofs only [rX,↓rY,aA,↓reduceIte,Nat.reduceEqDiff,Nat.reduceAdd,aL,aM,wfV,bM,bX,cI,ren,nb]
   exact bad (by simp [f8,ht])
  | true =>
   simp -implicitDefEqProofs only [rX,↓rY,aA,↓reduceIte,Nat.reduceEqDiff,Nat.reduceAdd,aL,aM,leE,leH,leB,leV,aZ,aD,aB,wfE,wfB,wfV,wfL,lO,lN,oF,p6,bM,bX,cI,ren,nb]
   simp only [br,decide_eq_true_eq,decide_eq_false_iff_not,f8,hf,ht,Bool.true_and] at bad good ⊢
   simp only [lo,hi,maxLen,beq_iff_eq,beq_eq_false_iff_ne] at *
   repeat' (first|(refine ⟨(k+1:_),?_⟩)|(refine ⟨by omega,?_⟩)|(refine And.intro ?_ ?_)|(refine (fun _=>?_)))
   all_goals first|omega|(apply bad;omega)|(apply good;omega)
end Go.Fx.P.K
namespace Go.Fx.P.K
open Go Go.Fx Go.Fx.E Go.Proofs
set_option maxRecDepth 20000
structure Val (N:Nat) (arcs:List Arc):Prop where
 hn:1≤N∧N≤256
 hl:arcs.length≤2048
 ha:∀ a∈arcs,(0≤a.from_∧a.from_<N)∧(0≤a.to∧a.to<N)∧a.from_≠a.to∧(0≤a.cap∧a.cap≤1073741824)∧0≤a.cost∧a.cost≤1048576
theorem Val.of {n:Int} {arcs:List Arc} (h:iP n arcs=0):∃ N:Nat,n=N∧Val N arcs:=by
 unfold iP at h
 split at h
 ·cases h
 ·split at h
  ·cases h
  ·split at h
   ·rename_i h1 h2 h3
    refine ⟨n.toNat,by omega,by omega,by omega,fun a ha=>?_⟩
    rw [List.all_eq_true] at h3
    have:=h3 a ha
    simp only [f8,iE,ybb,decide_eq_true_eq] at this
    omega
   ·cases h
theorem Val.chk {N:Nat} {arcs:List Arc} (h:Val N arcs):iP N arcs=0:=by
 obtain ⟨h1,h2,h3⟩:=h
 refine Ij (by omega) (by omega) fun k hk=>?_
 have:=h3 _ (yas hk)
 simp only [f8,iE,ybb,decide_eq_true_eq]
 omega
def Mg (arcs:List Arc) (flow:List Int):Prop:=∀ i (h1:i<flow.length) (h2:i<arcs.length),0≤flow[i]∧flow[i]≤arcs[i].cap
theorem Val.flow {N:Nat} {arcs:List Arc} (h:Val N arcs) {flow:List Int} (hl:flow.length=arcs.length) (hp:Mg arcs flow):∀ x∈flow,0≤x∧x≤1073741824:=by
 intro x hx
 obtain ⟨i,hi,rfl⟩:=ybf hx
 have h1:=hp i hi (by omega)
 have h2:=(h.ha arcs[i] (yas _))
 omega
def valTo (arcs:List Arc) (node:Int) (flow:List Int):Nat→Int
 | 0=>0
 | k+1=>valTo arcs node flow k+(if (arcs.getD k ⟨0,0,0,0⟩).from_=node then flow.getD k 0 else 0)-(if (arcs.getD k ⟨0,0,0,0⟩).to=node then flow.getD k 0 else 0)
theorem Su {flow:List Int} (hf:∀ x∈flow,0≤x∧x≤1073741824) (k:Nat):0≤flow.getD k 0∧flow.getD k 0≤1073741824:=by
 rw [yak]
 cases h:flow[k]? with
 | none=>simp
 | some x=>exact hf x (ybX h)
theorem vB (arcs:List Arc) (node:Int) (flow:List Int) (hf:∀ x∈flow,0≤x∧x≤1073741824):∀ k:Nat,-((k:Int)*1073741824)≤valTo arcs node flow k∧valTo arcs node flow k≤(k:Int)*1073741824
 | 0=>by simp [valTo]
 | k+1=>by
  have h1:=vB arcs node flow hf k
  have h2:=Su hf k
  simp only [valTo]
  split<;>split<;>omega
theorem xS {arcs:List Arc} {node:Int} {flow:List Int} {k:Nat} (h1:k<arcs.length) (h2:k<flow.length):valTo arcs node flow (k+1)=valTo arcs node flow k+(if arcs[k].from_=node then flow[k] else 0)-(if arcs[k].to=node then flow[k] else 0):=by
 simp only [valTo,yak,yam h1,yam h2,yaw]
def dI (arcs:List Arc) (flow:List Int):Nat→Int
 | 0=>0
 | k+1=>dI arcs flow k+flow.getD k 0*(arcs.getD k ⟨0,0,0,0⟩).cost
theorem rG {arcs:List Arc} {flow:List Int} {k:Nat} (h1:k<arcs.length) (h2:k<flow.length):dI arcs flow (k+1)=dI arcs flow k+flow[k]*arcs[k].cost:=by
 simp only [dI,yak,yam h1,yam h2,yaw]
theorem Hd {a b:Int} (h1:0≤a∧a≤1073741824) (h2:0≤b∧b≤1048576):0≤a*b∧a*b≤1125899906842624:=by
 refine ⟨Int.mul_nonneg h1.1 h2.1,?_⟩
 have:=Int.mul_le_mul h1.2 h2.2 h2.1 (by omega)
 omega
theorem oN (arcs:List Arc) (flow:List Int) (hf:∀ x∈flow,0≤x∧x≤1073741824) (ha:∀ a∈arcs,0≤a.cost∧a.cost≤1048576):∀ k:Nat,0≤dI arcs flow k∧dI arcs flow k≤(k:Int)*1125899906842624
 | 0=>by simp [dI]
 | k+1=>by
  have h1:=oN arcs flow hf ha k
  have h2:=Su hf k
  have h3:0≤(arcs.getD k ⟨0,0,0,0⟩).cost∧(arcs.getD k ⟨0,0,0,0⟩).cost≤1048576:=by
   rw [yak]
   cases h:arcs[k]? with
   | none=>simp
   | some x=>exact ha x (ybX h)
  have:=Hd h2 h3
  simp only [dI]
  omega
theorem adS (n node:Int) (arcs:List Arc) (flow:List Int) (hl:flow.length=arcs.length) (hb:arcs.length≤4096) (hf:∀ x∈flow,0≤x∧x≤1073741824):Ok 27 [net n arcs,li flow,.i node] (Is (.i (valTo arcs node flow arcs.length))):=by
 refine ok_of lw27 (by simp) ?_
 unfold c27 net li
 simp -implicitDefEqProofs only [rX,↓rY,aA,cells?,↓reduceIte,Nat.reduceAdd,aC,cxN,aK]
 refine aT (fun k:Nat=>⟨[(8,.i k),(7,.i (valTo arcs node flow k)),(3,.ptr 0 0 0),(2,.i node),(1,.ro 1 (flow.map encI))],[.var [.i n,.ro 4 (arcs.map Arc.enc)]],0⟩) (fun k=>k≤arcs.length) (fun k=>arcs.length-k) 0 (by simp) ?_ ?_
 ·simp -implicitDefEqProofs only [rX,↓reduceIte,Nat.reduceEqDiff,reduceCtorEq,leE,leH,leB,leV,aZ,aD,aB,wfE,wfB,wfV,wfL,aZ,leV,valTo,yal]
 intro k hk
 simp -implicitDefEqProofs only [rX,↓rY,aA,↓reduceIte,Nat.reduceEqDiff,aL,aM,leE,leH,leB,leV,aZ,aD,aB,wfE,wfB,wfV,wfL,yae,lO,lN,bW,yaa]
 simp only [br,decide_eq_true_eq,decide_eq_false_iff_not]
 refine fun hm=>⟨fun h=>⟨⟨by omega,h⟩,by omega,?_⟩,fun h=>?_⟩
 ·have hk1:k<arcs.length:=by omega
  have hk2:k<flow.length:=by omega
  have hfk:=hf flow[k] (yas hk2)
  have hvb:=vB arcs node flow hf k
  have hst:=xS (node:=node) hk1 hk2
  simp only [lo,hi,beq_iff_eq,beq_eq_false_iff_ne]
  repeat' (first|(refine ⟨(k+1:_),?_⟩)|(refine ⟨by omega,?_⟩)|(refine And.intro ?_ ?_)|(refine (fun _=>?_)))
  all_goals first|omega|grind
 ·have:k=arcs.length:=by omega
  rw [this]
theorem aeS (n:Int) (arcs:List Arc) (flow:List Int) (hl:flow.length=arcs.length) (hb:arcs.length≤2048) (hf:∀ x∈flow,0≤x∧x≤1073741824) (ha:∀ a∈arcs,0≤a.cost∧a.cost≤1048576):Ok 103 [net n arcs,li flow] (Is (.i (dI arcs flow arcs.length))):=by
 refine ok_of lw103 (by simp) ?_
 unfold c103 net li
 simp -implicitDefEqProofs only [rX,↓rY,aA,cells?,↓reduceIte,aC,cxN,aK]
 refine aT (fun k:Nat=>⟨[(6,.i k),(5,.i (dI arcs flow k)),(2,.ptr 0 0 0),(1,.ro 1 (flow.map encI))],[.var [.i n,.ro 4 (arcs.map Arc.enc)]],0⟩) (fun k=>k≤arcs.length) (fun k=>arcs.length-k) 0 (by simp) ?_ ?_
 ·simp -implicitDefEqProofs only [rX,↓reduceIte,Nat.reduceEqDiff,reduceCtorEq,leE,leH,leB,leV,aZ,aD,aB,wfE,wfB,wfV,wfL,aZ,leV,dI,yal]
 intro k hk
 simp -implicitDefEqProofs only [rX,↓rY,aA,↓reduceIte,Nat.reduceEqDiff,aL,aM,leE,leH,leB,leV,aZ,aD,aB,wfE,wfB,wfV,wfL,yae,p6,bW,yaa]
 simp only [br,decide_eq_true_eq,decide_eq_false_iff_not]
 refine fun hm=>⟨fun h=>⟨⟨by omega,h⟩,by omega,?_⟩,fun h=>?_⟩
 ·have hk1:k<arcs.length:=by omega
  have hk2:k<flow.length:=by omega
  have hfk:=hf flow[k] (yas hk2)
  have hak:=ha arcs[k] (yas hk1)
  have hvb:=oN arcs flow hf ha k
  have hst:=rG hk1 hk2
  have hmb:=Hd hfk hak
  simp only [lo,hi,beq_iff_eq,beq_eq_false_iff_ne]
  repeat' (first|(refine ⟨(k+1:_),?_⟩)|(refine ⟨by omega,?_⟩)|(refine And.intro ?_ ?_)|(refine (fun _=>?_)))
  all_goals first|omega|exact hst.symm
 ·have:k=arcs.length:=by omega
  rw [this]
end Go.Fx.P.K
namespace Go.Fx.P.K
open Go Go.Fx Go.Fx.E Go.Proofs
set_option maxRecDepth 20000
structure OkF (n:Int) (arcs:List Arc) (f t:Int) (flow:List Int):Prop where
 hl:flow.length=arcs.length
 hp:Mg arcs flow
 hz:∀ j:Int,0≤j→j<n→j≠f→j≠t→valTo arcs j flow arcs.length=0
open Classical in
noncomputable def flB (n:Int) (arcs:List Arc) (f t:Int) (flow:List Int):Bool:=decide (OkF n arcs f t flow)
theorem Yr {n:Int} {arcs:List Arc} {f t:Int} {flow:List Int} (h:OkF n arcs f t flow):true=flB n arcs f t flow:=by simp [flB,h]
theorem Mx {n:Int} {arcs:List Arc} {f t:Int} {flow:List Int} (h:¬OkF n arcs f t flow):false=flB n arcs f t flow:=by simp [flB,h]
structure PInv (arcs:List Arc) (flow:List Int) (k:Nat):Prop where
 h:∀ j (h1:j<flow.length) (h2:j<arcs.length),j<k→0≤flow[j]∧flow[j]≤arcs[j].cap
structure agN (arcs:List Arc) (f t:Int) (flow:List Int) (k:Nat):Prop where
 h:∀ j:Nat,j<k→((j:Int)≠f→(j:Int)≠t→valTo arcs j flow arcs.length=0)
theorem akE (N:Nat) (arcs:List Arc) (f t:Int) (flow:List Int) (hV:Val N arcs):Ok 26 [net N arcs,.i f,.i t,li flow] (Is (.b (flB N arcs f t flow))):=by
 refine ok_of lw26 (by simp) ?_
 unfold c26 net li
 simp -implicitDefEqProofs only [rX,↓rY,aA,cells?,↓reduceIte,Nat.reduceEqDiff,Nat.reduceAdd,reduceCtorEq,aC,aL,aM,wfV,cxN,aK]
 simp only [br,decide_eq_true_eq,decide_eq_false_iff_not,bne_iff_ne,bne_eq_false_iff_eq]
 refine fun hm1 hm2=>⟨fun h=>Mx fun hO=>?_,fun h=>?_⟩
 ·have:=hO.hl;omega
 have hl:flow.length=arcs.length:=by omega
 have hL:=hV.hl
 have hN:=hV.hn
 refine aT (fun k:Nat=>⟨[(9,.i k),(4,.ptr 0 0 0),(3,.ro 1 (flow.map encI)),(2,.i t),(1,.i f)],[.var [.i N,.ro 4 (arcs.map Arc.enc)]],0⟩) (fun k=>k≤arcs.length∧PInv arcs flow k) (fun k=>arcs.length-k) 0 ⟨by omega,⟨by simp⟩⟩ ?_ ?_
 ·simp -implicitDefEqProofs only [rX,↓reduceIte,Nat.reduceEqDiff,reduceCtorEq,leE,leH,leB,leV,aZ,aD,aB,wfE,wfB,wfV,wfL,aZ,leV,yal]
 rintro k ⟨hk,hv⟩
 simp -implicitDefEqProofs only [rX,↓rY,aA,↓reduceIte,Nat.reduceEqDiff,aL,aM,leE,leH,leB,leV,aZ,aD,aB,wfE,wfB,wfV,wfL,yae,oF,bW,yaa]
 simp only [br,decide_eq_true_eq,decide_eq_false_iff_not]
 refine fun _=>⟨fun h2=>?_,fun h2=>?_⟩
 ·have hk1:k<arcs.length:=by omega
  have hk2:k<flow.length:=by omega
  have bad:¬(0≤flow[k]∧flow[k]≤arcs[k].cap)→false=flB N arcs f t flow:=fun h=>Mx fun hO=>h (hO.hp k hk2 hk1)
  have good:(0≤flow[k]∧flow[k]≤arcs[k].cap)→PInv arcs flow (k+1):=by
   refine fun hx=>⟨fun j h3 h4 h5=>?_⟩
   by_cases h6:j=k
   ·subst h6;exact hx
   ·exact hv.h j h3 h4 (by omega)
  simp only [lo,hi,maxLen] at *
  repeat' (first|(refine ⟨(k+1:_),?_⟩)|(refine ⟨by omega,?_⟩)|(refine And.intro ?_ ?_)|(refine (fun _=>?_)))
  all_goals first|omega|(apply bad;omega)|(apply good;omega)
 have hp:Mg arcs flow:=fun i h3 h4=>hv.h i h3 h4 (by omega)
 have hf:=hV.flow hl hp
 refine aT (fun k:Nat=>⟨[(10,.i k),(4,.ptr 0 0 0),(3,.ro 1 (flow.map encI)),(2,.i t),(1,.i f)],[.var [.i N,.ro 4 (arcs.map Arc.enc)]],0⟩) (fun k=>k≤N∧agN arcs f t flow k) (fun k=>N-k) 0 ⟨by omega,⟨by simp⟩⟩ ?_ ?_
 ·simp -implicitDefEqProofs only [rX,↓reduceIte,Nat.reduceEqDiff,leE,leH,leB,leV,aZ,aD,aB,wfE,wfB,wfV,wfL,aZ,leV,yal]
 rintro k ⟨hk,hv⟩
 simp -implicitDefEqProofs only [rX,↓rY,aA,↓reduceIte,Nat.reduceEqDiff,Nat.reduceAdd,aL,aM,leE,leH,leB,leV,aZ,aD,aB,wfE,wfB,wfV,wfL]
 simp only [br,decide_eq_true_eq,decide_eq_false_iff_not,bne_iff_ne,bne_eq_false_iff_eq]
 have hnx:((k:Int)≠f→(k:Int)≠t→valTo arcs k flow arcs.length=0)→agN arcs f t flow (k+1):=by
  refine fun h4=>⟨fun j hj=>?_⟩
  by_cases h6:j=k
  ·subst h6;exact h4
  ·exact hv.h j (by omega)
 refine ⟨fun h3=>⟨fun h1=>⟨fun h2=>?_,fun h2=>?_⟩,fun h1=>?_⟩,fun h3=>?_⟩
 ·refine aE (adS N k arcs flow hl (by omega) hf) (by simp [net,li,aF,aG,aN,bD,wkL,wk,wkR]) rfl trivial ?_
  simp -implicitDefEqProofs only [rX,↓rY,aA,↓reduceIte,Nat.reduceEqDiff,aL,aM,leE,leH,leB,leV,aZ,aD,aB,wfE,wfB,wfV,wfL]
  simp only [br,decide_eq_true_eq,decide_eq_false_iff_not,bne_iff_ne,bne_eq_false_iff_eq,lo,hi]
  refine ⟨fun h5=>Mx fun hO=>h5 (hO.hz k (by omega) (by omega) h1 h2),fun h5=>?_⟩
  repeat' (first|(refine ⟨(k+1:_),?_⟩)|(refine ⟨by omega,?_⟩)|(refine And.intro ?_ ?_)|(refine (fun _=>?_)))
  all_goals first|omega|exact hnx fun _ _=>h5
 ·simp only [lo,hi]
  repeat' (first|(refine ⟨(k+1:_),?_⟩)|(refine ⟨by omega,?_⟩)|(refine And.intro ?_ ?_)|(refine (fun _=>?_)))
  all_goals first|omega|exact hnx fun _ h=>absurd h2 h
 ·simp only [lo,hi]
  repeat' (first|(refine ⟨(k+1:_),?_⟩)|(refine ⟨by omega,?_⟩)|(refine And.intro ?_ ?_)|(refine (fun _=>?_)))
  all_goals first|omega|exact hnx fun h _=>absurd h1 h
 ·refine Yr ⟨hl,hp,fun j h1 h2 h4 h6=>?_⟩
  have:=(hv.h j.toNat (by omega))
  rw [Int.toNat_of_nonneg h1] at this
  exact this h4 h6
def hasB (l:List Int) (x:Int):Bool:=decide (x∈l)
structure alY (l:List Int) (x:Int) (k:Nat):Prop where
 h:∀ j (h1:j<l.length),j<k→l[j]≠x
theorem Mh (l:List Int) (x:Int):Ok 133 [li l,.i x] (Is (.b (hasB l x))):=by
 refine ok_of lw133 (by simp) ?_
 unfold c133 li
 simp -implicitDefEqProofs only [rX,aA,cxN,aK]
 refine aT (fun k:Nat=>⟨[(5,.i k),(1,.i x),(0,.ro 1 (l.map encI))],[],0⟩) (fun k=>k≤l.length∧alY l x k) (fun k=>l.length-k) 0 ⟨by omega,⟨by simp⟩⟩ ?_ ?_
 ·simp -implicitDefEqProofs only [rX,↓reduceIte,Nat.reduceEqDiff,reduceCtorEq,leE,leH,aD,wfE,wfB,wfV,yal]
 rintro k ⟨hk,hv⟩
 simp -implicitDefEqProofs only [rX,↓rY,aA,↓reduceIte,Nat.reduceEqDiff,reduceCtorEq,aL,aM,leE,leH,aD,wfE,wfB,wfV,yae,bW,yaa]
 simp only [br,decide_eq_true_eq,decide_eq_false_iff_not,beq_iff_eq,beq_eq_false_iff_ne]
 refine fun _=>⟨fun h2=>⟨⟨by omega,h2⟩,by omega,fun h3=>?_,fun h3=>⟨by simp only [lo,hi,maxLen] at *;omega,k+1,⟨⟨by omega,⟨fun j hj h2=>?_⟩⟩,by omega⟩,by simp⟩⟩,fun h2=>?_⟩
 ·have:x∈l:=by rw [←h3];exact yas _
  simp [hasB,this]
 ·by_cases h6:j=k
  ·subst h6;exact h3
  ·exact hv.h j hj (by omega)
 ·have:¬x∈l:=by
   intro hx
   obtain ⟨j,hj,rfl⟩:=ybf hx
   exact hv.h j hj (by omega) rfl
  simp [hasB,this]
structure OkP (N:Nat) (arcs:List Arc) (f:Int) (flow price:List Int):Prop where
 hl:price.length=N
 h0:price.getD f.toNat 0=0
 hb:∀ j (h:j<price.length),0≤price[j]∧price[j]≤1073741824
 ha:∀ k (h:k<arcs.length),(arcs[k].cost+price.getD arcs[k].from_.toNat 0-price.getD arcs[k].to.toNat 0<0→arcs[k].cap≤flow.getD k 0)∧(0<arcs[k].cost+price.getD arcs[k].from_.toNat 0-price.getD arcs[k].to.toNat 0→flow.getD k 0≤0)
open Classical in
noncomputable def prB (N:Nat) (arcs:List Arc) (f:Int) (flow price:List Int):Bool:=decide (OkP N arcs f flow price)
theorem Mf {N:Nat} {arcs:List Arc} {f:Int} {flow price:List Int} (h:OkP N arcs f flow price):true=prB N arcs f flow price:=by simp [prB,h]
theorem pV {N:Nat} {arcs:List Arc} {f:Int} {flow price:List Int} (h:¬OkP N arcs f flow price):false=prB N arcs f flow price:=by simp [prB,h]
theorem getD_at {l:List Int} {i:Int} (h:0≤i∧i<l.length):l.getD i.toNat 0=l[i.toNat]'(by omega):=by
 rw [yak,yam (by omega)];rfl
theorem bV {l:List Int} {k:Nat} (h:k<l.length):l.getD k 0=l[k]:=by
 rw [yak,yam h];rfl
structure BInv (price:List Int) (k:Nat):Prop where
 h:∀ j (h:j<price.length),j<k→0≤price[j]∧price[j]≤1073741824
structure RInv (arcs:List Arc) (flow price:List Int) (k:Nat):Prop where
 h:∀ k' (h:k'<arcs.length),k'<k→(arcs[k'].cost+price.getD arcs[k'].from_.toNat 0-price.getD arcs[k'].to.toNat 0<0→arcs[k'].cap≤flow.getD k' 0)∧(0<arcs[k'].cost+price.getD arcs[k'].from_.toNat 0-price.getD arcs[k'].to.toNat 0→flow.getD k' 0≤0)
theorem RInv.next {arcs:List Arc} {flow price:List Int} {k:Nat} (hv:RInv arcs flow price k) (hk:k<arcs.length) (h:(arcs[k].cost+price.getD arcs[k].from_.toNat 0-price.getD arcs[k].to.toNat 0<0→arcs[k].cap≤flow.getD k 0)∧(0<arcs[k].cost+price.getD arcs[k].from_.toNat 0-price.getD arcs[k].to.toNat 0→flow.getD k 0≤0)):RInv arcs flow price (k+1):=by
 refine ⟨fun j hj h2=>?_⟩
 by_cases h6:j=k
 ·subst h6;exact h
 ·exact hv.h j hj (by omega)
theorem aeR (N:Nat) (arcs:List Arc) (f:Int) (fr:Fr) (hV:Val N arcs) (hf:0≤f∧f<N) (hl:fr.flow.length=arcs.length):Ok 104 [net N arcs,.i f,fr.enc] (Is (.b (prB N arcs f fr.flow fr.price))):=by
 refine ok_of lw104 (by simp) ?_
 unfold c104 net Fr.enc li
 simp -implicitDefEqProofs only [rX,↓rY,aA,cells?,↓reduceIte,Nat.reduceEqDiff,Nat.reduceAdd,reduceCtorEq,aC,aL,aM,wfV,yae,bW,cxN,aK]
 simp only [br,decide_eq_true_eq,decide_eq_false_iff_not,bne_iff_ne,bne_eq_false_iff_eq]
 have hL:=hV.hl
 have hN:=hV.hn
 refine fun hm1=>⟨fun h=>pV fun hO=>?_,fun h=>?_⟩
 ·have:=hO.hl;omega
 have hpl:fr.price.length=N:=by omega
 refine ⟨⟨hf.1,by omega⟩,by omega,fun h0=>pV fun hO=>?_,fun h0=>?_⟩
 ·have:=hO.h0
  rw [getD_at (by omega)] at this
  exact h0 this
 refine aT (fun k:Nat=>⟨[(7,.i k),(5,.ptr 1 0 0),(3,.ptr 0 0 0),(1,.i f)],[.var [.i N,.ro 4 (arcs.map Arc.enc)],.var [.i fr.sent,.i fr.cost,.ro 1 (fr.flow.map encI),.ro 1 (fr.price.map encI),.ro 1 (fr.cut.map encI)]],0⟩) (fun k=>k≤N∧BInv fr.price k) (fun k=>N-k) 0 ⟨by omega,⟨by simp⟩⟩ ?_ ?_
 ·simp -implicitDefEqProofs only [rX,↓reduceIte,Nat.reduceEqDiff,reduceCtorEq,leE,leH,leB,leV,aZ,aD,aB,wfE,wfB,wfV,wfL,aZ,leV,yal]
 rintro k ⟨hk,hv⟩
 simp -implicitDefEqProofs only [rX,↓rY,aA,↓reduceIte,Nat.reduceEqDiff,Nat.reduceAdd,aL,aM,leE,leH,leB,leV,aZ,aD,aB,wfE,wfB,wfV,wfL,yae,bW,yaa]
 simp only [br,decide_eq_true_eq,decide_eq_false_iff_not]
 refine ⟨fun h2=>?_,fun h2=>?_⟩
 ·have hk1:k<fr.price.length:=by omega
  have bad:¬(0≤fr.price[k]∧fr.price[k]≤1073741824)→false=prB N arcs f fr.flow fr.price:=fun h=>pV fun hO=>h (hO.hb k hk1)
  have good:(0≤fr.price[k]∧fr.price[k]≤1073741824)→BInv fr.price (k+1):=by
   refine fun hx=>⟨fun j h3 h5=>?_⟩
   by_cases h6:j=k
   ·subst h6;exact hx
   ·exact hv.h j h3 (by omega)
  simp only [lo,hi,maxLen] at *
  repeat' (first|(refine ⟨(k+1:_),?_⟩)|(refine ⟨by omega,?_⟩)|(refine And.intro ?_ ?_)|(refine (fun _=>?_)))
  all_goals first|omega|(apply bad;omega)|(apply good;omega)
 have hb:∀ j (h:j<fr.price.length),0≤fr.price[j]∧fr.price[j]≤1073741824:=fun j hj=>hv.h j hj (by omega)
 refine aT (fun k:Nat=>⟨[(8,.i k),(5,.ptr 1 0 0),(3,.ptr 0 0 0),(1,.i f)],[.var [.i N,.ro 4 (arcs.map Arc.enc)],.var [.i fr.sent,.i fr.cost,.ro 1 (fr.flow.map encI),.ro 1 (fr.price.map encI),.ro 1 (fr.cut.map encI)]],0⟩) (fun k=>k≤arcs.length∧RInv arcs fr.flow fr.price k) (fun k=>arcs.length-k) 0 ⟨by omega,⟨by simp⟩⟩ ?_ ?_
 ·simp -implicitDefEqProofs only [rX,↓reduceIte,Nat.reduceEqDiff,leE,leH,leB,leV,aZ,aD,aB,wfE,wfB,wfV,wfL,aZ,leV,yal]
 rintro k ⟨hk,hv⟩
 simp -implicitDefEqProofs only [rX,↓rY,aA,cells?,splice,↓reduceIte,Nat.reduceEqDiff,Nat.reduceAdd,aC,aL,aM,leE,leH,leB,leV,aZ,aD,aB,wfE,wfB,wfV,wfL,yae,enc_len,eE,lO,lN,oF,p6,e7,bW,yaa]
 simp only [br,decide_eq_true_eq,decide_eq_false_iff_not]
 refine fun hm2=>⟨fun h2=>?_,fun h2=>?_⟩
 ·have hk1:k<arcs.length:=by omega
  have hk2:k<fr.flow.length:=by omega
  have hva:=hV.ha arcs[k] (yas hk1)
  have b1:=hb arcs[k].from_.toNat (by omega)
  have b2:=hb arcs[k].to.toNat (by omega)
  have bad:¬(_∧_)→false=prB N arcs f fr.flow fr.price:=fun h=>pV fun hO=>h (hO.ha k hk1)
  have good:=hv.next hk1
  rw [getD_at (by omega),getD_at (by omega),bV hk2] at bad good
  simp only [lo,hi,maxLen] at *
  repeat' (first|(refine ⟨(k+1:_),?_⟩)|(refine ⟨by omega,?_⟩)|(refine And.intro ?_ ?_)|(refine (fun _=>?_)))
  all_goals first|omega|(apply bad;omega)|(apply good;omega)
 ·refine Mf ⟨hpl,?_,hb,fun j hj=>hv.h j hj (by omega)⟩
  rw [getD_at (by omega)];exact h0
end Go.Fx.P.K
